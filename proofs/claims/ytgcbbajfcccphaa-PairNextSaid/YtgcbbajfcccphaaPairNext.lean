/- The next number is that of the neighbouring pair on the diagonal, or the first of the next diagonal. No condition: every two integers. -/
import Derived.Test.YtgcbbajfcccphaaPairFns

namespace Go.Proofs.Ytgcbbajfcccphaa.pairNext
open Go.ChangeShapes Go.WideShapes Go.ChangeAt Go.RowKit PairM
set_option linter.unusedVariables false
theorem walk (w : World) (a b : Int) (w0 : (Lit.int .i64 a).wf = true) (w1 : (Lit.int .i64 b).wf = true) :
    Calls Try.prog 3 #[.int .i64 a, .int .i64 b] w fun e w' => e = .returned (.bool true) ∧ Below w.heap.size w w' := by
  by_cases ha : 0 ≤ a ∧ a ≤ 1000000
  · by_cases hb : 0 ≤ b ∧ b ≤ 1000000
    · obtain ⟨a0, a1⟩ := ha
      obtain ⟨b0, b1⟩ := hb
      have ea : inB 0 a 1000000 = true := inB_yes (by omega) (by omega)
      have eb : inB 0 b 1000000 = true := inB_yes (by omega) (by omega)
      have hb := tri_bd (by omega : 0 ≤ a + b) (by omega)
      obtain ⟨hb0, hb1⟩ := hb
      by_cases hz : a = 0
      · subst hz
        simp only [Int.zero_add] at hb0 hb1
        by_cases hc : b + 1 ≤ 1000000
        · have ec : inB 0 (b + 1) 1000000 = true := inB_yes (by omega) (by omega)
          have ed : inB 0 0 1000000 = true := inB_yes (by omega) (by omega)
          have hx : tri (b + 1 + 0) + 0 = tri (0 + b) + b + 1 := by rw [Int.add_zero (b + 1), tri_succ, Int.zero_add]; omega
          have HX := Lib.hid hx
          clear hx
          go_enter Try.func3, Try.ntmps3
          go_wp2_with fail
          refine (pair_ok _ _ _ (by omega) (by omega) (by omega) (by omega)).mono ?_; rintro e w' ⟨rfl, rfl⟩
          go_wp2_with (go_at_call 7; refine (within_any _ _ _ _).mono ?_; rintro e w' ⟨rfl, rfl⟩)
          refine (pair_ok _ _ _ (by omega) (by omega) (by omega) (by omega)).mono ?_; rintro e w' ⟨rfl, rfl⟩
          go_wp2_with (go_at_call 7; refine (within_any _ _ _ _).mono ?_; rintro e w' ⟨rfl, rfl⟩)
          go_ret
          exact ⟨ret_true (by have := HX.out; simp at this ⊢; omega), Below.refl _ _⟩
        · have ec : inB 0 (b + 1) 1000000 = false := inB_no (by omega)
          go_enter Try.func3, Try.ntmps3
          go_wp2_with fail
          refine (pair_ok _ _ _ (by omega) (by omega) (by omega) (by omega)).mono ?_; rintro e w' ⟨rfl, rfl⟩
          go_wp2_with (go_at_call 7; refine (within_any _ _ _ _).mono ?_; rintro e w' ⟨rfl, rfl⟩)
          refine (pair_bad _ _ _ (by omega)).mono ?_; rintro e w' ⟨rfl, rfl⟩
          go_wp2_with (go_at_call 7; refine (within_any _ _ _ _).mono ?_; rintro e w' ⟨rfl, rfl⟩)
          go_ret
          exact ⟨rfl, Below.refl _ _⟩
      · have hzz : (a == 0) = false := by simp [hz]
        have a2 : 1 ≤ a := by omega
        clear hz
        have ee : inB 0 (a - 1) 1000000 = true := inB_yes (by omega) (by omega)
        by_cases hc : b + 1 ≤ 1000000
        · have ec : inB 0 (b + 1) 1000000 = true := inB_yes (by omega) (by omega)
          have hx : tri (a - 1 + (b + 1)) + (b + 1) = tri (a + b) + b + 1 := by rw [show a - 1 + (b + 1) = a + b by omega]; omega
          have HX := Lib.hid hx
          clear hx
          go_enter Try.func3, Try.ntmps3
          go_wp2_with fail
          refine (pair_ok _ _ _ (by omega) (by omega) (by omega) (by omega)).mono ?_; rintro e w' ⟨rfl, rfl⟩
          go_wp2_with (go_at_call 7; refine (within_any _ _ _ _).mono ?_; rintro e w' ⟨rfl, rfl⟩)
          refine (pair_ok _ _ _ (by omega) (by omega) (by omega) (by omega)).mono ?_; rintro e w' ⟨rfl, rfl⟩
          go_wp2_with (go_at_call 7; refine (within_any _ _ _ _).mono ?_; rintro e w' ⟨rfl, rfl⟩)
          go_ret
          exact ⟨ret_true (by have := HX.out; simp at this ⊢; omega), Below.refl _ _⟩
        · have ec : inB 0 (b + 1) 1000000 = false := inB_no (by omega)
          go_enter Try.func3, Try.ntmps3
          go_wp2_with fail
          refine (pair_ok _ _ _ (by omega) (by omega) (by omega) (by omega)).mono ?_; rintro e w' ⟨rfl, rfl⟩
          go_wp2_with (go_at_call 7; refine (within_any _ _ _ _).mono ?_; rintro e w' ⟨rfl, rfl⟩)
          refine (pair_bad _ _ _ (by omega)).mono ?_; rintro e w' ⟨rfl, rfl⟩
          go_wp2_with (go_at_call 7; refine (within_any _ _ _ _).mono ?_; rintro e w' ⟨rfl, rfl⟩)
          go_ret
          exact ⟨rfl, Below.refl _ _⟩
    · obtain ⟨a0, a1⟩ := ha
      have ea : inB 0 a 1000000 = true := inB_yes (by omega) (by omega)
      have eb : inB 0 b 1000000 = false := inB_no (by omega)
      have HB := Lib.hid hb
      clear hb
      go_enter Try.func3, Try.ntmps3
      go_wp2_with fail
      refine (pair_bad _ _ _ (by have := HB.out; omega)).mono ?_; rintro e w' ⟨rfl, rfl⟩
      go_wp2_with (go_at_call 7; refine (within_any _ _ _ _).mono ?_; rintro e w' ⟨rfl, rfl⟩)
      go_ret
      exact ⟨rfl, Below.refl _ _⟩
  · have ea : inB 0 a 1000000 = false := inB_no (by omega)
    have HA := Lib.hid ha
    clear ha
    go_enter Try.func3, Try.ntmps3
    go_wp2_with fail
    refine (pair_bad _ _ _ (by have := HA.out; omega)).mono ?_; rintro e w' ⟨rfl, rfl⟩
    go_wp2_with (go_at_call 7; refine (within_any _ _ _ _).mono ?_; rintro e w' ⟨rfl, rfl⟩)
    go_ret
    exact ⟨rfl, Below.refl _ _⟩
end Go.Proofs.Ytgcbbajfcccphaa.pairNext
