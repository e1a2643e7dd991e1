/- What the references' RunCheck, GoCheck and Nows compute. Conditions: as each theorem states. -/
import Derived.Test.YtcbcbanknjhhhaaTapeRef
import Derived.Test.YtcbcbanknjhhhaaTapeMach
import Derived.Test.YtcbcbanknjhhhaaInts
namespace Go.Proofs.Ytcbcbanknjhhhaa
open Go.ChangeShapes Go.WideShapes Go.ChangeAt Go.RowKit
set_option linter.unusedVariables false
set_option maxRecDepth 100000 in
set_option maxHeartbeats 4000000 in
theorem runcheck_any (S Y steps : Int) (T A : Option Addr) (n tc k c : Nat) (R : Nat → SI) (g : Nat → Int) (w : World) (hT : Tm w T n R) (hn : n ≤ maxLen) (hA : Rd w A k (fun i => .int .i64 (g i))) (hk : k ≤ maxLen) (wS : (Lit.int .i64 S).wf = true) :
    Calls Try.prog 15 #[.agg #[.int .i64 S, .int .i64 Y, .slice T n tc], .slice A k c, .int .i64 steps] w fun e w' => e = .returned (.int .i64 (rcE S Y n R k g steps)) ∧ Below w.heap.size w w' := by
  have HT := Lib.hid hT
  have HA := Lib.hid hA
  have WS := Lib.hid wS
  have HK := Lib.hid hk
  have hk2 := hk
  unfold maxLen at hk2
  clear hT hA wS hk
  go_enter Try.func15, Try.ntmps15
  go_wp2_with fail
  have b0 : (w.alloc (.cells #[.int .i64 S, .int .i64 Y, .slice T n tc] 24)).cell? ⟨w.heap.size, 0, none⟩ = some (.int .i64 S) := by
    simp [go_sem]
  have b1 : (w.alloc (.cells #[.int .i64 S, .int .i64 Y, .slice T n tc] 24)).cell? ⟨w.heap.size, 1, none⟩ = some (.int .i64 Y) := by
    simp [go_sem]
  have b2 : (w.alloc (.cells #[.int .i64 S, .int .i64 Y, .slice T n tc] 24)).cell? ⟨w.heap.size, 2, none⟩ = some (.slice T n tc) := by
    simp [go_sem]
  have hB1 := ((Below.refl w.heap.size w).alloc (Nat.le_refl _) (.cells #[.int .i64 S, .int .i64 Y, .slice T n tc] 24))
  obtain ⟨W1, hW1⟩ : ∃ X, X = (w.alloc (.cells #[.int .i64 S, .int .i64 Y, .slice T n tc] 24)) := ⟨_, rfl⟩
  have sW : W1.heap.size = w.heap.size + 1 := by rw [hW1]; simp
  rw [← hW1] at b0 b1 b2 hB1 ⊢
  clear hW1
  refine (machine_any S Y T n tc R _ (HT.out.below hB1) hn WS.out).mono ?_
  rintro e w2 ⟨rfl, hb2⟩
  have s2 := hb2.size
  have hB2 := hB1.trans (hb2.mono hB1.size)
  have d0 := (hb2.cell (p := ⟨w.heap.size, 0, none⟩) (by show w.heap.size < _; omega)).trans b0
  have d1 := (hb2.cell (p := ⟨w.heap.size, 1, none⟩) (by show w.heap.size < _; omega)).trans b1
  have d2 := (hb2.cell (p := ⟨w.heap.size, 2, none⟩) (by show w.heap.size < _; omega)).trans b2
  have HB2 := Lib.hid hB2
  clear b0 b1 b2 hB2 hb2
  obtain ⟨E, hEe⟩ : ∃ E, E = tpE S Y n R := ⟨_, rfl⟩
  rw [← hEe]
  have HEE := Lib.hid hEe
  clear hEe
  by_cases hE0 : E = 0
  · subst hE0
    by_cases hk8 : 8 < k
    · have hcode : rcE S Y n R k g steps = 1 := by unfold rcE; rw [← HEE.out, if_neg (by omega), if_pos (hk8)]
      have HCD := Lib.hid hcode
      clear hcode
      go_wp2_with fail
      go_ret
      exact ⟨ret_int HCD.out.symm, HB2.out⟩
    · go_wp2_with fail
      refine (inside_any Y A k c g _ (HA.out.below HB2.out) HK.out).mono ?_
      rintro e w' ⟨rfl, rfl⟩
      cases hg : insB Y k g with
      | false =>
        have hcode : rcE S Y n R k g steps = 2 := by unfold rcE; rw [← HEE.out, if_neg (by omega), if_neg (by omega), if_pos (by first | rfl | exact hg)]
        have HCD := Lib.hid hcode
        clear hcode
        go_wp2_with fail
        go_ret
        exact ⟨ret_int HCD.out.symm, HB2.out⟩
      | true =>
        go_wp2_with fail
        refine (within_any _ _ _ _).mono ?_
        rintro e w' ⟨rfl, rfl⟩
        by_cases hs : 0 ≤ steps ∧ steps ≤ 60
        · have hcode : rcE S Y n R k g steps = 0 := by unfold rcE; rw [← HEE.out, if_neg (by omega), if_neg (by omega), if_neg (by rw [hg]; simp), if_neg (by omega)]
          have HCD := Lib.hid hcode
          clear hcode
          rw [inB_yes hs.1 hs.2]
          go_wp2_with fail
          go_ret
          exact ⟨ret_int HCD.out.symm, HB2.out⟩
        · have hcode : rcE S Y n R k g steps = 7 := by unfold rcE; rw [← HEE.out, if_neg (by omega), if_neg (by omega), if_neg (by rw [hg]; simp), if_pos (by omega)]
          have HCD := Lib.hid hcode
          clear hcode
          rw [inB_no hs]
          go_wp2_with fail
          go_ret
          exact ⟨ret_int HCD.out.symm, HB2.out⟩
  · have hq : (E != 0) = true := by rw [bne_iff_ne]; exact hE0
    have hcode : rcE S Y n R k g steps = E := by unfold rcE; rw [← HEE.out, if_pos (hE0)]
    have HCD := Lib.hid hcode
    clear hcode
    go_wp2_with fail
    go_ret
    exact ⟨ret_int HCD.out.symm, HB2.out⟩
end Go.Proofs.Ytcbcbanknjhhhaa
