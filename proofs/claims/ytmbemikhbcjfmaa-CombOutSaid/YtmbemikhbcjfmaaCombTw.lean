/- The statements' treeWrong: false where the list may be. Condition: the list reads as told. -/
import Derived.Test.YtmbemikhbcjfmaaCombDec
import Derived.Test.YtmbemikhbcjfmaaInside
import Derived.Test.YtmbemikhbcjfmaaCombRef3
namespace Go.Proofs.Ytmbemikhbcjfmaa
open Go.ChangeShapes Go.WideShapes Go.ChangeAt Go.RowKit
set_option linter.unusedVariables false
set_option linter.unusedSimpArgs false
set_option maxRecDepth 100000 in
set_option maxHeartbeats 4000000 in
theorem treeWrong_no (A : Option Addr) (n c : Nat) (L : Nat → Cb) (w : World) (h : Rd w A (n * 4) (lcC L)) (hok : OkC L n) (hn : n ≤ 300) :
    Calls Try.prog 9 #[.slice A n c] w fun e w' => e = .returned (.bool false) ∧ Below w.heap.size w w' := by
  have H := Lib.hid h
  have HOK := Lib.hid hok
  clear h hok
  go_enter Try.func9, Try.ntmps9
  go_wp2_with fail
  go_loopw [7] (fun s7 wr => ∃ i : Nat, i ≤ n ∧ s7 = .int .i64 (i : Nat) ∧ Hid (Below w.heap.size w wr)) (fun s7 _ => n - (intOf s7).toNat)
  case atStart => exact ⟨0, Nat.zero_le _, rfl, Lib.hid (Below.refl _ _)⟩
  case round =>
    obtain ⟨wo, rfl⟩ : ∃ wo : World, wo = wr := ⟨_, rfl⟩
    obtain ⟨i, hi, rfl, HB⟩ := hrel
    by_cases hin : i < n
    · obtain ⟨b, o, rfl, hb, _⟩ := H.out.at_ (show 0 < n * 4 by omega)
      obtain ⟨k0, k1, k2, k3⟩ := lc_at (H.out.below HB.out) hin
      obtain ⟨v1, v2, v3⟩ := cC_zero (HOK.out i hin)
      have hbo : b < wo.heap.size := by have := HB.out.size; omega
      obtain ⟨K, hK⟩ : ∃ K, K = (L i).1 := ⟨_, rfl⟩
      obtain ⟨xa, hxa⟩ : ∃ K, K = (L i).2.1 := ⟨_, rfl⟩
      obtain ⟨xb, hxb⟩ : ∃ K, K = (L i).2.2.1 := ⟨_, rfl⟩
      obtain ⟨xv, hxv⟩ : ∃ K, K = (L i).2.2.2 := ⟨_, rfl⟩
      rw [← hK] at k0 v1 v3
      rw [← hxa] at k1 v3
      rw [← hxb] at k2 v3
      rw [← hxv] at k3
      clear hK hxa hxb hxv v2
      obtain ⟨Wn, hWn⟩ : ∃ W, W = wo.alloc (.cells #[.int .i64 K, .int .i64 xa, .int .i64 xb, .int .i64 xv] 37) := ⟨_, rfl⟩
      have HBA : Hid (Below w.heap.size w Wn) := Lib.hid (by rw [hWn]; exact HB.out.alloc HB.out.size _)
      have hrec : Wn.rowIs wo.heap.size 37 4 (c1C (K, xa, xb, xv)) := by rw [hWn]; exact row4 wo _ _ _ _ _ _ rfl rfl rfl rfl
      have e0 : Wn.cell? ⟨wo.heap.size, 0, none⟩ = some (.int .i64 K) := hrec.cell (i := 0) (by omega)
      have e1 : Wn.cell? ⟨wo.heap.size, 1, none⟩ = some (.int .i64 xa) := hrec.cell (i := 1) (by omega)
      have e2 : Wn.cell? ⟨wo.heap.size, 2, none⟩ = some (.int .i64 xb) := hrec.cell (i := 2) (by omega)
      have HWN := Lib.hid hWn
      have hlt := hrec.lt
      have hw1 := within_any 1 K 4 Wn
      rw [inB_yes v1.1 v1.2] at hw1
      have HW1 := Lib.hid hw1
      clear hWn hrec hw1
      by_cases hk4 : K = 4
      · subst hk4
        have hv := v3 rfl
        have hins := inside_any (i : Nat) (some ⟨Wn.heap.size, 0, none⟩) 2 2 (fun i => if i = 0 then xa else xb) (Wn.alloc (.cells #[.int .i64 xa, .int .i64 xb] 3)) (ins2 Wn xa xb _) (by decide)
        rw [insB_iff.2 fun j hj => by
          match j, hj with
          | 0, _ => exact hv.1
          | 1, _ => exact hv.2] at hins
        have HINS := Lib.hid hins
        clear hins v3 hv
        go_wp2_with fail
        rw [← HWN.out]
        refine HW1.out.mono ?_
        rintro e w2 ⟨rfl, rfl⟩
        go_wp2_with fail
        refine HINS.out.mono ?_
        rintro e w2 ⟨rfl, rfl⟩
        go_wp2_with fail
        go_roundw
        case rel => exact ⟨i + 1, by omega, by go_num, Lib.hid (HBA.out.alloc HBA.out.size _)⟩
        case measure => simp [intOf]; omega
      · have q4 : (K == 4) = false := by rw [beq_eq_false_iff_ne]; exact hk4
        clear v3
        go_wp2_with fail
        rw [← HWN.out]
        refine HW1.out.mono ?_
        rintro e w2 ⟨rfl, rfl⟩
        go_wp2_with fail
        go_roundw
        case rel => exact ⟨i + 1, by omega, by go_num, HBA⟩
        case measure => simp [intOf]; omega
    · obtain rfl : i = n := by omega
      go_wp2_with fail
      go_ret
      exact ⟨ret_bool (decide_eq_false (by omega)), HB.out⟩
end Go.Proofs.Ytmbemikhbcjfmaa
