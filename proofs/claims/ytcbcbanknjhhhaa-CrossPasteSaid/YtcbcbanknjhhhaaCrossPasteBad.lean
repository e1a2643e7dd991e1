/- The walk of CrossPaste. Conditions: the arguments read as told. -/
import Derived.Test.YtcbcbanknjhhhaaCrossSign
import Derived.Test.YtcbcbanknjhhhaaPasteLaw
import Derived.Test.YtcbcbanknjhhhaaTapeOpen
import Derived.Test.YtcbcbanknjhhhaaInts
namespace Go.Proofs.Ytcbcbanknjhhhaa
open Go.ChangeShapes Go.WideShapes Go.ChangeAt Go.RowKit
set_option linter.unusedVariables false
set_option maxRecDepth 100000 in
set_option maxHeartbeats 4000000 in
theorem crossPaste.bad (w : World) (S Y : Int) (T : Option Addr) (n tc : Nat) (R : Nat → SI) (A : Option Addr) (k c : Nat) (g : Nat → Int) (A' : Option Addr) (k' c' : Nat) (g' : Nat → Int) (i1 i2 : Int)
    (wS : (Lit.int .i64 S).wf = true) (gT : Tm w T n R) (hn : n ≤ maxLen) (hA : Rd w A k (fun i => .int .i64 (g i))) (hk : k ≤ maxLen) (hA' : Rd w A' k' (fun i => .int .i64 (g' i))) (hk' : k' ≤ maxLen) (hE : ¬ (rcE S Y n R k g 60 = 0 ∧ rcE S Y n R k' g' 60 = 0)) :
    Calls Try.prog 4 #[.agg #[.int .i64 S, .int .i64 Y, .slice T n tc], .slice A k c, .slice A' k' c', .int .u8 i1, .int .u8 i2] w fun e w' => e = .returned (.bool true) ∧ Below w.heap.size w w' := by
  have HT := Lib.hid gT
  have HA := Lib.hid hA
  have HA' := Lib.hid hA'
  have WS := Lib.hid wS
  have HN := Lib.hid hn
  have HK := Lib.hid hk
  have HK' := Lib.hid hk'
  have HE := Lib.hid hE
  clear gT hA hA' wS hn hk hk' hE
  go_enter Try.func4, Try.ntmps4
  go_wp2_with fail
  have hm := mc_new w 24 S Y (.slice T n tc)
  have hB1 := (Below.refl w.heap.size w).alloc (Nat.le_refl _) (.cells #[.int .i64 S, .int .i64 Y, .slice T n tc] 24)
  obtain ⟨W1, hW1⟩ : ∃ X, X = w.alloc (.cells #[.int .i64 S, .int .i64 Y, .slice T n tc] 24) := ⟨_, rfl⟩
  have sW : W1.heap.size = w.heap.size + 1 := by rw [hW1]; simp
  rw [← hW1] at hm hB1 ⊢
  clear hW1
  have HB1 := Lib.hid hB1
  clear hB1
  obtain ⟨E, hEe⟩ : ∃ E, E = rcE S Y n R k g 60 := ⟨_, rfl⟩
  obtain ⟨F, hFe⟩ : ∃ E, E = rcE S Y n R k' g' 60 := ⟨_, rfl⟩
  have HEE := Lib.hid hEe
  have HFE := Lib.hid hFe
  clear hEe hFe
  refine (all_some S Y 60 T A n tc k c R g _ (HT.out.below HB1.out) HN.out (HA.out.below HB1.out) HK.out).mono ?_
  rintro e w2 ⟨⟨X1, M1, C1, rfl⟩, hb2⟩
  rw [← HEE.out]
  have s2 := hb2.size
  have HM2 := Lib.hid (row_below hm hb2 (by omega))
  have HB2 := Lib.hid (HB1.out.trans (hb2.mono HB1.out.size))
  obtain ⟨z0, x0, x1, x2⟩ := mc_open HM2.out
  clear hm hb2
  go_wp2_with fail
  clear x0 x1 x2
  refine (all_some S Y 60 T A' n tc k' c' R g' _ (HT.out.below HB2.out) HN.out (HA'.out.below HB2.out) HK'.out).mono ?_
  rintro e w3 ⟨⟨X2, M2, C2, rfl⟩, hb3⟩
  rw [← HFE.out]
  have s3 := hb3.size
  have HM3 := Lib.hid (row_below HM2.out hb3 (by omega))
  have HB3 := Lib.hid (HB2.out.trans (hb3.mono HB2.out.size))
  obtain ⟨z1, x0, x1, x2⟩ := mc_open HM3.out
  clear hb3 HM2
  go_wp2_with fail
  clear x0 x1 x2
  refine (runs_some S Y 60 T A n tc k c R g _ (HT.out.below HB3.out) HN.out (HA.out.below HB3.out) HK.out).mono ?_
  rintro e w4 ⟨⟨s4, h4, lo4, d4, X4, M4, C4, rfl⟩, hb4⟩
  rw [← HEE.out]
  have s4' := hb4.size
  have HM4 := Lib.hid (row_below HM3.out hb4 (by omega))
  have HB4 := Lib.hid (HB3.out.trans (hb4.mono HB3.out.size))
  obtain ⟨z2, x0, x1, x2⟩ := mc_open HM4.out
  have HB5 := Lib.hid (HB4.out.alloc (by omega) (.cells #[.int .i64 s4, .int .i64 h4, .int .i64 lo4, .slice X4 M4 C4] 31))
  have HM5 := Lib.hid (HM4.out.alloc (.cells #[.int .i64 s4, .int .i64 h4, .int .i64 lo4, .slice X4 M4 C4] 31))
  clear hb4 HM3
  go_wp2_with fail
  clear x0 x1 x2
  obtain ⟨W5, hW5⟩ : ∃ X, X = w4.alloc (.cells #[.int .i64 s4, .int .i64 h4, .int .i64 lo4, .slice X4 M4 C4] 31) := ⟨_, rfl⟩
  have sW5 : W5.heap.size = w4.heap.size + 1 := by rw [hW5]; simp
  rw [← hW5] at HB5 HM5 ⊢
  clear hW5
  refine (runs_some S Y 60 T A' n tc k' c' R g' _ (HT.out.below HB5.out) HN.out (HA'.out.below HB5.out) HK'.out).mono ?_
  rintro e w6 ⟨⟨s6, h6, lo6, d6, X6, M6, C6, rfl⟩, hb6⟩
  rw [← HFE.out]
  have s6' := hb6.size
  have HM6 := Lib.hid (row_below HM5.out hb6 (by omega))
  have HB6 := Lib.hid (HB5.out.trans (hb6.mono HB5.out.size))
  obtain ⟨z3, x0, x1, x2⟩ := mc_open HM6.out
  have HB7 := Lib.hid (HB6.out.alloc (by omega) (.cells #[.int .i64 s6, .int .i64 h6, .int .i64 lo6, .slice X6 M6 C6] 31))
  have HM7 := Lib.hid (HM6.out.alloc (.cells #[.int .i64 s6, .int .i64 h6, .int .i64 lo6, .slice X6 M6 C6] 31))
  clear hb6 HM5 HM4
  go_wp2_with fail
  clear x0 x1 x2
  obtain ⟨W7, hW7⟩ : ∃ X, X = w6.alloc (.cells #[.int .i64 s6, .int .i64 h6, .int .i64 lo6, .slice X6 M6 C6] 31) := ⟨_, rfl⟩
  rw [← hW7] at HB7 HM7 ⊢
  clear hW7
  by_cases hE0 : E = 0
  · subst hE0
    have hF : F ≠ 0 := fun h => HE.out ⟨HEE.out.symm, by rw [← HFE.out]; exact h⟩
    have hq : (F != 0) = true := by rw [bne_iff_ne]; exact hF
    have hFn : rcE S Y n R k' g' 60 ≠ 0 := by rw [← HFE.out]; exact hF
    have HFN := Lib.hid hFn
    clear hFn
    refine (can_yes S Y 60 T A n tc k c R g _ (HT.out.below HB7.out) HN.out (HA.out.below HB7.out) HK.out WS.out HEE.out.symm).mono ?_
    rintro e w8 ⟨rfl, hb8⟩
    have HM8 := Lib.hid (row_below HM7.out hb8 HM7.out.lt)
    have HB8 := Lib.hid (HB7.out.trans (hb8.mono HB7.out.size))
    obtain ⟨z4, x0, x1, x2⟩ := mc_open HM8.out
    clear hb8
    go_wp2_with fail
    clear x0 x1 x2
    refine (can_no S Y 60 T A' n tc k' c' R g' _ (HT.out.below HB8.out) HN.out (HA'.out.below HB8.out) HK'.out WS.out HFN.out).mono ?_
    rintro e w9 ⟨rfl, hb9⟩
    have HB9 := Lib.hid (HB8.out.trans (hb9.mono HB8.out.size))
    clear hb9
    go_wp2_with fail
    go_ret
    exact ⟨rfl, HB9.out⟩
  · have hq : (E != 0) = true := by rw [bne_iff_ne]; exact hE0
    have hEn : rcE S Y n R k g 60 ≠ 0 := by rw [← HEE.out]; exact hE0
    have HEN := Lib.hid hEn
    clear hEn
    refine (can_no S Y 60 T A n tc k c R g _ (HT.out.below HB7.out) HN.out (HA.out.below HB7.out) HK.out WS.out HEN.out).mono ?_
    rintro e w8 ⟨rfl, hb8⟩
    have HB8 := Lib.hid (HB7.out.trans (hb8.mono HB7.out.size))
    clear hb8
    go_wp2_with fail
    go_ret
    exact ⟨rfl, HB8.out⟩
end Go.Proofs.Ytcbcbanknjhhhaa
