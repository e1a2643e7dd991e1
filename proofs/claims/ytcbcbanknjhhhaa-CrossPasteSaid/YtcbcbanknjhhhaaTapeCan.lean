/- What the laws' can says. Conditions: as each theorem states. -/
import Derived.Test.YtcbcbanknjhhhaaTapeRef2
namespace Go.Proofs.Ytcbcbanknjhhhaa
open Go.ChangeShapes Go.WideShapes Go.ChangeAt Go.RowKit
set_option linter.unusedVariables false
set_option maxRecDepth 100000 in
theorem can_yes (S Y steps : Int) (T A : Option Addr) (n tc k c : Nat) (R : Nat → SI) (g : Nat → Int) (w : World) (hT : Tm w T n R) (hn : n ≤ maxLen) (hA : Rd w A k (fun i => .int .i64 (g i))) (hk : k ≤ maxLen) (wS : (Lit.int .i64 S).wf = true) (hE : rcE S Y n R k g steps = 0) :
    Calls Try.prog 7 #[.agg #[.int .i64 S, .int .i64 Y, .slice T n tc], .slice A k c, .int .i64 steps] w fun e w' => e = .returned (.bool true) ∧ Below w.heap.size w w' := by
  have HT := Lib.hid hT
  have HA := Lib.hid hA
  have WS := Lib.hid wS
  have HN := Lib.hid hn
  have HK := Lib.hid hk
  have HE := Lib.hid hE
  have HB1 := Lib.hid ((Below.refl w.heap.size w).alloc (Nat.le_refl _) (.cells #[.int .i64 S, .int .i64 Y, .slice T n tc] 24))
  clear hT hA wS hn hk hE
  go_enter Try.func7, Try.ntmps7
  go_wp2_with fail
  refine (runcheck_any S Y steps T A n tc k c R g _ (HT.out.below HB1.out) HN.out (HA.out.below HB1.out) HK.out WS.out).mono ?_
  rintro e w3 ⟨rfl, hb3⟩
  rw [HE.out]
  have HB4 := Lib.hid (HB1.out.trans (hb3.mono HB1.out.size))
  clear hb3
  go_wp2_with fail
  go_ret
  exact ⟨rfl, HB4.out⟩
set_option maxRecDepth 100000 in
theorem can_no (S Y steps : Int) (T A : Option Addr) (n tc k c : Nat) (R : Nat → SI) (g : Nat → Int) (w : World) (hT : Tm w T n R) (hn : n ≤ maxLen) (hA : Rd w A k (fun i => .int .i64 (g i))) (hk : k ≤ maxLen) (wS : (Lit.int .i64 S).wf = true) (hE : rcE S Y n R k g steps ≠ 0) :
    Calls Try.prog 7 #[.agg #[.int .i64 S, .int .i64 Y, .slice T n tc], .slice A k c, .int .i64 steps] w fun e w' => e = .returned (.bool false) ∧ Below w.heap.size w w' := by
  have HT := Lib.hid hT
  have HA := Lib.hid hA
  have WS := Lib.hid wS
  have HN := Lib.hid hn
  have HK := Lib.hid hk
  obtain ⟨E, hEe⟩ : ∃ E, E = rcE S Y n R k g steps := ⟨_, rfl⟩
  rw [← hEe] at hE
  have HEE := Lib.hid hEe
  have hq : (E == 0) = false := by rw [beq_eq_false_iff_ne]; exact hE
  have HB1 := Lib.hid ((Below.refl w.heap.size w).alloc (Nat.le_refl _) (.cells #[.int .i64 S, .int .i64 Y, .slice T n tc] 24))
  clear hT hA wS hn hk hE hEe
  go_enter Try.func7, Try.ntmps7
  go_wp2_with fail
  refine (runcheck_any S Y steps T A n tc k c R g _ (HT.out.below HB1.out) HN.out (HA.out.below HB1.out) HK.out WS.out).mono ?_
  rintro e w3 ⟨rfl, hb3⟩
  rw [← HEE.out]
  have HB4 := Lib.hid (HB1.out.trans (hb3.mono HB1.out.size))
  clear hb3
  go_wp2_with fail
  go_ret
  exact ⟨rfl, HB4.out⟩
end Go.Proofs.Ytcbcbanknjhhhaa
