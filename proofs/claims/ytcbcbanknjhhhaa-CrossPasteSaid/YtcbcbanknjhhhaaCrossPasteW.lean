/- The walk of CrossPaste, both roads. Conditions: the arguments read as told. -/
import Derived.Test.YtcbcbanknjhhhaaCrossPaste
namespace Go.Proofs.Ytcbcbanknjhhhaa
open Go.ChangeShapes Go.WideShapes Go.ChangeAt Go.RowKit
set_option linter.unusedVariables false
theorem crossPaste.walk (w : World) (S Y : Int) (T : Option Addr) (n tc : Nat) (R : Nat → SI) (A : Option Addr) (ka ca : Nat) (ga : Nat → Int) (B : Option Addr) (kb cb : Nat) (gb : Nat → Int) (i1 i2 : Int)
    (wS : (Lit.int .i64 S).wf = true) (wY : (Lit.int .i64 Y).wf = true) (gT : Tm w T n R) (wT : ∀ i, (R i).wide) (l : n ≤ tc) (m : tc ≤ maxLen)
    (hA : Rd w A ka (fun i => .int .i64 (ga i))) (wga : ∀ i, (Lit.int .i64 (ga i)).wf = true) (lka : ka ≤ ca) (mka : ca ≤ maxLen) (zka : ca * 8 ≤ 140737488351232)
    (hB : Rd w B kb (fun i => .int .i64 (gb i))) (wgb : ∀ i, (Lit.int .i64 (gb i)).wf = true) (lkb : kb ≤ cb) (mkb : cb ≤ maxLen) (zkb : cb * 8 ≤ 140737488351232) (w4 : (Lit.int .u8 i1).wf = true) (w5 : (Lit.int .u8 i2).wf = true) :
    Calls Try.prog 4 #[.agg #[.int .i64 S, .int .i64 Y, .slice T n tc], .slice A ka ca, .slice B kb cb, .int .u8 i1, .int .u8 i2] w fun e w' => e = .returned (.bool true) ∧ Below w.heap.size w w' := by
  have v4 : 0 ≤ i1 ∧ i1 ≤ 255 := by simp [Lit.wf, IntKind.min, IntKind.max, IntKind.signed, IntKind.bits] at w4; omega
  have v5 : 0 ≤ i2 ∧ i2 ≤ 255 := by simp [Lit.wf, IntKind.min, IntKind.max, IntKind.signed, IntKind.bits] at w5; omega
  by_cases h : rcE S Y n R ka ga 60 = 0 ∧ rcE S Y n R kb gb 60 = 0
  · exact crossPaste.good w S Y T n tc R A ka ca ga B kb cb gb i1 i2 wS gT (by omega) hA lka mka hB lkb mkb h.1 h.2 v4 v5
  · exact crossPaste.bad w S Y T n tc R A ka ca ga B kb cb gb i1 i2 wS gT (by omega) hA (by omega) hB (by omega) h
end Go.Proofs.Ytcbcbanknjhhhaa
