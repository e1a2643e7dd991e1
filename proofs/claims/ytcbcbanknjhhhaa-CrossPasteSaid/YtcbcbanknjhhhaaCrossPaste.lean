/- The walk of CrossPaste, both cases. Conditions: the arguments read as told. -/
import Derived.Test.YtcbcbanknjhhhaaCrossPasteY
import Derived.Test.YtcbcbanknjhhhaaCrossPasteN
namespace Go.Proofs.Ytcbcbanknjhhhaa
open Go.ChangeShapes Go.WideShapes Go.ChangeAt Go.RowKit
set_option linter.unusedVariables false
theorem crossPaste.good (w : World) (S Y : Int) (T : Option Addr) (n tc : Nat) (R : Nat → SI) (A : Option Addr) (ka ca : Nat) (ga : Nat → Int) (B : Option Addr) (kb cb : Nat) (gb : Nat → Int) (i1 i2 : Int)
    (wS : (Lit.int .i64 S).wf = true) (gT : Tm w T n R) (hn : n ≤ maxLen) (hA : Rd w A ka (fun i => .int .i64 (ga i))) (hkc : ka ≤ ca) (hcm : ca ≤ maxLen) (hB : Rd w B kb (fun i => .int .i64 (gb i))) (hkcb : kb ≤ cb) (hcbm : cb ≤ maxLen) (hE : rcE S Y n R ka ga 60 = 0) (hF : rcE S Y n R kb gb 60 = 0) (v1 : 0 ≤ i1 ∧ i1 ≤ 255) (v2 : 0 ≤ i2 ∧ i2 ≤ 255) :
    Calls Try.prog 4 #[.agg #[.int .i64 S, .int .i64 Y, .slice T n tc], .slice A ka ca, .slice B kb cb, .int .u8 i1, .int .u8 i2] w fun e w' => e = .returned (.bool true) ∧ Below w.heap.size w w' := by
  by_cases hz : i2 % ((kb : Int) + 1) = (cb : Int)
  · exact crossPaste.goodY w S Y T n tc R A ka ca ga B kb cb gb i1 i2 wS gT hn hA hkc hcm hB hkcb hcbm hz hE hF v1 v2
  · exact crossPaste.goodN w S Y T n tc R A ka ca ga B kb cb gb i1 i2 wS gT hn hA hkc hcm hB hkcb hcbm hz hE hF v1 v2
end Go.Proofs.Ytcbcbanknjhhhaa
