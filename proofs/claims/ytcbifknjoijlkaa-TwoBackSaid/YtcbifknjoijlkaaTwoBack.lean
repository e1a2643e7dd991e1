/- Decoding an encoding yields the counters. No condition. -/
import Derived.Test.YtcbifknjoijlkaaTwoFns
namespace Go.Proofs.Ytcbifknjoijlkaa.twoBack
open TwoM Go.ChangeShapes Go.WideShapes Go.ChangeAt Go.RowKit
set_option linter.unusedVariables false
set_option maxRecDepth 100000 in
theorem walk (w : World) (A : Option Addr) (n c : Nat) (f : Nat → Int) (h : Rd w A n (fun i => .int .i64 (f i))) (wf : ∀ i, (Lit.int .i64 (f i)).wf = true) (hl : n ≤ c) (hm : c ≤ maxLen) (z : c * 8 ≤ 140737488351232) :
    Calls Try.prog 3 #[.slice A n c] w fun e w' => e = .returned (.bool true) ∧ Below w.heap.size w w' := by
  have hnm : n ≤ maxLen := by omega
  clear wf
  by_cases hn : 1 ≤ n ∧ n ≤ 4
  · obtain ⟨n1, n4⟩ := hn
    have H := Lib.hid h
    clear h
    go_enter Try.func3, Try.ntmps3
    go_wp2_with fail
    refine (pack_any A n c f w H.out n1 n4).mono ?_
    rintro e w1 ⟨⟨hok, rfl⟩ | ⟨hok, rfl⟩, hb1⟩
    · have hf4 : ∀ i, i < n → F f i ≤ 4 := fun i hi => by have := hok i hi; simp only [F]; omega
      have hT := Nat.le_trans (T_bd n4 hf4) (Bd_le n)
      have HO := Lib.hid hok
      have HF := Lib.hid hf4
      have HT := Lib.hid hT
      clear hok hf4 hT
      go_wp2_with fail
      refine (open_good n (F f) w1 n1 n4 (fun i hi => by have := HF.out i hi; omega) (by have := HT.out; omega)).mono ?_
      rintro e w2 ⟨A', c', rfl, hrd, hb2⟩
      have hb12 : Below w.heap.size w w2 := hb1.trans (hb2.mono hb1.size)
      have hs : sameI n n (fun i => (F f i : Int)) f = true := sameI_iff.2 ⟨rfl, fun i hi => by have := HO.out i hi; simp only [F]; omega⟩
      go_wp2_with (go_at_call 7; refine (ints_any A' A n c' n c _ f w2 hrd (H.out.below hb12) hnm hnm).mono ?_; rintro e w3 ⟨rfl, hb3⟩)
      go_ret
      exact ⟨rfl, hb12.trans (hb3.mono hb12.size)⟩
    · go_wp2_with fail
      go_ret
      exact ⟨rfl, hb1⟩
  · have HN := Lib.hid hn
    clear hn h
    go_enter Try.func3, Try.ntmps3
    go_wp2_with fail
    refine (pack_long A n c w HN.out hnm).mono ?_
    rintro e w1 ⟨rfl, rfl⟩
    go_wp2_with fail
    go_ret
    exact ⟨rfl, Below.refl _ _⟩
end Go.Proofs.Ytcbifknjoijlkaa.twoBack
