/- What the reference's Bits computes. Conditions: few bits of a number that is not negative. -/
import Derived.Test.YtklhbmlcpjlgiaaBit
import Derived.Test.YtklhbmlcpjlgiaaApp
import Derived.Test.YtklhbmlcpjlgiaaGateAll
namespace Go.Proofs.Ytklhbmlcpjlgiaa
open Go.ChangeShapes Go.WideShapes Go.ChangeAt Go.RowKit
set_option linter.unusedVariables false
set_option maxRecDepth 100000 in
theorem refBits_any (k : Nat) (x : Nat) (hk : k ≤ 8) (hx : x < 1000000) (w : World) :
    Calls Try.prog 9 #[.int .i64 k, .int .i64 x] w fun e w' => (∃ (S : Option Addr) (sc : Nat), e = .returned (.slice S k sc) ∧ Rd w' S k (fun i => .bool (bitB x i))) ∧ Below w.heap.size w w' := by
  go_enter Try.func9, Try.ntmps9
  go_wp2_with fail
  go_loopw [5, 6] (fun s5 s6 wr => ∃ (i : Nat) (S : Option Addr) (sc : Nat), i ≤ k ∧ s6 = .int .i64 i ∧ s5 = .slice S i sc ∧ Own wr w.heap.size 4 1 S i sc i (fun q => .bool (bitB x q)) ∧ Below w.heap.size w wr) (fun _ s6 _ => k - (intOf s6).toNat)
  case atStart => exact ⟨0, none, 0, Nat.zero_le _, rfl, rfl, Own.nil _ _ _ _ _, Below.refl _ _⟩
  case round =>
    obtain ⟨wo, rfl⟩ : ∃ wo : World, wo = wr := ⟨_, rfl⟩
    obtain ⟨i, S, sc, hi, rfl, rfl, hown, hbel⟩ := hrel
    by_cases hlt : i < k
    · go_wp2_with fail
      refine (bit_any x i _ (by omega) (by omega)).mono ?_
      rintro e w1 ⟨rfl, rfl⟩
      have sz := hbel.size
      have B3 := hbel.alloc hbel.size (.cells #[.bool (bitB x i)] 4)
      go_wp2_with (at_builtin; refine wpList_app _ rfl (.tmp 12) (.tmp 16) 25 rfl EB rfl (hown.alloc _) rfl (l := 1) (by omega) (Rd.one wo (.bool (bitB x i)) _) (fun _ _ => rfl) (by unfold maxLen; omega) (by omega) (by simp; omega) (i + 1) (i + 1) rfl (by omega) ?_; intro A2 c2 w3 hown2 hg2 hat2 hbl2)
      go_roundw
      case rel => exact ⟨i + 1, A2, c2, by omega, by go_num, rfl, hown2.congr (fun q hq => by
        by_cases e : q < i
        · rw [cat_lt e]
        · obtain rfl : q = i := by omega
          rw [cat_ge (by omega)]), B3.trans hbl2⟩
      case measure => simp [intOf]; omega
    · obtain rfl : i = k := by omega
      have R := Lib.hid hown.rd
      clear hown
      go_wp2_with fail
      go_ret
      exact ⟨⟨S, sc, rfl, R.out⟩, hbel⟩
end Go.Proofs.Ytklhbmlcpjlgiaa
