/- funcs.Check, general. Condition: the list reads as told. -/
import Derived.Test.YtjnoolfdlgocjaaFnWrong
namespace Go.Proofs.Ytjnoolfdlgocjaa
open Go.ChangeShapes Go.WideShapes Go.ChangeAt Go.RowKit
set_option linter.unusedVariables false
set_option linter.unusedSimpArgs false
set_option maxRecDepth 100000 in
set_option maxHeartbeats 2000000 in
theorem fcheckG_any (D : Nat → SF) (A : Option Addr) (n c : Nat) (W : World) (hn : n ≤ maxLen) (hr : Rd W A (n * 6) (fcF D)) (hg : ∀ i, (D i).good W) :
    Calls Try.prog 12 #[.slice A n c] W fun e w' => (∃ z, e = .returned (.int .i64 z) ∧ (z = 0 ↔ okFs D n)) ∧ Below W.heap.size W w' := by
  unfold maxLen at hn
  have HR := Lib.hid hr
  by_cases h1 : n < 1
  · clear hr
    have Q0 : Hid (¬ okFs D n) := Lib.hid fun h => by have := h.1; omega
    go_enter Try.func12, Try.ntmps12
    go_wp2_with fail
    go_ret
    exact ⟨⟨1, rfl, fun h => absurd h (by decide), fun h => absurd h Q0.out⟩, Below.refl _ _⟩
  by_cases h12 : 12 < n
  · clear hr
    have Q0 : Hid (¬ okFs D n) := Lib.hid fun h => by have := h.2.1; omega
    go_enter Try.func12, Try.ntmps12
    go_wp2_with fail
    go_ret
    exact ⟨⟨1, rfl, fun h => absurd h (by decide), fun h => absurd h Q0.out⟩, Below.refl _ _⟩
  obtain ⟨b, off, rfl, hlb, _⟩ := hr.at_ (show 0 < n * 6 by omega)
  clear hr
  go_enter Try.func12, Try.ntmps12
  go_wp2_with fail
  go_loopw [15] (fun s15 wr => ∃ k : Nat, k ≤ n ∧ s15 = .int .i64 (k : Nat) ∧ Hid (∀ j, j < k → okFn D j) ∧ Hid (Below W.heap.size W wr)) (fun s15 _ => n - (intOf s15).toNat)
  case atStart => exact ⟨0, by omega, rfl, Lib.hid fun j h => absurd h (by omega), Lib.hid (Below.refl _ _)⟩
  case round =>
    obtain ⟨wo, rfl⟩ : ∃ wo : World, wo = wr := ⟨_, rfl⟩
    obtain ⟨k, hk, rfl, HA, HB⟩ := hrel
    by_cases hlt : k < n
    · go_wp2_with fail
      refine (wrongG_any D b off n c k wo hlt (by omega) (HR.out.below HB.out) ((hg k).below HB.out)).mono ?_
      rintro e w' ⟨⟨z, rfl, hz⟩, hb⟩
      have HZ := Lib.hid hz
      have HB2 := Lib.hid (HB.out.trans (hb.mono HB.out.size))
      clear hz hb
      by_cases z0 : z = 0
      · subst z0
        have HOKk := Lib.hid (HZ.out.1 rfl)
        clear HZ
        go_wp2_with fail
        go_roundw
        case rel => exact ⟨k + 1, by omega, by go_num, Lib.hid fun j hj => by
          by_cases e : j = k
          · subst e; exact HOKk.out
          · exact HA.out j (by omega), HB2⟩
        case measure => simp [intOf]; omega
      · have zb : (z != 0) = true := by simp [z0]
        have Q0 : Hid (¬ okFs D n) := Lib.hid fun h => z0 (HZ.out.2 (h.2.2 k hlt))
        go_wp2_with fail
        go_ret
        exact ⟨⟨z, rfl, fun h => absurd h z0, fun h => absurd h Q0.out⟩, HB2.out⟩
    · obtain rfl : k = n := by omega
      go_wp2_with fail
      go_ret
      exact ⟨⟨0, rfl, fun _ => ⟨by omega, by omega, HA.out⟩, fun _ => rfl⟩, HB.out⟩
end Go.Proofs.Ytjnoolfdlgocjaa
