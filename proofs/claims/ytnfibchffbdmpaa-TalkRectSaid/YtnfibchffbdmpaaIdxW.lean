/- slices.IndexFunc over rows of ints, at a function value that says a bool and leaves the world alone: where it says yes. Condition: the slice reads as a function. -/
import Derived.Test.YtnfibchffbdmpaaPred
namespace Go.Proofs.Ytnfibchffbdmpaa
open Go.ChangeShapes Go.WideShapes Go.ChangeAt Go.RowKit
set_option linter.unusedVariables false
set_option maxRecDepth 100000 in
theorem idxW_any (K : FuncId) (caps : Array Value) (A : Option Addr) (m c : Nat) (V : Nat → Value) (p : Nat → Bool) (w : World) (h : Rd w A m V) (hm : m ≤ maxLen) (hK : ∀ xs W, Sem.run Try.prog (callFunc K xs) W = .ok (.enter K xs) W)
    (hp : ∀ i, i < m → Calls Try.prog K (#[V i] ++ caps) w fun e w' => e = .returned (.bool (p i)) ∧ w = w') :
    Calls Try.prog 17 #[.slice A m c, .func (.func K) #[] caps] w fun e w' => w = w' ∧ ((e = .returned (.int .i64 (-1)) ∧ ∀ i, i < m → p i = false) ∨ ∃ k : Nat, k < m ∧ p k = true ∧ e = .returned (.int .i64 k)) := by
  unfold maxLen at hm
  have HP := Lib.hid hp
  clear hp
  go_enter Try.func17, Try.ntmps17
  go_wp2_with fail
  go_loop [8] (fun i => ∃ k : Nat, k ≤ m ∧ i = .int .i64 k ∧ ∀ j, j < k → p j = false) (fun i => m - (intOf i).toNat)
  case atStart => exact ⟨0, Nat.zero_le _, rfl, fun j hj => absurd hj (Nat.not_lt_zero _)⟩
  case round =>
    obtain ⟨k, hk, rfl, hall0⟩ := hrel
    have hall := Lib.hid hall0
    clear hall0
    by_cases hlt : k < m
    · obtain ⟨b, off, rfl, _, hc⟩ := h.at_ hlt
      have H := Lib.hid h
      clear h
      have hpk := HP.out k hlt
      cases hq : p k with
      | true =>
        have HQ := Lib.hid hq
        clear hq
        go_wp2_with fail
        refine hpk.mono ?_
        rintro e w' ⟨rfl, rfl⟩
        rw [HQ.out]
        go_wp2_with fail
        go_ret
        exact ⟨rfl, .inr ⟨k, hlt, HQ.out, rfl⟩⟩
      | false =>
        have HQ := Lib.hid hq
        clear hq
        go_wp2_with fail
        refine hpk.mono ?_
        rintro e w' ⟨rfl, rfl⟩
        rw [HQ.out]
        go_wp2_with fail
        go_round
        case rel => exact ⟨k + 1, by omega, by go_num, fun j hj => by
          by_cases e : j = k
          · subst e; exact HQ.out
          · exact hall.out j (by omega)⟩
        case measure => simp [intOf]; omega
    · obtain rfl : k = m := by omega
      go_wp2_with fail
      go_ret
      exact ⟨rfl, .inl ⟨rfl, hall.out⟩⟩
end Go.Proofs.Ytnfibchffbdmpaa
