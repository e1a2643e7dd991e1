/- slices.IndexFunc and slices.ContainsFunc over a machine's table, at whatever function value that says a bool and leaves the world alone. Condition: the slice reads as a function. -/
import Derived.Test.YtklhbmlcpjlgiaaPred
namespace Go.Proofs.Ytklhbmlcpjlgiaa
open Go.ChangeShapes Go.WideShapes Go.ChangeAt Go.RowKit
set_option linter.unusedVariables false
def IdxV (m : Nat) (p : Nat → Bool) (w : World) (e : Ending) (w' : World) : Prop :=
  w = w' ∧ ((anyB p m = false ∧ e = .returned (.int .i64 (-1))) ∨ ∃ k : Nat, k < m ∧ anyB p m = true ∧ e = .returned (.int .i64 k))
set_option maxRecDepth 100000 in
theorem indexV_any (K : FuncId) (caps : Array Value) (A : Option Addr) (m c : Nat) (V : Nat → Value) (p : Nat → Bool) (w : World) (h : Rd w A m V) (hm : m ≤ maxLen) (hK : ∀ xs W, Sem.run Try.prog (callFunc K xs) W = .ok (.enter K xs) W)
    (hp : ∀ i, i < m → Calls Try.prog K (#[V i] ++ caps) w fun e w' => e = .returned (.bool (p i)) ∧ w = w') :
    Calls Try.prog 29 #[.slice A m c, .func (.func K) #[] caps] w (IdxV m p w) := by
  unfold maxLen at hm
  have HP := Lib.hid hp
  clear hp
  go_enter Try.func29, Try.ntmps29
  go_wp2_with fail
  go_loop [8] (fun i => ∃ k : Nat, k ≤ m ∧ i = .int .i64 k ∧ ∀ j, j < k → p j = false) (fun i => m - (intOf i).toNat)
  case atStart => exact ⟨0, Nat.zero_le _, rfl, fun j hj => absurd hj (Nat.not_lt_zero _)⟩
  case round =>
    obtain ⟨k, hk, rfl, hall0⟩ := hrel
    have hall := Lib.hid hall0
    clear hall0
    by_cases hlt : k < m
    · obtain ⟨b, off, rfl, _, hc⟩ := h.at_ hlt
      have H := Lib.hid h
      clear h
      have hpk := HP.out k hlt
      cases hq : p k with
      | true =>
        have HQ := Lib.hid hq
        clear hq
        go_wp2_with fail
        refine hpk.mono ?_
        rintro e w' ⟨rfl, rfl⟩
        rw [HQ.out]
        go_wp2_with fail
        go_ret
        exact ⟨rfl, .inr ⟨k, hlt, anyB_yes hlt HQ.out, rfl⟩⟩
      | false =>
        have HQ := Lib.hid hq
        clear hq
        go_wp2_with fail
        refine hpk.mono ?_
        rintro e w' ⟨rfl, rfl⟩
        rw [HQ.out]
        go_wp2_with fail
        go_round
        case rel => exact ⟨k + 1, by omega, by go_num, fun j hj => by
          by_cases e : j = k
          · subst e; exact HQ.out
          · exact hall.out j (by omega)⟩
        case measure => simp [intOf]; omega
    · obtain rfl : k = m := by omega
      go_wp2_with fail
      go_ret
      exact ⟨rfl, .inl ⟨anyB_no hall.out, rfl⟩⟩
set_option maxRecDepth 100000 in
theorem containsV_any (K : FuncId) (caps : Array Value) (A : Option Addr) (m c : Nat) (V : Nat → Value) (p : Nat → Bool) (w : World) (h : Rd w A m V) (hm : m ≤ maxLen) (hK : ∀ xs W, Sem.run Try.prog (callFunc K xs) W = .ok (.enter K xs) W)
    (hp : ∀ i, i < m → Calls Try.prog K (#[V i] ++ caps) w fun e w' => e = .returned (.bool (p i)) ∧ w = w') :
    Calls Try.prog 25 #[.slice A m c, .func (.func K) #[] caps] w fun e w' => e = .returned (.bool (anyB p m)) ∧ w = w' := by
  have H := Lib.hid h
  have HP := Lib.hid hp
  have HK := Lib.hid hK
  clear h hp hK
  go_enter Try.func25, Try.ntmps25
  go_wp2_with fail
  refine (indexV_any K caps A m c V p w H.out hm HK.out HP.out).mono ?_
  rintro e w' ⟨rfl, ⟨hok, rfl⟩ | ⟨k, hk, hok, rfl⟩⟩
  · have HO := Lib.hid hok
    clear hok
    go_wp2_with fail
    go_ret
    exact ⟨ret_bool (by rw [HO.out]), rfl⟩
  · have HO := Lib.hid hok
    clear hok
    go_wp2_with fail
    go_ret
    exact ⟨ret_bool (by rw [HO.out]), rfl⟩
end Go.Proofs.Ytklhbmlcpjlgiaa
