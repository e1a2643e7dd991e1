/- slices.IndexFunc and slices.ContainsFunc over pairs of ints, at whatever function value that says a bool and writes to nothing that was there. Condition: the slice reads as a function. -/
import Derived.Test.YtkedkgmcdhmjiaaPred
namespace Go.Proofs.Ytkedkgmcdhmjiaa
open Go.ChangeShapes Go.WideShapes Go.ChangeAt Go.RowKit
set_option linter.unusedVariables false
theorem Rd.at2 {w : World} {A : Option Addr} {n : Nat} {P : Nat → Int} (h : Rd w A (n * 2) (fun q => .int .i64 (P q))) {k : Nat} (hk : k < n) :
    ∃ b off, A = some ⟨b, off, none⟩ ∧ b < w.heap.size ∧ w.cell? ⟨b, off + k * 2, none⟩ = some (.int .i64 (P (2 * k))) ∧ w.cell? ⟨b, off + k * 2 + 1, none⟩ = some (.int .i64 (P (2 * k + 1))) := by
  obtain ⟨b, off, e, hb, hc⟩ := h (by omega)
  have e0 : k * 2 = 2 * k := Nat.mul_comm _ _
  exact ⟨b, off, e, hb, by rw [e0]; exact hc _ (by omega), by rw [e0, Nat.add_assoc]; exact hc _ (by omega)⟩
def IdxR (m : Nat) (p : Nat → Bool) (w : World) (e : Ending) (w' : World) : Prop :=
  Below w.heap.size w w' ∧ ((anyB p m = false ∧ e = .returned (.int .i64 (-1))) ∨ ∃ k : Nat, k < m ∧ anyB p m = true ∧ e = .returned (.int .i64 k))
set_option maxRecDepth 100000 in
theorem indexR_any (K : FuncId) (caps : Array Value) (A : Option Addr) (m c : Nat) (P : Nat → Int) (p : Nat → Bool) (w : World) (h : Rd w A (m * 2) (fun i => .int .i64 (P i))) (hm : m ≤ maxLen) (hK : ∀ xs W, Sem.run Try.prog (callFunc K xs) W = .ok (.enter K xs) W)
    (hp : ∀ i, i < m → ∀ W, Below w.heap.size w W → Calls Try.prog K (#[.agg #[.int .i64 (P (2 * i)), .int .i64 (P (2 * i + 1))]] ++ caps) W fun e w' => e = .returned (.bool (p i)) ∧ Below W.heap.size W w') :
    Calls Try.prog 35 #[.slice A m c, .func (.func K) #[] caps] w (IdxR m p w) := by
  unfold maxLen at hm
  have HP := Lib.hid hp
  have H := Lib.hid h
  clear hp h
  go_enter Try.func35, Try.ntmps35
  go_wp2_with fail
  go_loopw [8] (fun i wr => ∃ k : Nat, k ≤ m ∧ i = .int .i64 k ∧ (∀ j, j < k → p j = false) ∧ Below w.heap.size w wr) (fun i _ => m - (intOf i).toNat)
  case atStart => exact ⟨0, Nat.zero_le _, rfl, fun j hj => absurd hj (Nat.not_lt_zero _), Below.refl _ _⟩
  case round =>
    obtain ⟨wo, rfl⟩ : ∃ wo : World, wo = wr := ⟨_, rfl⟩
    obtain ⟨k, hk, rfl, hall0, hbel⟩ := hrel
    have hall := Lib.hid hall0
    clear hall0
    by_cases hlt : k < m
    · obtain ⟨b, off, rfl, _, c0, c1⟩ := (H.out.below hbel).at2 hlt
      have hpk := HP.out k hlt wo hbel
      have HPK := Lib.hid hpk
      clear hpk
      cases hq : p k with
      | true =>
        have HQ := Lib.hid hq
        clear hq
        go_wp2_with fail
        refine HPK.out.mono ?_
        rintro e w' ⟨rfl, hb2⟩
        rw [HQ.out]
        go_wp2_with fail
        go_ret
        exact ⟨hbel.trans (hb2.mono hbel.size), .inr ⟨k, hlt, anyB_yes hlt HQ.out, rfl⟩⟩
      | false =>
        have HQ := Lib.hid hq
        clear hq
        go_wp2_with fail
        refine HPK.out.mono ?_
        rintro e w' ⟨rfl, hb2⟩
        rw [HQ.out]
        go_wp2_with fail
        go_roundw
        case rel => exact ⟨k + 1, by omega, by go_num, fun j hj => by
          by_cases e : j = k
          · subst e; exact HQ.out
          · exact hall.out j (by omega), hbel.trans (hb2.mono hbel.size)⟩
        case measure => simp [intOf]; omega
    · obtain rfl : k = m := by omega
      go_wp2_with fail
      go_ret
      exact ⟨hbel, .inl ⟨anyB_no hall.out, rfl⟩⟩
set_option maxRecDepth 100000 in
theorem containsR_any (K : FuncId) (caps : Array Value) (A : Option Addr) (m c : Nat) (P : Nat → Int) (p : Nat → Bool) (w : World) (h : Rd w A (m * 2) (fun i => .int .i64 (P i))) (hm : m ≤ maxLen) (hK : ∀ xs W, Sem.run Try.prog (callFunc K xs) W = .ok (.enter K xs) W)
    (hp : ∀ i, i < m → ∀ W, Below w.heap.size w W → Calls Try.prog K (#[.agg #[.int .i64 (P (2 * i)), .int .i64 (P (2 * i + 1))]] ++ caps) W fun e w' => e = .returned (.bool (p i)) ∧ Below W.heap.size W w') :
    Calls Try.prog 16 #[.slice A m c, .func (.func K) #[] caps] w fun e w' => e = .returned (.bool (anyB p m)) ∧ Below w.heap.size w w' := by
  have H := Lib.hid h
  have HP := Lib.hid hp
  have HK := Lib.hid hK
  clear h hp hK
  go_enter Try.func16, Try.ntmps16
  go_wp2_with fail
  refine (indexR_any K caps A m c P p w H.out hm HK.out HP.out).mono ?_
  rintro e w' ⟨hb, ⟨hok, rfl⟩ | ⟨k, hk, hok, rfl⟩⟩
  · have HO := Lib.hid hok
    clear hok
    go_wp2_with fail
    go_ret
    exact ⟨ret_bool (by rw [HO.out]), hb⟩
  · have HO := Lib.hid hok
    clear hok
    go_wp2_with fail
    go_ret
    exact ⟨ret_bool (by rw [HO.out]), hb⟩
end Go.Proofs.Ytkedkgmcdhmjiaa
