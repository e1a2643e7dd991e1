/- slices.IndexFunc and slices.ContainsFunc over ints, at a function value that says a bool and may draw. Condition: the slice reads as a function. -/
import Derived.Test.YtnkgdcaojfoanaaPred
import Derived.WalkSpells
import Derived.WalkLawsBesides
namespace Go.Proofs.Ytnkgdcaojfoanaa
open Go.ChangeShapes Go.WideShapes Go.ChangeAt Go.RowKit
set_option linter.unusedVariables false
set_option maxRecDepth 100000 in
theorem indexIB_any (K : FuncId) (caps : Array Value) (A : Option Addr) (m c : Nat) (f : Nat → Int) (p : Nat → Bool) (w : World) (h : Rd w A m (fun i => .int .i64 (f i))) (hm : m ≤ maxLen) (hK : ∀ xs W, Sem.run Try.prog (callFunc K xs) W = .ok (.enter K xs) W)
    (hp : ∀ i, i < m → ∀ W, Below w.heap.size w W → Calls Try.prog K (#[.int .i64 (f i)] ++ caps) W fun e w' => e = .returned (.bool (p i)) ∧ Below W.heap.size W w') :
    Calls Try.prog 29 #[.slice A m c, .func (.func K) #[] caps] w fun e w' => Below w.heap.size w w' ∧ ((anyB p m = false ∧ e = .returned (.int .i64 (-1))) ∨ ∃ k : Nat, k < m ∧ anyB p m = true ∧ e = .returned (.int .i64 k)) := by
  unfold maxLen at hm
  have HP := Lib.hid hp
  clear hp
  go_enter Try.func29, Try.ntmps29
  go_wp2_with fail
  go_loopw [8] (fun i wr => ∃ k : Nat, k ≤ m ∧ i = .int .i64 k ∧ Hid (∀ j, j < k → p j = false) ∧ Below w.heap.size w wr) (fun i _ => m - (intOf i).toNat)
  case atStart => exact ⟨0, Nat.zero_le _, rfl, Lib.hid (fun j hj => absurd hj (Nat.not_lt_zero _)), Below.refl _ _⟩
  case round =>
    obtain ⟨k, hk, rfl, hall, hbel⟩ := hrel
    by_cases hlt : k < m
    · obtain ⟨b, off, rfl, hbb, hc0⟩ := h.at_ hlt
      have hc := (hbel.cell (p := ⟨b, off + k, none⟩) hbb).trans hc0
      have H := Lib.hid h
      clear h hc0
      have hpk := HP.out k hlt wr hbel
      cases hq : p k with
      | true =>
        have HQ := Lib.hid hq
        clear hq
        go_wp2_with fail
        refine hpk.mono ?_
        rintro e w' ⟨rfl, hb'⟩
        have HB := Lib.hid (hbel.trans (hb'.mono hbel.size))
        rw [HQ.out]
        go_wp2_with fail
        go_ret
        exact ⟨HB.out, .inr ⟨k, hlt, anyB_yes hlt HQ.out, rfl⟩⟩
      | false =>
        have HQ := Lib.hid hq
        clear hq
        go_wp2_with fail
        refine hpk.mono ?_
        rintro e w' ⟨rfl, hb'⟩
        have HB := Lib.hid (hbel.trans (hb'.mono hbel.size))
        rw [HQ.out]
        go_wp2_with fail
        go_roundw
        case rel => exact ⟨k + 1, by omega, by go_num, Lib.hid (fun j hj => by
          by_cases e : j = k
          · subst e; exact HQ.out
          · exact hall.out j (by omega)), HB.out⟩
        case measure => simp [intOf]; omega
    · obtain rfl : k = m := by omega
      go_wp2_with fail
      go_ret
      exact ⟨hbel, .inl ⟨anyB_no hall.out, rfl⟩⟩
set_option maxRecDepth 100000 in
theorem containsIB_any (K : FuncId) (caps : Array Value) (A : Option Addr) (m c : Nat) (f : Nat → Int) (p : Nat → Bool) (w : World) (h : Rd w A m (fun i => .int .i64 (f i))) (hm : m ≤ maxLen) (hK : ∀ xs W, Sem.run Try.prog (callFunc K xs) W = .ok (.enter K xs) W)
    (hp : ∀ i, i < m → ∀ W, Below w.heap.size w W → Calls Try.prog K (#[.int .i64 (f i)] ++ caps) W fun e w' => e = .returned (.bool (p i)) ∧ Below W.heap.size W w') :
    Calls Try.prog 22 #[.slice A m c, .func (.func K) #[] caps] w fun e w' => e = .returned (.bool (anyB p m)) ∧ Below w.heap.size w w' := by
  have H := Lib.hid h
  have HP := Lib.hid hp
  have HK := Lib.hid hK
  clear h hp hK
  go_enter Try.func22, Try.ntmps22
  go_wp2_with fail
  refine (indexIB_any K caps A m c f p w H.out hm HK.out HP.out).mono ?_
  rintro e w' ⟨hb, ⟨hok, rfl⟩ | ⟨k, hk, hok, rfl⟩⟩
  · have HO := Lib.hid hok
    clear hok
    go_wp2_with fail
    go_ret
    exact ⟨ret_bool (by rw [HO.out]), hb⟩
  · have HO := Lib.hid hok
    clear hok
    unfold maxLen at hm
    go_wp2_with fail
    go_ret
    exact ⟨ret_bool (by rw [HO.out]), hb⟩
end Go.Proofs.Ytnkgdcaojfoanaa
