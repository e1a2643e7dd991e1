/- slices.ContainsFunc over terms, at a function value that says a bool and may allocate; what it is asked in guess.Zeros. Condition: the slice reads as told. -/
import Derived.Test.YtoodmoliglhpiaaPred
import Derived.Test.YtoodmoliglhpiaaTermOpen
import Derived.WalkSpells
import Derived.WalkLawsBesides
namespace Go.Proofs.Ytoodmoliglhpiaa
open Go.ChangeShapes Go.WideShapes Go.ChangeAt Go.RowKit
set_option linter.unusedVariables false
def tV (d : ST) : Value := .agg #[.int .i64 d.t, .slice d.s.A d.s.n d.s.c]
set_option maxRecDepth 100000 in
theorem indexT_any (K : FuncId) (caps : Array Value) (A : Option Addr) (m c : Nat) (D : Nat → ST) (p : Nat → Bool) (w : World) (h : Rd w A (m * 2) (tcF D)) (hm : m ≤ 100) (hK : ∀ xs W, Sem.run Try.prog (callFunc K xs) W = .ok (.enter K xs) W)
    (hp : ∀ i, i < m → ∀ W, Below w.heap.size w W → Calls Try.prog K (#[tV (D i)] ++ caps) W fun e w' => e = .returned (.bool (p i)) ∧ Below W.heap.size W w') :
    Calls Try.prog 28 #[.slice A m c, .func (.func K) #[] caps] w fun e w' => Below w.heap.size w w' ∧ ((anyB p m = false ∧ e = .returned (.int .i64 (-1))) ∨ ∃ k : Nat, k < m ∧ anyB p m = true ∧ e = .returned (.int .i64 k)) := by
  have HP := Lib.hid hp
  have H := Lib.hid h
  clear hp h
  go_enter Try.func28, Try.ntmps28
  go_wp2_with fail
  go_loopw [8] (fun i wr => ∃ k : Nat, k ≤ m ∧ i = .int .i64 k ∧ Hid (∀ j, j < k → p j = false) ∧ Hid (Below w.heap.size w wr)) (fun i _ => m - (intOf i).toNat)
  case atStart => exact ⟨0, Nat.zero_le _, rfl, Lib.hid (fun j hj => absurd hj (Nat.not_lt_zero _)), Lib.hid (Below.refl _ _)⟩
  case round =>
    obtain ⟨k, hk, rfl, hall, HBL⟩ := hrel
    by_cases hlt : k < m
    · obtain ⟨b, off, rfl, _, _⟩ := H.out.at_ (show 0 < m * 2 by omega)
      obtain ⟨c0, c1⟩ := tc_at (H.out.below HBL.out) hlt
      have hpk := HP.out k hlt wr HBL.out
      obtain ⟨d, hd⟩ : ∃ d, d = D k := ⟨_, rfl⟩
      rw [← hd] at c0 c1 hpk
      obtain ⟨dt, ⟨sA, sn, sc, sf⟩⟩ := d
      change _ = some (Value.slice sA sn sc) at c1
      change _ = some (Value.int .i64 dt) at c0
      have hpk' : Calls Try.prog K (#[.agg #[.int .i64 dt, .slice sA sn sc]] ++ caps) wr fun e w' => e = .returned (.bool (p k)) ∧ Below wr.heap.size wr w' := hpk
      clear hd hpk
      cases hq : p k with
      | true =>
        have HQ := Lib.hid hq
        clear hq
        go_wp2_with fail
        refine hpk'.mono ?_
        rintro e w' ⟨rfl, hb'⟩
        have HB := Lib.hid (HBL.out.trans (hb'.mono HBL.out.size))
        rw [HQ.out]
        go_wp2_with fail
        go_ret
        exact ⟨HB.out, .inr ⟨k, hlt, anyB_yes hlt HQ.out, rfl⟩⟩
      | false =>
        have HQ := Lib.hid hq
        clear hq
        go_wp2_with fail
        refine hpk'.mono ?_
        rintro e w' ⟨rfl, hb'⟩
        have HB := Lib.hid (HBL.out.trans (hb'.mono HBL.out.size))
        rw [HQ.out]
        go_wp2_with fail
        go_roundw
        case rel => exact ⟨k + 1, by omega, by go_num, Lib.hid (fun j hj => by
          by_cases e : j = k
          · subst e; exact HQ.out
          · exact hall.out j (by omega)), HB⟩
        case measure => simp [intOf]; omega
    · obtain rfl : k = m := by omega
      go_wp2_with fail
      go_ret
      exact ⟨HBL.out, .inl ⟨anyB_no hall.out, rfl⟩⟩
set_option maxRecDepth 100000 in
theorem containsT_any (K : FuncId) (caps : Array Value) (A : Option Addr) (m c : Nat) (D : Nat → ST) (p : Nat → Bool) (w : World) (h : Rd w A (m * 2) (tcF D)) (hm : m ≤ 100) (hK : ∀ xs W, Sem.run Try.prog (callFunc K xs) W = .ok (.enter K xs) W)
    (hp : ∀ i, i < m → ∀ W, Below w.heap.size w W → Calls Try.prog K (#[tV (D i)] ++ caps) W fun e w' => e = .returned (.bool (p i)) ∧ Below W.heap.size W w') :
    Calls Try.prog 15 #[.slice A m c, .func (.func K) #[] caps] w fun e w' => e = .returned (.bool (anyB p m)) ∧ Below w.heap.size w w' := by
  have H := Lib.hid h
  have HP := Lib.hid hp
  have HK := Lib.hid hK
  clear h hp hK
  go_enter Try.func15, Try.ntmps15
  go_wp2_with fail
  refine (indexT_any K caps A m c D p w H.out hm HK.out HP.out).mono ?_
  rintro e w' ⟨hb, ⟨hok, rfl⟩ | ⟨k, hk, hok, rfl⟩⟩
  · have HO := Lib.hid hok
    clear hok
    go_wp2_with fail
    go_ret
    exact ⟨ret_bool (by rw [HO.out]), hb⟩
  · have HO := Lib.hid hok
    clear hok
    go_wp2_with fail
    go_ret
    exact ⟨ret_bool (by rw [HO.out]), hb⟩
/-- is the term's list not so long -/
def lenB (N : Int) (d : ST) : Bool := ((d.s.n : Nat) : Int) != N
set_option maxRecDepth 100000 in
theorem len1_any (N : Int) (xb : Nat) (d : ST) (W : World) (hx : W.cell? ⟨xb, 0, none⟩ = some (.int .i64 N)) : Calls Try.prog 16 (#[tV d] ++ #[.pointer (some ⟨xb, 0, none⟩)]) W fun e w' => e = .returned (.bool (lenB N d)) ∧ Below W.heap.size W w' := by
  obtain ⟨dt, ⟨sA, sn, sc, sf⟩⟩ := d
  show Calls Try.prog 16 #[.agg #[.int .i64 dt, .slice sA sn sc], .pointer (some ⟨xb, 0, none⟩)] W fun e w' => e = .returned (.bool ((sn : Int) != N)) ∧ Below W.heap.size W w'
  have hxl : xb < W.heap.size := by
    apply Decidable.byContradiction
    intro hn
    have h2 : W.heap[xb]? = none := Array.getElem?_eq_none (by omega)
    simp [World.cell?, h2] at hx
  have hx2 : (W.alloc (.cells #[.int .i64 dt, .slice sA sn sc] 43)).cell? ⟨xb, 0, none⟩ = some (.int .i64 N) := by
    have := ((Below.refl W.heap.size W).alloc (Nat.le_refl _) (.cells #[.int .i64 dt, .slice sA sn sc] 43)).cell (p := ⟨xb, 0, none⟩) hxl
    rw [this]; exact hx
  go_enter Try.func16, Try.ntmps16
  go_wp2_with fail
  go_ret
  exact ⟨rfl, (Below.refl _ _).alloc (Nat.le_refl _) _⟩
def outP (x : Int) : Bool := decide (x < 0 ∨ 8 < x)
theorem outP_yes {x : Int} (h : x < 0 ∨ 8 < x) : outP x = true := by simp [outP, h]
theorem outP_no {x : Int} (h : ¬ (x < 0 ∨ 8 < x)) : outP x = false := by simp only [outP, h, decide_false]
set_option maxRecDepth 100000 in
theorem out2_any (x : Int) (W : World) : Calls Try.prog 18 (#[.int .i64 x] ++ #[]) W fun e w' => e = .returned (.bool (outP x)) ∧ W = w' := by
  show Calls Try.prog 18 #[.int .i64 x] W _
  by_cases h0 : x < 0
  · rw [outP_yes (.inl h0)]
    go_enter Try.func18, Try.ntmps18
    go_wp2_with fail
    go_ret
    exact ⟨rfl, rfl⟩
  · by_cases h1 : 8 < x
    · rw [outP_yes (.inr h1)]
      go_enter Try.func18, Try.ntmps18
      go_wp2_with fail
      go_ret
      exact ⟨rfl, rfl⟩
    · rw [outP_no (by omega)]
      go_enter Try.func18, Try.ntmps18
      go_wp2_with fail
      go_ret
      exact ⟨rfl, rfl⟩
/-- a power, by sixes less -/
def redI (k : Int) : Int := if 6 < k then (k - 1) % 6 + 1 else k
set_option maxRecDepth 100000 in
theorem red_any (k : Int) (W : World) (h : 0 ≤ k ∧ k ≤ 8) : Calls Try.prog 19 #[.int .i64 k] W fun e w' => e = .returned (.int .i64 (redI k)) ∧ W = w' := by
  unfold redI
  by_cases h6 : 6 < k
  · rw [if_pos h6]
    go_enter Try.func19, Try.ntmps19
    go_wp2_with fail
    go_ret
    exact ⟨rfl, rfl⟩
  · rw [if_neg h6]
    go_enter Try.func19, Try.ntmps19
    go_wp2_with fail
    go_ret
    exact ⟨rfl, rfl⟩
end Go.Proofs.Ytoodmoliglhpiaa
