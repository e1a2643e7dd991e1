/- append to a slice without room, whoever made it: a new row of the call's own. Conditions: the sizes, as each theorem has them. -/
import Derived.Test.YtnfibchffbdmpaaApp
import Derived.ArgAppend
import Derived.Deep.RegionLawGrows
namespace Go.Proofs.Ytnfibchffbdmpaa
open Go.ChangeShapes Go.WideShapes Go.ChangeAt Go.RowKit
set_option linter.unusedVariables false
theorem own_of_row {w' : World} {base : Nat} {e : TypeId} {s n k l : Nat} {C D : Nat → Value} {v : Value} (h : w'.ownsRow base e s v n ((List.range k).map C ++ (List.range l).map D)) (hn : n ≤ maxLen) :
    ∃ A' c', v = .slice A' n c' ∧ Own w' base e s A' n c' (k + l) (cat k C D) := by
  rw [← map_cat] at h
  rcases h.2 with ⟨rfl, h0⟩ | ⟨g, cap, cur, rfl, r⟩
  · subst h0
    exact ⟨none, 0, rfl, h, hn⟩
  · exact ⟨_, _, rfl, h, hn⟩
theorem rd_list {w : World} {ad : Addr} {k : Nat} {C : Nat → Value} (h : Rd w (some ad) k C) : ∀ j u, ((List.range k).map C)[j]? = some u → w.cell? (ad.add j) = some u := by
  intro j u hu
  have hj : j < k := by
    have := (List.getElem?_eq_some_iff.1 hu).1
    simpa using this
  obtain ⟨b, off, he, _, hc⟩ := h (by omega)
  injection he with he
  subst he
  rw [add_plain', hc j hj]
  simpa [hj] using hu
section
variable {P : Program} (w : World)
theorem step_grow {ops : Array Oper} {o : Oper} {a : Act} {K : Act → World → Prop} {Q : Exit → Act → World → Prop} {Z : Prop} (hg : o.guard = none) (sx x : Operand) (t : TypeId)
    (ho : o.op = .call { callee := .builtin .append, args := #[sx, x], argTypes := #[t, t] }) {e : TypeId} {s bytes : Nat} (E : Elem P t e s bytes) {B : Option Addr} {n c k : Nat} {C : Nat → Value} (hs : a.eval sx = .slice B n c) (hk : k = n * s) (hB : B = none → n = 0 ∧ c = 0) (hC : Rd w B k C)
    {X : Option Addr} {m d l : Nat} {D : Nat → Value} (hx : a.eval x = .slice X m d) (hl : l = m * s) (hr : Rd w X l D) (h1 : ∀ i, i < l → (D i).oneCell' = true) (hm : 0 < m)
    (hfull : c < n + m) (h63 : n + m ≤ maxLen) (hbytes : (n + m) * bytes ≤ 140737488355328) (q kq : Nat) (hq : q = n + m) (hkq : kq = k + l)
    (h : ∀ A' c' w', Own w' w.heap.size e s A' q c' kq (cat k C D) → Below w.heap.size w w' → K (a.put o.dst (.slice A' q c')) w') :
    if Region.wanted o (yielded ops a.tmps) = true then Oper.wp P o a w K Q else Z := by
  subst hq; subst hkq; subst hk; subst hl
  obtain ⟨ht, ⟨i, z, hi, hz, hsz, hb, hzs⟩, hpos⟩ := E
  have hl0 : 0 < m * s := Nat.mul_pos hm hpos
  obtain ⟨b, off, rfl, _, _⟩ := hr hl0
  refine step_append_grows hg sx x t ho e i z s bytes ht hi hz hsz hb hzs hpos B n c ((List.range (n * s)).map C) hs hB (by simp) (fun b' e' j u hj => ?_) ⟨b, off, none⟩ m d ((List.range (m * s)).map D) hx (by simp) (rd_list hr) (fun u hu => ?_) hfull h63 hbytes (fun v' w' r1 r2 => ?_)
  · subst e'; exact rd_list hC j u hj
  · obtain ⟨j, hj, rfl⟩ := List.mem_map.1 hu
    exact h1 j (List.mem_range.1 hj)
  · obtain ⟨A', c', rfl, hown⟩ := own_of_row r1 h63
    exact h A' c' w' hown ((Below.refl _ _).grown r2 (Nat.le_refl _) (fun g hg => by cases hg))
theorem wpList_grow {ops : Array Oper} {rest : List Oper} {o : Oper} {a : Act} {Q : Exit → Act → World → Prop} (hg : o.guard = none) (sx x : Operand) (t : TypeId)
    (ho : o.op = .call { callee := .builtin .append, args := #[sx, x], argTypes := #[t, t] }) {e : TypeId} {s bytes : Nat} (E : Elem P t e s bytes) {B : Option Addr} {n c k : Nat} {C : Nat → Value} (hs : a.eval sx = .slice B n c) (hk : k = n * s) (hB : B = none → n = 0 ∧ c = 0) (hC : Rd w B k C)
    {X : Option Addr} {m d l : Nat} {D : Nat → Value} (hx : a.eval x = .slice X m d) (hl : l = m * s) (hr : Rd w X l D) (h1 : ∀ i, i < l → (D i).oneCell' = true) (hm : 0 < m)
    (hfull : c < n + m) (h63 : n + m ≤ maxLen) (hbytes : (n + m) * bytes ≤ 140737488355328) (q kq : Nat) (hq : q = n + m) (hkq : kq = k + l)
    (h : ∀ A' c' w', Own w' w.heap.size e s A' q c' kq (cat k C D) → Below w.heap.size w w' → wpList P ops Q rest (a.put o.dst (.slice A' q c')) w') : wpList P ops Q (o :: rest) a w := by
  subst hq; subst hkq; subst hk; subst hl
  obtain ⟨ht, ⟨i, z, hi, hz, hsz, hb, hzs⟩, hpos⟩ := E
  have hl0 : 0 < m * s := Nat.mul_pos hm hpos
  obtain ⟨b, off, rfl, _, _⟩ := hr hl0
  refine wpList_append_grows w hg sx x t ho e i z s bytes ht hi hz hsz hb hzs hpos B n c ((List.range (n * s)).map C) hs hB (by simp) (fun b' e' j u hj => ?_) ⟨b, off, none⟩ m d ((List.range (m * s)).map D) hx (by simp) (rd_list hr) (fun u hu => ?_) hfull h63 hbytes (fun v' w' r1 r2 => ?_)
  · subst e'; exact rd_list hC j u hj
  · obtain ⟨j, hj, rfl⟩ := List.mem_map.1 hu
    exact h1 j (List.mem_range.1 hj)
  · obtain ⟨A', c', rfl, hown⟩ := own_of_row r1 h63
    exact h A' c' w' hown ((Below.refl _ _).grown r2 (Nat.le_refl _) (fun g hg => by cases hg))
end
end Go.Proofs.Ytnfibchffbdmpaa
