/- Appending to a slice of the call's own, slices read as functions of the cell's index: one law for nil, empty and other sources. Conditions: the sizes, as each statement has them. -/
import Derived.Test.YtklhbmlcpjlgiaaLib
import Derived.Maps.AppendAt
import Derived.Deep.AppendLies
import Derived.OwnWalk
namespace Go.Proofs.Ytklhbmlcpjlgiaa
open Go.ChangeShapes Go.WideShapes Go.ChangeAt Go.RowKit
set_option linter.unusedVariables false

/-- the slice (A, n, c) is the call's own from block base on: its k cells hold C -/
def Own (w : World) (base : Nat) (e : TypeId) (s : Nat) (A : Option Addr) (n c k : Nat) (C : Nat → Value) : Prop :=
  w.ownsRow base e s (.slice A n c) n ((List.range k).map C) ∧ n ≤ maxLen
def cat (k : Nat) (C D : Nat → Value) : Nat → Value := fun i => if i < k then C i else D (i - k)
theorem cat_lt {k : Nat} {C D : Nat → Value} {i : Nat} (h : i < k) : cat k C D i = C i := if_pos h
theorem cat_ge {k : Nat} {C D : Nat → Value} {i : Nat} (h : k ≤ i) : cat k C D i = D (i - k) := if_neg (by omega)
theorem map_cat (k m : Nat) (C D : Nat → Value) : (List.range (k + m)).map (cat k C D) = (List.range k).map C ++ (List.range m).map D := by
  rw [List.range_add, List.map_append, List.map_map]
  congr 1
  · exact List.map_congr_left fun i hi => cat_lt (List.mem_range.1 hi)
  · exact List.map_congr_left fun i hi => by
      show cat k C D (k + i) = D i
      rw [cat_ge (by omega), Nat.add_sub_cancel_left]

section
variable {w w' : World} {base : Nat} {e : TypeId} {s : Nat} {A : Option Addr} {n c k : Nat} {C : Nat → Value}
theorem Own.nil (w : World) (base : Nat) (e : TypeId) (s : Nat) (C : Nat → Value) : Own w base e s none 0 0 0 C := ⟨World.ownsRow_nil w base e s, Nat.zero_le _⟩
theorem Own.len (h : Own w base e s A n c k C) : k = n * s := by have := h.1.1; simpa using this
theorem Own.rd (h : Own w base e s A n c k C) : Rd w A k C := fun hk => by
  rcases h.1.2 with ⟨_, h0⟩ | ⟨g, cap, cur, hv, hb, hg, hn, hc, hs, ht⟩
  · have := h.len; subst h0; simp at this; omega
  · injection hv with hA _ _
    subst hA
    refine ⟨g, 0, rfl, (Array.getElem?_eq_some_iff.1 hg).1, fun i hi => ?_⟩
    rw [Nat.zero_add, cell_of_row w g i cur e (0, 0) hg]
    have h1 : (cur.toList.take (n * s))[i]? = ((List.range k).map C)[i]? := by rw [ht]
    rw [List.getElem?_take, if_pos (by rw [← h.len]; exact hi)] at h1
    simpa [hi] using h1
theorem Own.le (h : Own w base e s A n c k C) : n ≤ c ∧ c ≤ maxLen := by
  rcases h.1.2 with ⟨hv, h0⟩ | ⟨g, cap, cur, hv, hb, hg, hn, hc, hs, ht⟩
  · injection hv with _ _ hc; subst hc; subst h0; exact ⟨Nat.le_refl _, Nat.zero_le _⟩
  · injection hv with _ _ hcc; subst hcc; exact ⟨hn, hc⟩
theorem Own.lt (h : Own w base e s A n c k C) : ∀ g, (Value.slice A n c).ownBlock = some g → base ≤ g ∧ g < w.heap.size := h.1.lt
theorem Own.congr {C' : Nat → Value} (h : Own w base e s A n c k C) (hC : ∀ i, i < k → C i = C' i) : Own w base e s A n c k C' := by
  refine ⟨?_, h.2⟩
  rw [← List.map_congr_left fun i hi => hC i (List.mem_range.1 hi)]; exact h.1
theorem Own.alloc (h : Own w base e s A n c k C) (o : Obj) : Own (w.alloc o) base e s A n c k C := ⟨h.1.alloc o, h.2⟩
theorem Own.drewN (h : Own w base e s A n c k C) (m : Nat) : Own (w.drewN m) base e s A n c k C := h
theorem Own.drew (h : Own w base e s A n c k C) : Own w.drew base e s A n c k C := h
theorem Own.of_block (h : Own w base e s A n c k C) (hk : ∀ g, (Value.slice A n c).ownBlock = some g → w'.heap[g]? = w.heap[g]?) : Own w' base e s A n c k C := by
  refine ⟨⟨h.1.1, ?_⟩, h.2⟩
  rcases h.1.2 with h2 | ⟨g, cap, cur, hv, hb, hg, r⟩
  · exact .inl h2
  · exact .inr ⟨g, cap, cur, hv, hb, by rw [hk g (by rw [hv]; rfl)]; exact hg, r⟩
theorem Own.below (h : Own w base e s A n c k C) (hb : Below w.heap.size w w') : Own w' base e s A n c k C :=
  h.of_block fun g hg => hb.block g (h.lt g hg).2
theorem Own.kept {row : Option Nat} (h : Own w base e s A n c k C) (hg : w.grownBy w' row) (hne : ∀ g, (Value.slice A n c).ownBlock = some g → some g ≠ row) : Own w' base e s A n c k C :=
  h.of_block fun g hb => hg.block g (h.lt g hb).2 (hne g hb)
theorem Own.base_le {base' : Nat} (h : Own w base e s A n c k C) (hle : base' ≤ base) : Own w base' e s A n c k C := by
  refine ⟨⟨h.1.1, ?_⟩, h.2⟩
  rcases h.1.2 with h2 | ⟨g, cap, cur, hv, hb, hg, r⟩
  · exact .inl h2
  · exact .inr ⟨g, cap, cur, hv, by omega, hg, r⟩
/-- a slice just made, with room or without -/
theorem Own.made (w : World) (base : Nat) (e : TypeId) (cs : Array Value) (C : Nat → Value) (hb : base ≤ w.heap.size) (hs : cs.size = n * s) (hn : n ≤ maxLen) (hC : ∀ i, i < n * s → cs[i]? = some (C i)) :
    Own (w.alloc (.cells cs e)) base e s (some ⟨w.heap.size, 0, none⟩) n n (n * s) C := by
  refine ⟨⟨by simp, .inr ⟨w.heap.size, n, cs, rfl, hb, heap_alloc_new w _, Nat.le_refl _, hn, hs, ?_⟩⟩, hn⟩
  apply List.ext_getElem?
  intro i
  by_cases hi : i < n * s
  · rw [List.getElem?_take, if_pos hi]
    have := hC i hi
    simp [hi, this]
  · rw [List.getElem?_take, if_neg hi]
    simp [hi]
theorem Own.empty (w : World) (base : Nat) (e : TypeId) (s : Nat) (C : Nat → Value) (hb : base ≤ w.heap.size) : Own (w.alloc (.cells #[] e)) base e s (some ⟨w.heap.size, 0, none⟩) 0 0 0 C := by
  have h := Own.made (n := 0) (s := s) w base e #[] C hb (by simp) (Nat.zero_le _) (fun i hi => by simp at hi)
  simpa using h
end

theorem Rd.drew {w : World} {A : Option Addr} {n : Nat} {C : Nat → Value} (h : Rd w A n C) : Rd w.drew A n C := h
theorem Rd.cut {w : World} {b off n p : Nat} {C : Nat → Value} (h : Rd w (some ⟨b, off, none⟩) n C) : Rd w (some ⟨b, off + p, none⟩) (n - p) (fun i => C (p + i)) := fun hn => by
  obtain ⟨b', off', e, hb, hc⟩ := h (by omega)
  simp at e
  obtain ⟨rfl, rfl⟩ := e
  exact ⟨b, off + p, rfl, hb, fun i hi => by rw [Nat.add_assoc]; exact hc _ (by omega)⟩
theorem Rd.one (w : World) (v : Value) (e : TypeId) : Rd (w.alloc (.cells #[v] e)) (some ⟨w.heap.size, 0, none⟩) 1 (fun _ => v) :=
  fun _ => ⟨w.heap.size, 0, rfl, by simp, fun i hi => by
    obtain rfl : i = 0 := by omega
    rw [cell_of_row _ w.heap.size (0 + 0) #[v] e (0, 0) (heap_alloc_new w _)]; rfl⟩
theorem Rd.alloc {w : World} {A : Option Addr} {n : Nat} {C : Nat → Value} (h : Rd w A n C) (o : Obj) : Rd (w.alloc o) A n C :=
  h.keep (by simp) fun p hp => World.cell?_alloc_lt w o p hp

/-- what is known of a slice's type and of its elements' -/
structure Elem (P : Program) (t e : TypeId) (s bytes : Nat) : Prop where
  ht : P.underlying t = some (.slice e)
  ex : ∃ i z, P.info? e = some i ∧ i.zero = some z ∧ i.size = s ∧ i.bytes = bytes ∧ z.cells.size = s
  pos : 0 < s
theorem Elem.of {P : Program} {t e : TypeId} {s bytes : Nat} {z : Value} (ht : P.underlying t = some (.slice e)) (h : (P.info? e).map (fun i => (i.zero, i.size, i.bytes)) = some (some z, s, bytes)) (hz : z.cells.size = s) (pos : 0 < s) : Elem P t e s bytes := by
  obtain ⟨i, h0, h1, h2, h3⟩ := info_parts h
  exact ⟨ht, ⟨i, z, h0, h1, h2, h3, hz⟩, pos⟩

section
variable {P : Program} (w : World)
theorem run_app {t ty e : TypeId} {s bytes base : Nat} (E : Elem P t e s bytes) {A : Option Addr} {n c k : Nat} {C : Nat → Value} (hown : Own w base e s A n c k C)
    {B : Option Addr} {m d l : Nat} {D : Nat → Value} (hl : l = m * s) (hr : Rd w B l D) (h1 : ∀ i, i < l → (D i).oneCell' = true)
    (h63 : n + m ≤ maxLen) (hbytes : (n + m) * bytes ≤ 140737488355328) (hbase : base ≤ w.heap.size) :
    ∃ A' c' w', (Builtin.append_ #[t, t] ty #[.slice A n c, .slice B m d]).run P w = .ok (.slice A' (n + m) c') w' ∧ Own w' base e s A' (n + m) c' (k + l) (cat k C D) ∧
      w.grownBy w' (Value.slice A n c).ownBlock ∧ ((Value.slice A' (n + m) c').ownBlock = (Value.slice A n c).ownBlock ∨ (Value.slice A' (n + m) c').ownBlock = some w.heap.size) := by
  obtain ⟨ht, ⟨i, z, hi, hz, hs, hb, hzs⟩, hpos⟩ := E
  have fin : ∀ v' w', w'.ownsRow base e s v' (n + m) ((List.range k).map C ++ (List.range l).map D) → ∃ A' c', v' = .slice A' (n + m) c' ∧ Own w' base e s A' (n + m) c' (k + l) (cat k C D) := by
    intro v' w' h
    rw [← map_cat] at h
    rcases h.2 with ⟨rfl, h0⟩ | ⟨g, cap, cur, rfl, r⟩
    · refine ⟨none, 0, by rw [h0], ?_⟩
      rw [h0] at h ⊢
      exact ⟨h, by unfold maxLen; omega⟩
    · exact ⟨_, _, rfl, h, h63⟩
  have hnews : ((List.range l).map D).length = m * s := by simpa using hl
  have hone : ∀ u ∈ (List.range l).map D, u.oneCell' = true := fun u hu => by
    obtain ⟨j, hj, rfl⟩ := List.mem_map.1 hu
    exact h1 j (List.mem_range.1 hj)
  rcases B with _ | ad
  · have hl0 : l = 0 := by
      rcases Nat.eq_zero_or_pos l with h0 | h0
      · exact h0
      · obtain ⟨b, off, he, _⟩ := hr h0
        cases he
    have hm : m = 0 := by
      rcases Nat.eq_zero_or_pos m with h0 | h0
      · exact h0
      · have := Nat.mul_pos h0 hpos; omega
    subst hm
    subst hl0
    have hrun : (Builtin.append_ #[t, t] ty #[.slice A n c, .slice none 0 d]).run P w = .ok (.slice A n c) w := by
      rcases hown.1.2 with ⟨hv, h0⟩ | ⟨g, cap, cur, hv, _, _, hnc, _⟩
      · rw [hv]; simp [Builtin.append_, run_underlying ht, sizeOf, typeInfo, hi, Builtin.lenOf, Builtin.firstCells]
      · rw [hv]; simp [Builtin.append_, run_underlying ht, sizeOf, typeInfo, hi, Builtin.lenOf, Builtin.firstCells, hnc, storeCells]
    exact ⟨A, c, w, hrun, hown.congr fun i hi => (cat_lt hi).symm, World.grownBy.refl w _, .inl rfl⟩
  · have hcells : ∀ j u, ((List.range l).map D)[j]? = some u → w.cell? (ad.add j) = some u := by
      intro j u hu
      have hj : j < l := by
        have := (List.getElem?_eq_some_iff.1 hu).1
        simpa using this
      obtain ⟨b, off, he, _, hc⟩ := hr (by omega)
      injection he with he
      subst he
      rw [add_plain', hc j hj]
      simpa [hj] using hu
    obtain ⟨v', w', hrun, h2, h3, _, h5⟩ := run_append_own_at (P := P) w base t ty e i z s bytes ht hi hz hs hb hzs hpos _ n _ hown.1 ad m d _ hnews hcells hone h63 hbytes hbase
    obtain ⟨A', c', rfl, hown'⟩ := fin v' w' h2
    exact ⟨A', c', w', hrun, hown', h3, h5⟩

theorem wp_app {o : Oper} {a : Act} {K : Act → World → Prop} {Q : Exit → Act → World → Prop} (sx x : Operand) (t : TypeId)
    (ho : o.op = .call { callee := .builtin .append, args := #[sx, x], argTypes := #[t, t] }) {e : TypeId} {s bytes base : Nat} (E : Elem P t e s bytes) {A : Option Addr} {n c k : Nat} {C : Nat → Value} (hs : a.eval sx = .slice A n c) (hown : Own w base e s A n c k C)
    {B : Option Addr} {m d l : Nat} {D : Nat → Value} (hx : a.eval x = .slice B m d) (hl : l = m * s) (hr : Rd w B l D) (h1 : ∀ i, i < l → (D i).oneCell' = true)
    (h63 : n + m ≤ maxLen) (hbytes : (n + m) * bytes ≤ 140737488355328) (hbase : base ≤ w.heap.size) (q kq : Nat) (hq : q = n + m) (hkq : kq = k + l)
    (h : ∀ A' c' w', Own w' base e s A' q c' kq (cat k C D) → w.grownBy w' (Value.slice A n c).ownBlock → ((Value.slice A' q c').ownBlock = (Value.slice A n c).ownBlock ∨ (Value.slice A' q c').ownBlock = some w.heap.size) → Below base w w' → K (a.put o.dst (.slice A' q c')) w') : o.wp P a w K Q := by
  subst hq; subst hkq
  obtain ⟨A', c', w', hrun, h2, h3, h4⟩ := run_app (P := P) w (ty := o.type) (d := d) E hown hl hr h1 h63 hbytes hbase
  unfold Oper.wp execOp
  simp only [ho, resolve, invoke, builtin, Sem.run_bind, Sem.run_pure, Result.andThen_ok, List.map_toArray, List.map_cons, List.map_nil, hs, hx, hrun]
  exact h A' c' w' h2 h3 h4 ((Below.refl _ _).grown h3 hbase fun g hg => (hown.lt g hg).1)

theorem wpList_app {ops : Array Oper} {rest : List Oper} {o : Oper} {a : Act} {Q : Exit → Act → World → Prop} (hw : Region.wanted o (yielded ops a.tmps) = true) (sx x : Operand) (t : TypeId)
    (ho : o.op = .call { callee := .builtin .append, args := #[sx, x], argTypes := #[t, t] }) {e : TypeId} {s bytes base : Nat} (E : Elem P t e s bytes) {A : Option Addr} {n c k : Nat} {C : Nat → Value} (hs : a.eval sx = .slice A n c) (hown : Own w base e s A n c k C)
    {B : Option Addr} {m d l : Nat} {D : Nat → Value} (hx : a.eval x = .slice B m d) (hl : l = m * s) (hr : Rd w B l D) (h1 : ∀ i, i < l → (D i).oneCell' = true)
    (h63 : n + m ≤ maxLen) (hbytes : (n + m) * bytes ≤ 140737488355328) (hbase : base ≤ w.heap.size) (q kq : Nat) (hq : q = n + m) (hkq : kq = k + l)
    (h : ∀ A' c' w', Own w' base e s A' q c' kq (cat k C D) → w.grownBy w' (Value.slice A n c).ownBlock → ((Value.slice A' q c').ownBlock = (Value.slice A n c).ownBlock ∨ (Value.slice A' q c').ownBlock = some w.heap.size) → Below base w w' → wpList P ops Q rest (a.put o.dst (.slice A' q c')) w') : wpList P ops Q (o :: rest) a w :=
  BigFrame.wpList_want hw fun _ hK => wp_app w sx x t ho E hs hown hx hl hr h1 h63 hbytes hbase q kq hq hkq fun A' c' w' h2 h3 h4 h5 => hK _ _ (h A' c' w' h2 h3 h4 h5)

theorem step_app {ops : Array Oper} {o : Oper} {a : Act} {K : Act → World → Prop} {Q : Exit → Act → World → Prop} {Z : Prop} (hw : Region.wanted o (yielded ops a.tmps) = true) (sx x : Operand) (t : TypeId)
    (ho : o.op = .call { callee := .builtin .append, args := #[sx, x], argTypes := #[t, t] }) {e : TypeId} {s bytes base : Nat} (E : Elem P t e s bytes) {A : Option Addr} {n c k : Nat} {C : Nat → Value} (hs : a.eval sx = .slice A n c) (hown : Own w base e s A n c k C)
    {B : Option Addr} {m d l : Nat} {D : Nat → Value} (hx : a.eval x = .slice B m d) (hl : l = m * s) (hr : Rd w B l D) (h1 : ∀ i, i < l → (D i).oneCell' = true)
    (h63 : n + m ≤ maxLen) (hbytes : (n + m) * bytes ≤ 140737488355328) (hbase : base ≤ w.heap.size) (q kq : Nat) (hq : q = n + m) (hkq : kq = k + l)
    (h : ∀ A' c' w', Own w' base e s A' q c' kq (cat k C D) → w.grownBy w' (Value.slice A n c).ownBlock → ((Value.slice A' q c').ownBlock = (Value.slice A n c).ownBlock ∨ (Value.slice A' q c').ownBlock = some w.heap.size) → Below base w w' → K (a.put o.dst (.slice A' q c')) w') :
    if Region.wanted o (yielded ops a.tmps) = true then Oper.wp P o a w K Q else Z := by
  rw [if_pos hw]
  exact wp_app w sx x t ho E hs hown hx hl hr h1 h63 hbytes hbase q kq hq hkq h
end
end Go.Proofs.Ytklhbmlcpjlgiaa
