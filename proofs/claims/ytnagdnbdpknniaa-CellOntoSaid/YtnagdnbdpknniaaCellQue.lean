/- cell.orphan's queue: what is appended to it, what is taken off, and what stays so. Conditions: as each theorem states. -/
import Derived.Test.YtnagdnbdpknniaaCellReg
namespace Go.Proofs.Ytnagdnbdpknniaa
open CellM Go.ChangeShapes Go.WideShapes Go.ChangeAt Go.RowKit
set_option linter.unusedVariables false
theorem grown_setCell (w : World) (b o : Nat) (v : Value) : w.grownBy (w.setCell ⟨b, o, none⟩ v) (some b) :=
  ⟨rfl, rfl, rfl, by simp, fun k _ hk => Below.heap_setCell _ _ _ k (fun e => hk (by rw [e]))⟩
theorem Own.rowS {w : World} {base s : Nat} {e : TypeId} {A : Option Addr} {n c k : Nat} {C : Nat → Value} (h : Own w base e s A n c k C) (hn : 0 < n) :
    ∃ g F, A = some ⟨g, 0, none⟩ ∧ base ≤ g ∧ w.rowIs g e (c * s) F ∧ n ≤ c ∧ ∀ i, i < k → F i = C i := by
  rcases h.1.2 with ⟨_, h0⟩ | ⟨g, cap, cur, hv, hb, hg, hnc, hc, hs, ht⟩
  · omega
  · have hk := h.len
    injection hv with hA _ hcc
    subst hA; subst hcc
    have hle : n * s ≤ c * s := Nat.mul_le_mul_right s hnc
    refine ⟨g, fun i => (cur[i]?).getD default, rfl, hb, ⟨cur, hg, hs, fun i hi => ?_⟩, hnc, fun i hi => ?_⟩
    · have : i < cur.size := by omega
      simp [this]
    · obtain ⟨b, off, e1, _, hcell⟩ := h.rd.at_ hi
      simp at e1
      obtain ⟨rfl, rfl⟩ := e1
      rw [Nat.zero_add, cell_of_row w g i cur e (0, 0) hg] at hcell
      show (cur[i]?).getD default = _
      rw [hcell]; rfl
theorem row_ne {w : World} {b g n m : Nat} {t t' : TypeId} {F G : Nat → Value} (h : w.rowIs b t n F) (h' : w.rowIs g t' m G) (hne : t ≠ t') : b ≠ g := fun e => by
  obtain ⟨c, h1, _⟩ := h
  obtain ⟨c', h2, _⟩ := h'
  rw [e, h2] at h1
  injection h1 with h1
  injection h1 with _ h3 _
  exact hne h3.symm
theorem row_grown {w w' : World} {b g n : Nat} {t : TypeId} {F : Nat → Value} (h : w.rowIs b t n F) (hg : w.grownBy w' (some g)) (hne : b ≠ g) : w'.rowIs b t n F :=
  h.of_block (hg.block b h.lt (fun e => hne (Option.some.inj e)))
theorem Own.grownT {w w' : World} {base : Nat} {e t : TypeId} {s : Nat} {A : Option Addr} {n c k g L : Nat} {C R : Nat → Value} (h : Own w base e s A n c k C) (hg : w.grownBy w' (some g)) (hrow : w.rowIs g t L R) (hne : t ≠ e) : Own w' base e s A n c k C := by
  obtain ⟨cs, h1, _⟩ := hrow
  exact h.of_block fun x hx => hg.block x (h.lt x hx).2 (fun e' => own_ne h h1 hne (by rw [hx]; exact e'.symm))
theorem Qu.below {w w' : World} {base : Nat} {A : Option Addr} {m c : Nat} {C : Nat → Value} (h : Qu w base A m c C) (hb : Below w.heap.size w w') : Qu w' base A m c C := by
  obtain ⟨g, o, R, e, hg, hrow, r⟩ := h
  exact ⟨g, o, R, e, hg, hrow.of_block (hb.block g hrow.lt), r⟩
theorem wrapB (b : Bool) : wrap64 (bitI b + 1) = ((b2 b + 1 : Nat) : Int) := by
  cases b
  · exact IntWalk.wrap64_in (0 + 1) (by omega)
  · exact IntWalk.wrap64_in (1 + 1) (by omega)
theorem two_cells {a b : Value} (ha : a.oneCell' = true) (hb : b.oneCell' = true) (i : Nat) (hi : i < 2) : (if i = 0 then a else b).oneCell' = true := by split <;> assumption
theorem Qu.alloc {w : World} {base : Nat} {A : Option Addr} {m c : Nat} {C : Nat → Value} (h : Qu w base A m c C) (o : Obj) : Qu (w.alloc o) base A m c C := h.below ((Below.refl w.heap.size w).alloc (Nat.le_refl _) o)
theorem Qu.otherRow {w : World} {base : Nat} {A : Option Addr} {m c : Nat} {C : Nat → Value} (h : Qu w base A m c C) {gs L : Nat} {t : TypeId} {F : Nat → Value} (hrow : w.rowIs gs t L F) (hne : t ≠ 45) (i : Nat) {v : Value} : Qu (w.setCell ⟨gs, i, none⟩ v) base A m c C := by
  obtain ⟨g, o, R, e, hg, hr, rest⟩ := h
  exact ⟨g, o, R, e, hg, row_grown hr (grown_setCell w gs i v) (row_ne hr hrow (fun e => hne e.symm)), rest⟩
theorem wpList_qu (w : World) {ops : Array Oper} {rest : List Oper} {o : Oper} {a : Act} {Q : Exit → Act → World → Prop} (hg : o.guard = none) (sx x : Operand)
    (hop : o.op = .call { callee := .builtin .append, args := #[sx, x], argTypes := #[46, 46] }) {base : Nat} {A : Option Addr} {m c : Nat} {C : Nat → Value} (hs : a.eval sx = .slice A m c) (hq : Qu w base A m c C)
    {X : Option Addr} {d : Nat} {D : Nat → Value} (hx : a.eval x = .slice X 1 d) (hr : Rd w X 2 D) (h1 : ∀ i, i < 2 → (D i).oneCell' = true) (hm : m ≤ 1000) (hbase : base ≤ w.heap.size)
    (hK : ∀ A' c' w' g, (∃ off, A = some ⟨g, off, none⟩) → (∃ L R, w.rowIs g 45 L R) → Qu w' base A' (m + 1) c' (cat (m * 2) C D) → w.grownBy w' (some g) → (∀ g' off, A' = some ⟨g', off, none⟩ → g' = g ∨ w.heap.size ≤ g') → wpList Try.prog ops Q rest (a.put o.dst (.slice A' (m + 1) c')) w') :
    wpList Try.prog ops Q (o :: rest) a w := by
  obtain ⟨g, oo, R, rfl, hgb, hrow, hmc, hcm, hR⟩ := hq
  obtain ⟨ht, ⟨i, z, hi, hz, hsz, hb, hzs⟩, hpos⟩ := EQ2
  obtain ⟨xb, xo, rfl, _, hxc⟩ := hr (by omega)
  have e2 : (List.range 2).map D = [D 0, D 1] := rfl
  refine wpList_append_arg w hg sx x 46 hop 45 i z 2 32 ht hi hz hsz hb hzs (by omega) g (oo * 2) m c ((List.range (m * 2)).map C) hs (by simp) (fun j u hu => ?_) ⟨xb, xo, none⟩ 1 d ((List.range 2).map D) hx rfl (fun j u hu => ?_) (fun u hu => ?_) (fun hle j hj => ?_) (by unfold maxLen; omega) (by omega) (fun hle => ?_) (fun hlt v' w' r1 r2 => ?_)
  · have hj : j < m * 2 := by
      have := (List.getElem?_eq_some_iff.1 hu).1
      simpa using this
    rw [hrow.cell (i := oo * 2 + j) (by omega), hR j hj]
    simpa [hj] using hu
  · have hj : j < 2 := by
      have := (List.getElem?_eq_some_iff.1 hu).1
      simpa using this
    rw [add_plain', hxc j hj]
    simpa [hj] using hu
  · obtain ⟨j, hj, rfl⟩ := List.mem_map.1 hu
    exact h1 j (List.mem_range.1 hj)
  · have hj2 : j < 2 := by simpa using hj
    rw [hrow.cell (i := oo * 2 + m * 2 + j) (by omega)]
    exact ⟨rfl, hrow.frozen _⟩
  · have hset : w.setCells g (oo * 2 + m * 2) ((List.range 2).map D) = (w.setCell ⟨g, oo * 2 + m * 2, none⟩ (D 0)).setCell ⟨g, oo * 2 + m * 2 + 1, none⟩ (D 1) := rfl
    rw [hset]
    refine hK _ _ _ g ⟨_, rfl⟩ ⟨_, _, hrow⟩ ⟨g, oo, _, rfl, hgb, (hrow.set (oo * 2 + m * 2) (D 0)).set (oo * 2 + m * 2 + 1) (D 1), by omega, hcm, fun q hq => ?_⟩ ((grown_setCell w g _ _).trans (grown_setCell _ g _ _)) (fun g' off e => .inl (by injection e with e; injection e with e1 _; exact e1.symm))
    by_cases e : q < m * 2
    · rw [cat_lt e, if_neg (by omega), if_neg (by omega), hR q e]
    · rw [cat_ge (by omega)]
      by_cases e0 : q = m * 2
      · rw [if_neg (by omega), if_pos (by omega), show q - m * 2 = 0 by omega]
      · rw [if_pos (by omega), show q - m * 2 = 1 by omega]
  · obtain ⟨A', c', rfl, hown⟩ := own_of_row r1 (by unfold maxLen; omega)
    obtain ⟨g', F, rfl, hg', hrow', hmc', hF⟩ := hown.rowS (by omega)
    refine hK _ _ _ g ⟨_, rfl⟩ ⟨_, _, hrow⟩ ⟨g', 0, F, rfl, by omega, by rw [Nat.zero_add]; exact hrow', hmc', hown.le.2, fun q hq => ?_⟩ ⟨r2.os, r2.tape, r2.output, r2.size, fun k hk _ => r2.block k hk (by simp)⟩ (fun g'' off e => .inr (by injection e with e; injection e with e1 _; omega))
    rw [Nat.zero_mul, Nat.zero_add]
    exact hF q (by omega)
section
variable {r : Int} {w w' : World} {base gs : Nat} {A : Option Addr} {m c : Nat} {it : Nat → WI} {seen : Nat → Bool}
theorem Orp.below (h : Orp r w base gs A m c it seen) (hb : Below w.heap.size w w') : Orp r w' base gs A m c it seen :=
  ⟨fun hm => (h.qu hm).below hb, h.row.of_block (hb.block gs h.row.lt), h.gsb, fun i hi => ⟨(h.good i hi).own.below hb, (h.good i hi).set, (h.good i hi).pos, (h.good i hi).lt, (h.good i hi).len⟩, h.s15, h.cl⟩
def pushI (it : Nat → WI) (m : Nat) (x : WI) (i : Nat) : WI := if i < m then it i else x
/-- a set seen for the first time, and its word behind the queue -/
theorem Orp.push (h : Orp r w base gs A m c it seen) (hm0 : 0 < m) {x : WI} (hx : Own w base 4 1 x.A x.n x.c x.n (fun i => .bool (x.f i))) (hset : SF r x.f x.n = x.s) (hpos : x.s ≠ 0) (hlt : x.s < 16) (hlen : x.n < cntS seen 16 + 1) (hnew : seen x.s = false)
    {tmp : Obj} {g c' L : Nat} {A' : Option Addr} {R : Nat → Value} {D : Nat → Value} (hD0 : D 0 = .int .i64 (x.s : Nat)) (hD1 : D 1 = .slice x.A x.n x.c) (hrow : ((w.setCell ⟨gs, x.s, none⟩ (.bool true)).alloc tmp).rowIs g 45 L R)
    (hq : Qu w' base A' (m + 1) c' (cat (m * 2) (WI.V it) D)) (hg : ((w.setCell ⟨gs, x.s, none⟩ (.bool true)).alloc tmp).grownBy w' (some g)) :
    Orp r w' base gs A' (m + 1) c' (pushI it m x) (sawS seen x.s) := by
  have hrow1 := h.row.set x.s (.bool true)
  have hrow2 : ((w.setCell ⟨gs, x.s, none⟩ (.bool true)).alloc tmp).rowIs gs 43 16 (fun i => .bool (sawS seen x.s i)) := (hrow1.alloc tmp).congr fun i hi => by
    show (if i = x.s then _ else _) = Value.bool (if i = x.s then true else seen i)
    by_cases e : i = x.s
    · rw [if_pos e, if_pos e]
    · rw [if_neg e, if_neg e]
  have lift : ∀ {B : Option Addr} {n c2 : Nat} {f : Nat → Bool}, Own w base 4 1 B n c2 n (fun i => .bool (f i)) → Own w' base 4 1 B n c2 n (fun i => .bool (f i)) := fun ho =>
    ((ho.grownT (grown_setCell w gs x.s (.bool true)) h.row (by decide)).alloc tmp).grownT hg hrow (by decide)
  have hcnt : cntS (sawS seen x.s) 16 = cntS seen 16 + 1 := by rw [cntS_saw hnew, if_pos hlt]
  refine ⟨fun _ => ?_, row_grown hrow2 hg (row_ne hrow2 hrow (by decide)), h.gsb, fun i hi => ?_, ?_, fun s hs hs2 => ?_⟩
  · obtain ⟨g', o, R', e, hb, hr, h1, h2, h3⟩ := hq
    refine ⟨g', o, R', e, hb, hr, h1, h2, fun q hq => ?_⟩
    rw [h3 q hq]
    unfold WI.V pushI
    by_cases e2 : q < m * 2
    · rw [cat_lt e2, if_pos (show q / 2 < m by omega)]
    · rw [cat_ge (by omega), if_neg (show ¬ q / 2 < m by omega)]
      by_cases e3 : q % 2 = 0
      · rw [if_pos e3, show q - m * 2 = 0 by omega, hD0]
      · rw [if_neg e3, show q - m * 2 = 1 by omega, hD1]
  · unfold pushI
    by_cases e : i < m
    · rw [if_pos e]
      obtain ⟨a1, a2, a3, a4, a5⟩ := h.good i e
      exact ⟨lift a1, a2, a3, a4, by omega⟩
    · rw [if_neg e]
      exact ⟨lift hx, hset, hpos, hlt, by omega⟩
  · show (if 15 = x.s then true else seen 15) = true
    rw [h.s15]; split <;> rfl
  · by_cases e : s = x.s
    · exact .inl ⟨m, by omega, by unfold pushI; rw [if_neg (by omega)]; exact e.symm⟩
    · have hs3 : seen s = true := by
        have : (if s = x.s then true else seen s) = true := hs2
        rwa [if_neg e] at this
      rcases h.cl s hs hs3 with ⟨i, hi, h1⟩ | h1
      · exact .inl ⟨i, by omega, by unfold pushI; rw [if_pos hi]; exact h1⟩
      · refine .inr fun b => ⟨(h1 b).1, ?_⟩
        show (if _ = x.s then true else _) = true
        split
        · rfl
        · exact (h1 b).2
/-- the first word is taken off, when what comes of it was seen -/
theorem Orp.pop (h : Orp r w base gs A m c it seen) (hm0 : 0 < m) (hc : ∀ b, nS r (it 0).s b ≠ 0 ∧ seen (nS r (it 0).s b) = true) {A' : Option Addr} (hA : 1 < m → ∀ g o, A = some ⟨g, o * 2, none⟩ → A' = some ⟨g, (o + 1) * 2, none⟩) : Orp r w base gs A' (m - 1) (c - 1) (fun i => it (i + 1)) seen := by
  refine ⟨fun hm1 => ?_, h.row, h.gsb, fun i hi => h.good (i + 1) (by omega), h.s15, fun s hs hs2 => ?_⟩
  · obtain ⟨g, o, R, e, hb, hr, h1, h2, h3⟩ := h.qu hm0
    refine ⟨g, o + 1, R, hA (by omega) g o e, hb, by rw [show o + 1 + (c - 1) = o + c by omega]; exact hr, by omega, by omega, fun q hq => ?_⟩
    rw [show (o + 1) * 2 + q = o * 2 + (q + 2) by omega, h3 (q + 2) (by omega)]
    unfold WI.V
    rw [show (q + 2) % 2 = q % 2 by omega, show (q + 2) / 2 = q / 2 + 1 by omega]
  · rcases h.cl s hs hs2 with ⟨i, hi, h1⟩ | h1
    · by_cases e : i = 0
      · subst e; rw [← h1]; exact .inr hc
      · exact .inl ⟨i - 1, by omega, by show (it (i - 1 + 1)).s = s; rw [show i - 1 + 1 = i by omega]; exact h1⟩
    · exact .inr h1
end
end Go.Proofs.Ytnagdnbdpknniaa
