/- Region 9 of cell.orphan, whatever order is drawn: one state of what has come up after the other (printed by gen_orphan.py). Conditions: the rule, the set and the word are as told. -/
import Derived.Test.YtnagdnbdpknniaaCellQu
import Derived.OrdersHeld
namespace Go.Proofs.Ytnagdnbdpknniaa
open CellM Go.ChangeShapes Go.WideShapes Go.ChangeAt Go.RowKit
set_option linter.unusedVariables false
def findReg (id : Nat) : Code → Option (Array Oper)
  | .region n ops _ => if n = id then some ops else none
  | .seq a b => match findReg id a with
    | some c => some c
    | none => findReg id b
  | .cond _ a b => match findReg id a with
    | some c => some c
    | none => findReg id b
  | .block _ c => findReg id c
  | .loop c => findReg id c
  | .scope c => findReg id c
  | _ => none
noncomputable def ops9 : Array Oper := ((Try.f16.body.bind (findReg 9)).getD #[])
section
variable {P : Program} {ops : Array Oper} {Q : Exit → Act → World → Prop} {K : Act → World → Prop} {a : Act} {w : World}
theorem wanted_of {o : Oper} {f : Nat → Option Bool} (h : o.guard = none) : Region.wanted o f = true := by simp [Region.wanted, h]
/-- what is known of an operation -/
def OpIs (ops : Array Oper) (i : Nat) (d : Option Tmp) (t : TypeId) (op : Op) : Prop := ∃ o, ops[i]? = some o ∧ o.guard = none ∧ o.dst = d ∧ o.type = t ∧ o.op = op
theorem wpOp_go {i : Nat} {d : Option Tmp} {t : TypeId} {op : Op} (he : OpIs ops i d t op) {v : Value} {w' : World} (hrun : ∀ o : Oper, o.op = op → o.type = t → (execOp a.eval o).run P w = .ok (.value v) w') (h : K (a.put d v) w') : wpOp P ops Q i K a w := by
  obtain ⟨o, hi, hg, rfl, ht, ho⟩ := he
  unfold wpOp
  simp only [hi, wanted_of hg, if_true]
  refine .inl ?_
  unfold Oper.wp
  rw [hrun o ho ht]; exact h
theorem wpOp_skip {i : Nat} {d : Option Tmp} {t : TypeId} {op : Op} (he : OpIs ops i d t op) {w' : World} (hrun : ∀ o : Oper, o.op = op → o.type = t → (execOp a.eval o).run P w = .ok .skip w') (h : K (a.put d undef) w') : wpOp P ops Q i K a w := by
  obtain ⟨o, hi, hg, rfl, ht, ho⟩ := he
  unfold wpOp
  simp only [hi, wanted_of hg, if_true]
  refine .inl ?_
  unfold Oper.wp
  rw [hrun o ho ht]; exact h
theorem wpOp_call {i : Nat} {d : Option Tmp} {t : TypeId} {op : Op} (he : OpIs ops i d t op) {f : FuncId} {args : Array Value} (hrun : ∀ o : Oper, o.op = op → o.type = t → (execOp a.eval o).run P w = .ok (.enter f args) w) {R : Ending → World → Prop} (hc : Calls P f args w R) (hK : ∀ e w', R e w' → ∃ v, e = .returned v ∧ K (a.put d v) w') : wpOp P ops Q i K a w := by
  obtain ⟨o, hi, hg, rfl, ht, ho⟩ := he
  unfold wpOp
  simp only [hi, wanted_of hg, if_true]
  refine .inl ?_
  unfold Oper.wp
  rw [hrun o ho ht]
  refine hc.mono fun e w' hr => ?_
  obtain ⟨v, rfl, h⟩ := hK e w' hr
  exact h
theorem run_app_op {o : Oper} {w' : World} (sx x : Operand) (t : TypeId) (ho : o.op = .call { callee := .builtin .append, args := #[sx, x], argTypes := #[t, t] }) {v1 v2 v' : Value} (hs : a.eval sx = v1) (hx : a.eval x = v2) (hrun : (Builtin.append_ #[t, t] o.type #[v1, v2]).run P w = .ok v' w') : (execOp a.eval o).run P w = .ok (.value v') w' := by
  unfold execOp
  simp only [ho, resolve, invoke, builtin, Sem.run_bind, Sem.run_pure, Result.andThen_ok, List.map_toArray, List.map_cons, List.map_nil, hs, hx, hrun]
end
theorem op4 : OpIs ops9 4 (some 27) 3 (.call { callee := .value (.func 18), args := #[.tmp 23, .tmp 25, .tmp 26], argTypes := #[3, 3, 3] }) := ⟨_, rfl, rfl, rfl, rfl, rfl⟩
theorem op7 : OpIs ops9 7 (some 30) 22 (.call { callee := .value (.func 19), args := #[.tmp 29], argTypes := #[22] }) := ⟨_, rfl, rfl, rfl, rfl, rfl⟩
theorem op10 : OpIs ops9 10 (some 33) 22 (.buildSlice 22 1 #[(0, .tmp 32)]) := ⟨_, rfl, rfl, rfl, rfl, rfl⟩
theorem op11 : OpIs ops9 11 (some 34) 22 (.call { callee := .builtin .append, args := #[.tmp 30, .tmp 33], argTypes := #[22, 22] }) := ⟨_, rfl, rfl, rfl, rfl, rfl⟩
theorem op12 : OpIs ops9 12 (some 35) 45 (.build 45 #[(0, .tmp 27), (1, .tmp 34)]) := ⟨_, rfl, rfl, rfl, rfl, rfl⟩
theorem op13 : ∃ t, OpIs ops9 13 (some 8) t (.alloc 45) := ⟨_, _, rfl, rfl, rfl, rfl, rfl⟩
theorem op14 : ∃ t, OpIs ops9 14 none t (.store 45 (.tmp 8) (.tmp 35)) := ⟨_, _, rfl, rfl, rfl, rfl, rfl⟩
def PX (w wr : World) (x8 : Nat) : Prop := wr.heap.size ≤ x8 ∧ w.heap[x8]? = some (.cells #[.int .i64 0, .slice none 0 0] 45 (0, 0))
def PB (w : World) (gb : Nat) (bb : Bool) : Prop := Rd w (some ⟨gb, 0, none⟩) 1 (fun _ => .bool bb)
def PK (w wr : World) (A3 : Option Addr) (Xn c3 : Nat) (Xf : Nat → Bool) : Prop := Own w wr.heap.size 4 1 A3 Xn c3 Xn (fun i => .bool (Xf i))
def PA (w wr : World) (A4 : Option Addr) (Xn c4 : Nat) (Xf : Nat → Bool) (bb : Bool) : Prop := Own w wr.heap.size 4 1 A4 (Xn + 1) c4 (Xn + 1) (fun i => .bool (if i < Xn then Xf i else bb))
section
variable {w w' wr : World} {x8 gb Xn c3 : Nat} {bb : Bool} {A3 : Option Addr} {Xf : Nat → Bool}
theorem PX.lt (h : PX w wr x8) : x8 < w.heap.size := (Array.getElem?_eq_some_iff.1 h.2).1
theorem PX.below (h : PX w wr x8) (hb : Below w.heap.size w w') : PX w' wr x8 := ⟨h.1, (hb.block x8 h.lt).trans h.2⟩
theorem PB.below (h : PB w gb bb) (hb : Below w.heap.size w w') : PB w' gb bb := Rd.below h hb
theorem PK.below (h : PK w wr A3 Xn c3 Xf) (hb : Below w.heap.size w w') : PK w' wr A3 Xn c3 Xf := Own.below h hb
theorem PA.below (h : PA w wr A3 Xn c3 Xf bb) (hb : Below w.heap.size w w') : PA w' wr A3 Xn c3 Xf bb := Own.below h hb
/-- a row of the call's own is no block of another type -/
theorem own_ne {base n c k x : Nat} {e t : TypeId} {s : Nat} {A : Option Addr} {C : Nat → Value} (h : Own w base e s A n c k C) {cs : Array Value} {z : Nat × Nat} (hx : w.heap[x]? = some (.cells cs t z)) (hne : t ≠ e) : some x ≠ (Value.slice A n c).ownBlock := fun he => by
  rcases h.1.2 with ⟨hv, _⟩ | ⟨g, cap, cur, hv, hb, hg, _⟩
  · rw [hv] at he; cases he
  · rw [hv] at he
    have e1 : x = g := Option.some.inj he
    subst e1
    rw [hx] at hg
    injection hg with hg
    injection hg with _ h2 _
    exact hne h2
end
structure R9 (r : Int) (S B6 : Nat) (XA : Option Addr) (Xn Xc : Nat) (Xf : Nat → Bool) (wr : World) : Prop where
  r0 : 0 ≤ r
  r1 : r ≤ 255
  hs : S ≤ 15
  hx : Rd wr XA Xn (fun i => .bool (Xf i))
  hn : Xn ≤ 100
  b0 : wr.cell? ⟨B6, 0, none⟩ = some (.int .i64 (S : Nat))
  b1 : wr.cell? ⟨B6, 1, none⟩ = some (.slice XA Xn Xc)
  bl : B6 < wr.heap.size
def S9 (S B6 : Nat) (XA : Option Addr) (Xn Xc : Nat) (W : World) : Prop := W.cell? ⟨B6, 0, none⟩ = some (.int .i64 (S : Nat)) ∧ W.cell? ⟨B6, 1, none⟩ = some (.slice XA Xn Xc)
theorem R9.s9 {r : Int} {S B6 : Nat} {XA : Option Addr} {Xn Xc : Nat} {Xf : Nat → Bool} {wr W : World} (h : R9 r S B6 XA Xn Xc Xf wr) (hb : Below wr.heap.size wr W) : S9 S B6 XA Xn Xc W := ⟨(hb.cell (p := ⟨B6, 0, none⟩) h.bl).trans h.b0, (hb.cell (p := ⟨B6, 1, none⟩) h.bl).trans h.b1⟩
section
variable {r : Int} {S B6 : Nat} {XA : Option Addr} {Xn Xc : Nat} {Xf : Nat → Bool} {bb : Bool} {wr : World} {Q : Exit → Act → World → Prop}
theorem set2 {w wr : World} {x8 Xn c4 : Nat} {A4 : Option Addr} {Xf : Nat → Bool} {bb : Bool} (hX : PX w wr x8) (ha : PA w wr A4 Xn c4 Xf bb) (hB : Below wr.heap.size wr w) (s : Nat) (v : Value) :
    ((w.setCell ⟨x8, 0, none⟩ (.int .i64 (s : Nat))).setCell ⟨x8, 1, none⟩ v).cell? ⟨x8, 0, none⟩ = some (.int .i64 (s : Nat)) ∧ ((w.setCell ⟨x8, 0, none⟩ (.int .i64 (s : Nat))).setCell ⟨x8, 1, none⟩ v).cell? ⟨x8, 1, none⟩ = some v ∧ ((w.setCell ⟨x8, 0, none⟩ (.int .i64 (s : Nat))).setCell ⟨x8, 1, none⟩ v).heap[x8]? = some (.cells #[.int .i64 (s : Nat), v] 45 (0, 0)) ∧ PA ((w.setCell ⟨x8, 0, none⟩ (.int .i64 (s : Nat))).setCell ⟨x8, 1, none⟩ v) wr A4 Xn c4 Xf bb ∧ Below wr.heap.size wr ((w.setCell ⟨x8, 0, none⟩ (.int .i64 (s : Nat))).setCell ⟨x8, 1, none⟩ v) := by
  have hlt := hX.lt
  have hh : ((w.setCell ⟨x8, 0, none⟩ (.int .i64 (s : Nat))).setCell ⟨x8, 1, none⟩ v).heap[x8]? = some (.cells #[.int .i64 (s : Nat), v] 45 (0, 0)) := by
    have hrow : w.rowIs x8 45 2 (fun i => if i = 0 then .int .i64 0 else .slice none 0 0) := ⟨_, hX.2, rfl, fun i hi => by
      have : i = 0 ∨ i = 1 := by omega
      rcases this with rfl | rfl <;> rfl⟩
    obtain ⟨cur, hg, hs, hF⟩ := (hrow.set 0 (.int .i64 (s : Nat))).set 1 v
    have h0 := hF 0 (by omega)
    have h1 := hF 1 (by omega)
    have hc : cur = #[.int .i64 (s : Nat), v] := by
      apply Array.ext_getElem?
      intro i
      by_cases e0 : i = 0
      · subst e0; rw [h0]; rfl
      · by_cases e1 : i = 1
        · subst e1; rw [h1]; rfl
        · rw [Array.getElem?_eq_none (by omega), Array.getElem?_eq_none (by simp; omega)]
    rw [hg, hc]
  refine ⟨by rw [cell_of_row _ x8 0 _ _ (0, 0) hh]; rfl, by rw [cell_of_row _ x8 1 _ _ (0, 0) hh]; rfl, hh, ?_, (hB.setCell (p := ⟨x8, 0, none⟩) hX.1 _).setCell (p := ⟨x8, 1, none⟩) hX.1 _⟩
  refine Own.of_block ha fun g hg => ?_
  have hne : g ≠ x8 := fun e => own_ne ha hX.2 (by decide) (by rw [hg, e])
  rw [Below.heap_setCell _ _ _ g hne, Below.heap_setCell _ _ _ g hne]
set_option maxRecDepth 100000 in
theorem r9_4_7_10_11_12_13 (C : R9 r S B6 XA Xn Xc Xf wr) {u0 u1 u2 u3 u4 u5 u6 u7 u9 u10 u11 u12 u13 u14 u15 u16 u17 u18 u19 u20 u21 u22 u24 u27 u28 u30 u31 u33 u34 u36 u37 u38 u39 u40 u41 u42 u43 u44 u45 u46 u47 u48 u49 u50 u51 u52 u53 : Value} (hQ : (∀ (w' : World) (x8 : Nat) (A4 : Option Addr) (c4 : Nat) (v27 v30 v33 v34 v35 : Value), wr.heap.size ≤ x8 → w'.cell? ⟨x8, 0, none⟩ = some (.int .i64 (nS r S bb : Nat)) → w'.cell? ⟨x8, 1, none⟩ = some (.slice A4 (Xn + 1) c4) → w'.heap[x8]? = some (.cells #[.int .i64 (nS r S bb : Nat), .slice A4 (Xn + 1) c4] 45 (0, 0)) → PA w' wr A4 Xn c4 Xf bb → Below wr.heap.size wr w' → Q .normal ⟨#[u0, u1, u2, u3, u4, u5, u6, u7, .pointer (some ⟨x8, 0, none⟩), u9, u10, u11, u12, u13, u14, u15, u16, u17, u18, u19, u20, u21, u22, .int .i64 r, u24, .int .i64 (S : Nat), .int .i64 (bitI bb), v27, u28, .slice XA Xn Xc, v30, u31, .bool (bitI bb == 1), v33, v34, v35, u36, u37, u38, u39, u40, u41, u42, u43, u44, u45, u46, u47, u48, u49, u50, u51, u52, u53], []⟩ w')) (w : World) (hB : Below wr.heap.size wr w) (x8 : Nat) (hX : PX w wr x8) (A4 : Option Addr) (c4 : Nat) (ha : PA w wr A4 Xn c4 Xf bb) :
    wpAnyH Try.prog .any ops9 Q (S9 S B6 XA Xn Xc) 1 #[true, true, true, true, true, true, true, true, true, true, true, true, true, true, false] ⟨#[u0, u1, u2, u3, u4, u5, u6, u7, .pointer (some ⟨x8, 0, none⟩), u9, u10, u11, u12, u13, u14, u15, u16, u17, u18, u19, u20, u21, u22, .int .i64 r, u24, .int .i64 (S : Nat), .int .i64 (bitI bb), u27, u28, .slice XA Xn Xc, u30, u31, .bool (bitI bb == 1), u33, u34, .agg #[.int .i64 (nS r S bb : Nat), .slice A4 (Xn + 1) c4], u36, u37, u38, u39, u40, u41, u42, u43, u44, u45, u46, u47, u48, u49, u50, u51, u52, u53], []⟩ w := by
  refine wpAnyH_all (rs := [14]) (by kernel_rfl) (by simp) (fun i hi => ?_)
  obtain rfl : i = 14 := by simpa using hi
  have x0 : w.cell? ⟨x8, 0, none⟩ = some (.int .i64 0) := by rw [cell_of_row w x8 0 _ _ (0, 0) hX.2]; rfl
  have x1 : w.cell? ⟨x8, 1, none⟩ = some (.slice none 0 0) := by rw [cell_of_row w x8 1 _ _ (0, 0) hX.2]; rfl
  have z0 : w.frozen? ⟨x8, 0, none⟩ = false := by simp [World.frozen?, hX.2]
  have z1 : w.frozen? ⟨x8, 1, none⟩ = false := by simp [World.frozen?, hX.2]
  obtain ⟨_, op14'⟩ := op14
  refine wpOp_skip op14' (w' := (w.setCell ⟨x8, 0, none⟩ (.int .i64 (nS r S bb : Nat))).setCell ⟨x8, 1, none⟩ (.slice A4 (Xn + 1) c4)) (fun o ho ht => by unfold execOp; rw [ho]; go_simp) ?_
  obtain ⟨h1, h2, h3, h4, h5⟩ := set2 hX ha hB (nS r S bb) (.slice A4 (Xn + 1) c4)
  exact ⟨C.s9 h5, wpAnyH_done (by kernel_rfl) (hQ _ x8 A4 c4 _ _ _ _ _ hX.1 h1 h2 h3 h4 h5) _⟩
set_option maxRecDepth 100000 in
theorem r9_4_7_10_11_12 (C : R9 r S B6 XA Xn Xc Xf wr) {u0 u1 u2 u3 u4 u5 u6 u7 u8 u9 u10 u11 u12 u13 u14 u15 u16 u17 u18 u19 u20 u21 u22 u24 u27 u28 u30 u31 u33 u34 u36 u37 u38 u39 u40 u41 u42 u43 u44 u45 u46 u47 u48 u49 u50 u51 u52 u53 : Value} (hQ : (∀ (w' : World) (x8 : Nat) (A4 : Option Addr) (c4 : Nat) (v27 v30 v33 v34 v35 : Value), wr.heap.size ≤ x8 → w'.cell? ⟨x8, 0, none⟩ = some (.int .i64 (nS r S bb : Nat)) → w'.cell? ⟨x8, 1, none⟩ = some (.slice A4 (Xn + 1) c4) → w'.heap[x8]? = some (.cells #[.int .i64 (nS r S bb : Nat), .slice A4 (Xn + 1) c4] 45 (0, 0)) → PA w' wr A4 Xn c4 Xf bb → Below wr.heap.size wr w' → Q .normal ⟨#[u0, u1, u2, u3, u4, u5, u6, u7, .pointer (some ⟨x8, 0, none⟩), u9, u10, u11, u12, u13, u14, u15, u16, u17, u18, u19, u20, u21, u22, .int .i64 r, u24, .int .i64 (S : Nat), .int .i64 (bitI bb), v27, u28, .slice XA Xn Xc, v30, u31, .bool (bitI bb == 1), v33, v34, v35, u36, u37, u38, u39, u40, u41, u42, u43, u44, u45, u46, u47, u48, u49, u50, u51, u52, u53], []⟩ w')) (w : World) (hB : Below wr.heap.size wr w) (A4 : Option Addr) (c4 : Nat) (ha : PA w wr A4 Xn c4 Xf bb) :
    wpAnyH Try.prog .any ops9 Q (S9 S B6 XA Xn Xc) 2 #[true, true, true, true, true, true, true, true, true, true, true, true, true, false, false] ⟨#[u0, u1, u2, u3, u4, u5, u6, u7, u8, u9, u10, u11, u12, u13, u14, u15, u16, u17, u18, u19, u20, u21, u22, .int .i64 r, u24, .int .i64 (S : Nat), .int .i64 (bitI bb), u27, u28, .slice XA Xn Xc, u30, u31, .bool (bitI bb == 1), u33, u34, .agg #[.int .i64 (nS r S bb : Nat), .slice A4 (Xn + 1) c4], u36, u37, u38, u39, u40, u41, u42, u43, u44, u45, u46, u47, u48, u49, u50, u51, u52, u53], []⟩ w := by
  refine wpAnyH_all (rs := [13]) (by kernel_rfl) (by simp) (fun i hi => ?_)
  obtain rfl : i = 13 := by simpa using hi
  have hbw := (Below.refl w.heap.size w).alloc (Nat.le_refl _) (.cells #[.int .i64 0, .slice none 0 0] 45)
  have hB' := hB.alloc hB.size (.cells #[.int .i64 0, .slice none 0 0] 45)
  obtain ⟨_, op13'⟩ := op13
  refine wpOp_go op13' (v := .pointer (some ⟨w.heap.size, 0, none⟩)) (w' := w.alloc (.cells #[.int .i64 0, .slice none 0 0] 45)) (fun o ho ht => by unfold execOp; rw [ho]; go_simp) ⟨C.s9 hB', ?_⟩
  exact r9_4_7_10_11_12_13 C hQ _ hB' w.heap.size ⟨hB.size, heap_alloc_new w _⟩ A4 c4 (ha.below hbw)
set_option maxRecDepth 100000 in
theorem r9_4_7_10_11_13 (C : R9 r S B6 XA Xn Xc Xf wr) {u0 u1 u2 u3 u4 u5 u6 u7 u9 u10 u11 u12 u13 u14 u15 u16 u17 u18 u19 u20 u21 u22 u24 u28 u30 u31 u33 u35 u36 u37 u38 u39 u40 u41 u42 u43 u44 u45 u46 u47 u48 u49 u50 u51 u52 u53 : Value} (hQ : (∀ (w' : World) (x8 : Nat) (A4 : Option Addr) (c4 : Nat) (v27 v30 v33 v34 v35 : Value), wr.heap.size ≤ x8 → w'.cell? ⟨x8, 0, none⟩ = some (.int .i64 (nS r S bb : Nat)) → w'.cell? ⟨x8, 1, none⟩ = some (.slice A4 (Xn + 1) c4) → w'.heap[x8]? = some (.cells #[.int .i64 (nS r S bb : Nat), .slice A4 (Xn + 1) c4] 45 (0, 0)) → PA w' wr A4 Xn c4 Xf bb → Below wr.heap.size wr w' → Q .normal ⟨#[u0, u1, u2, u3, u4, u5, u6, u7, .pointer (some ⟨x8, 0, none⟩), u9, u10, u11, u12, u13, u14, u15, u16, u17, u18, u19, u20, u21, u22, .int .i64 r, u24, .int .i64 (S : Nat), .int .i64 (bitI bb), v27, u28, .slice XA Xn Xc, v30, u31, .bool (bitI bb == 1), v33, v34, v35, u36, u37, u38, u39, u40, u41, u42, u43, u44, u45, u46, u47, u48, u49, u50, u51, u52, u53], []⟩ w')) (w : World) (hB : Below wr.heap.size wr w) (x8 : Nat) (hX : PX w wr x8) (A4 : Option Addr) (c4 : Nat) (ha : PA w wr A4 Xn c4 Xf bb) :
    wpAnyH Try.prog .any ops9 Q (S9 S B6 XA Xn Xc) 2 #[true, true, true, true, true, true, true, true, true, true, true, true, false, true, false] ⟨#[u0, u1, u2, u3, u4, u5, u6, u7, .pointer (some ⟨x8, 0, none⟩), u9, u10, u11, u12, u13, u14, u15, u16, u17, u18, u19, u20, u21, u22, .int .i64 r, u24, .int .i64 (S : Nat), .int .i64 (bitI bb), .int .i64 (nS r S bb : Nat), u28, .slice XA Xn Xc, u30, u31, .bool (bitI bb == 1), u33, .slice A4 (Xn + 1) c4, u35, u36, u37, u38, u39, u40, u41, u42, u43, u44, u45, u46, u47, u48, u49, u50, u51, u52, u53], []⟩ w := by
  refine wpAnyH_all (rs := [12]) (by kernel_rfl) (by simp) (fun i hi => ?_)
  obtain rfl : i = 12 := by simpa using hi
  refine wpOp_go op12 (v := .agg #[.int .i64 (nS r S bb : Nat), .slice A4 (Xn + 1) c4]) (w' := w) (fun o ho ht => by unfold execOp; rw [ho]; go_simp) ⟨C.s9 hB, ?_⟩
  exact r9_4_7_10_11_12_13 C hQ _ hB x8 (hX.below (Below.refl _ _)) A4 c4 (ha.below (Below.refl _ _))
set_option maxRecDepth 100000 in
theorem r9_4_7_10_11 (C : R9 r S B6 XA Xn Xc Xf wr) {u0 u1 u2 u3 u4 u5 u6 u7 u8 u9 u10 u11 u12 u13 u14 u15 u16 u17 u18 u19 u20 u21 u22 u24 u28 u30 u31 u33 u35 u36 u37 u38 u39 u40 u41 u42 u43 u44 u45 u46 u47 u48 u49 u50 u51 u52 u53 : Value} (hQ : (∀ (w' : World) (x8 : Nat) (A4 : Option Addr) (c4 : Nat) (v27 v30 v33 v34 v35 : Value), wr.heap.size ≤ x8 → w'.cell? ⟨x8, 0, none⟩ = some (.int .i64 (nS r S bb : Nat)) → w'.cell? ⟨x8, 1, none⟩ = some (.slice A4 (Xn + 1) c4) → w'.heap[x8]? = some (.cells #[.int .i64 (nS r S bb : Nat), .slice A4 (Xn + 1) c4] 45 (0, 0)) → PA w' wr A4 Xn c4 Xf bb → Below wr.heap.size wr w' → Q .normal ⟨#[u0, u1, u2, u3, u4, u5, u6, u7, .pointer (some ⟨x8, 0, none⟩), u9, u10, u11, u12, u13, u14, u15, u16, u17, u18, u19, u20, u21, u22, .int .i64 r, u24, .int .i64 (S : Nat), .int .i64 (bitI bb), v27, u28, .slice XA Xn Xc, v30, u31, .bool (bitI bb == 1), v33, v34, v35, u36, u37, u38, u39, u40, u41, u42, u43, u44, u45, u46, u47, u48, u49, u50, u51, u52, u53], []⟩ w')) (w : World) (hB : Below wr.heap.size wr w) (A4 : Option Addr) (c4 : Nat) (ha : PA w wr A4 Xn c4 Xf bb) :
    wpAnyH Try.prog .any ops9 Q (S9 S B6 XA Xn Xc) 3 #[true, true, true, true, true, true, true, true, true, true, true, true, false, false, false] ⟨#[u0, u1, u2, u3, u4, u5, u6, u7, u8, u9, u10, u11, u12, u13, u14, u15, u16, u17, u18, u19, u20, u21, u22, .int .i64 r, u24, .int .i64 (S : Nat), .int .i64 (bitI bb), .int .i64 (nS r S bb : Nat), u28, .slice XA Xn Xc, u30, u31, .bool (bitI bb == 1), u33, .slice A4 (Xn + 1) c4, u35, u36, u37, u38, u39, u40, u41, u42, u43, u44, u45, u46, u47, u48, u49, u50, u51, u52, u53], []⟩ w := by
  refine wpAnyH_all (rs := [12, 13]) (by kernel_rfl) (by simp) (fun i hi => ?_)
  rcases (by simpa using hi : i = 12 ∨ i = 13) with rfl | rfl
  · refine wpOp_go op12 (v := .agg #[.int .i64 (nS r S bb : Nat), .slice A4 (Xn + 1) c4]) (w' := w) (fun o ho ht => by unfold execOp; rw [ho]; go_simp) ⟨C.s9 hB, ?_⟩
    exact r9_4_7_10_11_12 C hQ _ hB A4 c4 (ha.below (Below.refl _ _))
  · have hbw := (Below.refl w.heap.size w).alloc (Nat.le_refl _) (.cells #[.int .i64 0, .slice none 0 0] 45)
    have hB' := hB.alloc hB.size (.cells #[.int .i64 0, .slice none 0 0] 45)
    obtain ⟨_, op13'⟩ := op13
    refine wpOp_go op13' (v := .pointer (some ⟨w.heap.size, 0, none⟩)) (w' := w.alloc (.cells #[.int .i64 0, .slice none 0 0] 45)) (fun o ho ht => by unfold execOp; rw [ho]; go_simp) ⟨C.s9 hB', ?_⟩
    exact r9_4_7_10_11_13 C hQ _ hB' w.heap.size ⟨hB.size, heap_alloc_new w _⟩ A4 c4 (ha.below hbw)
set_option maxRecDepth 100000 in
theorem r9_4_7_10_13 (C : R9 r S B6 XA Xn Xc Xf wr) {u0 u1 u2 u3 u4 u5 u6 u7 u9 u10 u11 u12 u13 u14 u15 u16 u17 u18 u19 u20 u21 u22 u24 u28 u31 u34 u35 u36 u37 u38 u39 u40 u41 u42 u43 u44 u45 u46 u47 u48 u49 u50 u51 u52 u53 : Value} (hQ : (∀ (w' : World) (x8 : Nat) (A4 : Option Addr) (c4 : Nat) (v27 v30 v33 v34 v35 : Value), wr.heap.size ≤ x8 → w'.cell? ⟨x8, 0, none⟩ = some (.int .i64 (nS r S bb : Nat)) → w'.cell? ⟨x8, 1, none⟩ = some (.slice A4 (Xn + 1) c4) → w'.heap[x8]? = some (.cells #[.int .i64 (nS r S bb : Nat), .slice A4 (Xn + 1) c4] 45 (0, 0)) → PA w' wr A4 Xn c4 Xf bb → Below wr.heap.size wr w' → Q .normal ⟨#[u0, u1, u2, u3, u4, u5, u6, u7, .pointer (some ⟨x8, 0, none⟩), u9, u10, u11, u12, u13, u14, u15, u16, u17, u18, u19, u20, u21, u22, .int .i64 r, u24, .int .i64 (S : Nat), .int .i64 (bitI bb), v27, u28, .slice XA Xn Xc, v30, u31, .bool (bitI bb == 1), v33, v34, v35, u36, u37, u38, u39, u40, u41, u42, u43, u44, u45, u46, u47, u48, u49, u50, u51, u52, u53], []⟩ w')) (w : World) (hB : Below wr.heap.size wr w) (x8 : Nat) (hX : PX w wr x8) (gb : Nat) (hb : PB w gb bb) (A3 : Option Addr) (c3 : Nat) (hk : PK w wr A3 Xn c3 Xf) :
    wpAnyH Try.prog .any ops9 Q (S9 S B6 XA Xn Xc) 3 #[true, true, true, true, true, true, true, true, true, true, true, false, false, true, false] ⟨#[u0, u1, u2, u3, u4, u5, u6, u7, .pointer (some ⟨x8, 0, none⟩), u9, u10, u11, u12, u13, u14, u15, u16, u17, u18, u19, u20, u21, u22, .int .i64 r, u24, .int .i64 (S : Nat), .int .i64 (bitI bb), .int .i64 (nS r S bb : Nat), u28, .slice XA Xn Xc, .slice A3 Xn c3, u31, .bool (bitI bb == 1), .slice (some ⟨gb, 0, none⟩) 1 1, u34, u35, u36, u37, u38, u39, u40, u41, u42, u43, u44, u45, u46, u47, u48, u49, u50, u51, u52, u53], []⟩ w := by
  refine wpAnyH_all (rs := [11]) (by kernel_rfl) (by simp) (fun i hi => ?_)
  obtain rfl : i = 11 := by simpa using hi
  obtain ⟨A4, c4, w', hrun, hown, hgr, hat⟩ := run_app (P := Try.prog) w (ty := 22) (d := 1) EB hk (B := some ⟨gb, 0, none⟩) (m := 1) (l := 1) (by omega) hb (fun _ _ => rfl) (by have := C.hn; unfold maxLen; omega) (by have := C.hn; omega) hB.size
  have hB' := hB.grown hgr hB.size (fun g hg => (Own.lt hk g hg).1)
  have hpa : PA w' wr A4 Xn c4 Xf bb := hown.congr fun i hi => by
      by_cases e : i < Xn
      · rw [cat_lt e, if_pos e]
      · rw [cat_ge (by omega), if_neg e]
  refine wpOp_go op11 (v := .slice A4 (Xn + 1) c4) (w' := w') (fun o ho ht => run_app_op (v1 := .slice A3 Xn c3) (v2 := .slice (some ⟨gb, 0, none⟩) 1 1) (.tmp 30) (.tmp 33) 22 ho (by go_simp) (by go_simp) (by rw [ht]; exact hrun)) ⟨C.s9 hB', ?_⟩
  exact r9_4_7_10_11_13 C hQ _ hB' x8 ⟨hX.1, (hgr.block x8 hX.lt (own_ne hk hX.2 (by decide))).trans hX.2⟩ A4 c4 hpa
set_option maxRecDepth 100000 in
theorem r9_4_7_10 (C : R9 r S B6 XA Xn Xc Xf wr) {u0 u1 u2 u3 u4 u5 u6 u7 u8 u9 u10 u11 u12 u13 u14 u15 u16 u17 u18 u19 u20 u21 u22 u24 u28 u31 u34 u35 u36 u37 u38 u39 u40 u41 u42 u43 u44 u45 u46 u47 u48 u49 u50 u51 u52 u53 : Value} (hQ : (∀ (w' : World) (x8 : Nat) (A4 : Option Addr) (c4 : Nat) (v27 v30 v33 v34 v35 : Value), wr.heap.size ≤ x8 → w'.cell? ⟨x8, 0, none⟩ = some (.int .i64 (nS r S bb : Nat)) → w'.cell? ⟨x8, 1, none⟩ = some (.slice A4 (Xn + 1) c4) → w'.heap[x8]? = some (.cells #[.int .i64 (nS r S bb : Nat), .slice A4 (Xn + 1) c4] 45 (0, 0)) → PA w' wr A4 Xn c4 Xf bb → Below wr.heap.size wr w' → Q .normal ⟨#[u0, u1, u2, u3, u4, u5, u6, u7, .pointer (some ⟨x8, 0, none⟩), u9, u10, u11, u12, u13, u14, u15, u16, u17, u18, u19, u20, u21, u22, .int .i64 r, u24, .int .i64 (S : Nat), .int .i64 (bitI bb), v27, u28, .slice XA Xn Xc, v30, u31, .bool (bitI bb == 1), v33, v34, v35, u36, u37, u38, u39, u40, u41, u42, u43, u44, u45, u46, u47, u48, u49, u50, u51, u52, u53], []⟩ w')) (w : World) (hB : Below wr.heap.size wr w) (gb : Nat) (hb : PB w gb bb) (A3 : Option Addr) (c3 : Nat) (hk : PK w wr A3 Xn c3 Xf) :
    wpAnyH Try.prog .any ops9 Q (S9 S B6 XA Xn Xc) 4 #[true, true, true, true, true, true, true, true, true, true, true, false, false, false, false] ⟨#[u0, u1, u2, u3, u4, u5, u6, u7, u8, u9, u10, u11, u12, u13, u14, u15, u16, u17, u18, u19, u20, u21, u22, .int .i64 r, u24, .int .i64 (S : Nat), .int .i64 (bitI bb), .int .i64 (nS r S bb : Nat), u28, .slice XA Xn Xc, .slice A3 Xn c3, u31, .bool (bitI bb == 1), .slice (some ⟨gb, 0, none⟩) 1 1, u34, u35, u36, u37, u38, u39, u40, u41, u42, u43, u44, u45, u46, u47, u48, u49, u50, u51, u52, u53], []⟩ w := by
  refine wpAnyH_all (rs := [11, 13]) (by kernel_rfl) (by simp) (fun i hi => ?_)
  rcases (by simpa using hi : i = 11 ∨ i = 13) with rfl | rfl
  · obtain ⟨A4, c4, w', hrun, hown, hgr, hat⟩ := run_app (P := Try.prog) w (ty := 22) (d := 1) EB hk (B := some ⟨gb, 0, none⟩) (m := 1) (l := 1) (by omega) hb (fun _ _ => rfl) (by have := C.hn; unfold maxLen; omega) (by have := C.hn; omega) hB.size
    have hB' := hB.grown hgr hB.size (fun g hg => (Own.lt hk g hg).1)
    have hpa : PA w' wr A4 Xn c4 Xf bb := hown.congr fun i hi => by
        by_cases e : i < Xn
        · rw [cat_lt e, if_pos e]
        · rw [cat_ge (by omega), if_neg e]
    refine wpOp_go op11 (v := .slice A4 (Xn + 1) c4) (w' := w') (fun o ho ht => run_app_op (v1 := .slice A3 Xn c3) (v2 := .slice (some ⟨gb, 0, none⟩) 1 1) (.tmp 30) (.tmp 33) 22 ho (by go_simp) (by go_simp) (by rw [ht]; exact hrun)) ⟨C.s9 hB', ?_⟩
    exact r9_4_7_10_11 C hQ _ hB' A4 c4 hpa
  · have hbw := (Below.refl w.heap.size w).alloc (Nat.le_refl _) (.cells #[.int .i64 0, .slice none 0 0] 45)
    have hB' := hB.alloc hB.size (.cells #[.int .i64 0, .slice none 0 0] 45)
    obtain ⟨_, op13'⟩ := op13
    refine wpOp_go op13' (v := .pointer (some ⟨w.heap.size, 0, none⟩)) (w' := w.alloc (.cells #[.int .i64 0, .slice none 0 0] 45)) (fun o ho ht => by unfold execOp; rw [ho]; go_simp) ⟨C.s9 hB', ?_⟩
    exact r9_4_7_10_13 C hQ _ hB' w.heap.size ⟨hB.size, heap_alloc_new w _⟩ gb (hb.below hbw) A3 c3 (hk.below hbw)
set_option maxRecDepth 100000 in
theorem r9_4_7_13 (C : R9 r S B6 XA Xn Xc Xf wr) {u0 u1 u2 u3 u4 u5 u6 u7 u9 u10 u11 u12 u13 u14 u15 u16 u17 u18 u19 u20 u21 u22 u24 u28 u31 u33 u34 u35 u36 u37 u38 u39 u40 u41 u42 u43 u44 u45 u46 u47 u48 u49 u50 u51 u52 u53 : Value} (hQ : (∀ (w' : World) (x8 : Nat) (A4 : Option Addr) (c4 : Nat) (v27 v30 v33 v34 v35 : Value), wr.heap.size ≤ x8 → w'.cell? ⟨x8, 0, none⟩ = some (.int .i64 (nS r S bb : Nat)) → w'.cell? ⟨x8, 1, none⟩ = some (.slice A4 (Xn + 1) c4) → w'.heap[x8]? = some (.cells #[.int .i64 (nS r S bb : Nat), .slice A4 (Xn + 1) c4] 45 (0, 0)) → PA w' wr A4 Xn c4 Xf bb → Below wr.heap.size wr w' → Q .normal ⟨#[u0, u1, u2, u3, u4, u5, u6, u7, .pointer (some ⟨x8, 0, none⟩), u9, u10, u11, u12, u13, u14, u15, u16, u17, u18, u19, u20, u21, u22, .int .i64 r, u24, .int .i64 (S : Nat), .int .i64 (bitI bb), v27, u28, .slice XA Xn Xc, v30, u31, .bool (bitI bb == 1), v33, v34, v35, u36, u37, u38, u39, u40, u41, u42, u43, u44, u45, u46, u47, u48, u49, u50, u51, u52, u53], []⟩ w')) (w : World) (hB : Below wr.heap.size wr w) (x8 : Nat) (hX : PX w wr x8) (A3 : Option Addr) (c3 : Nat) (hk : PK w wr A3 Xn c3 Xf) :
    wpAnyH Try.prog .any ops9 Q (S9 S B6 XA Xn Xc) 4 #[true, true, true, true, true, true, true, true, true, true, false, false, false, true, false] ⟨#[u0, u1, u2, u3, u4, u5, u6, u7, .pointer (some ⟨x8, 0, none⟩), u9, u10, u11, u12, u13, u14, u15, u16, u17, u18, u19, u20, u21, u22, .int .i64 r, u24, .int .i64 (S : Nat), .int .i64 (bitI bb), .int .i64 (nS r S bb : Nat), u28, .slice XA Xn Xc, .slice A3 Xn c3, u31, .bool (bitI bb == 1), u33, u34, u35, u36, u37, u38, u39, u40, u41, u42, u43, u44, u45, u46, u47, u48, u49, u50, u51, u52, u53], []⟩ w := by
  refine wpAnyH_all (rs := [10]) (by kernel_rfl) (by simp) (fun i hi => ?_)
  obtain rfl : i = 10 := by simpa using hi
  have hbw := (Below.refl w.heap.size w).alloc (Nat.le_refl _) (.cells #[.bool (bitI bb == 1)] 4)
  have hB' := hB.alloc hB.size (.cells #[.bool (bitI bb == 1)] 4)
  refine wpOp_go op10 (v := .slice (some ⟨w.heap.size, 0, none⟩) 1 1) (w' := w.alloc (.cells #[.bool (bitI bb == 1)] 4)) (fun o ho ht => by unfold execOp; rw [ho]; go_simp) ⟨C.s9 hB', ?_⟩
  exact r9_4_7_10_13 C hQ _ hB' x8 (hX.below hbw) w.heap.size ((Rd.one w _ 4).congr fun _ _ => by cases bb <;> rfl) A3 c3 (hk.below hbw)
set_option maxRecDepth 100000 in
theorem r9_4_7 (C : R9 r S B6 XA Xn Xc Xf wr) {u0 u1 u2 u3 u4 u5 u6 u7 u8 u9 u10 u11 u12 u13 u14 u15 u16 u17 u18 u19 u20 u21 u22 u24 u28 u31 u33 u34 u35 u36 u37 u38 u39 u40 u41 u42 u43 u44 u45 u46 u47 u48 u49 u50 u51 u52 u53 : Value} (hQ : (∀ (w' : World) (x8 : Nat) (A4 : Option Addr) (c4 : Nat) (v27 v30 v33 v34 v35 : Value), wr.heap.size ≤ x8 → w'.cell? ⟨x8, 0, none⟩ = some (.int .i64 (nS r S bb : Nat)) → w'.cell? ⟨x8, 1, none⟩ = some (.slice A4 (Xn + 1) c4) → w'.heap[x8]? = some (.cells #[.int .i64 (nS r S bb : Nat), .slice A4 (Xn + 1) c4] 45 (0, 0)) → PA w' wr A4 Xn c4 Xf bb → Below wr.heap.size wr w' → Q .normal ⟨#[u0, u1, u2, u3, u4, u5, u6, u7, .pointer (some ⟨x8, 0, none⟩), u9, u10, u11, u12, u13, u14, u15, u16, u17, u18, u19, u20, u21, u22, .int .i64 r, u24, .int .i64 (S : Nat), .int .i64 (bitI bb), v27, u28, .slice XA Xn Xc, v30, u31, .bool (bitI bb == 1), v33, v34, v35, u36, u37, u38, u39, u40, u41, u42, u43, u44, u45, u46, u47, u48, u49, u50, u51, u52, u53], []⟩ w')) (w : World) (hB : Below wr.heap.size wr w) (A3 : Option Addr) (c3 : Nat) (hk : PK w wr A3 Xn c3 Xf) :
    wpAnyH Try.prog .any ops9 Q (S9 S B6 XA Xn Xc) 5 #[true, true, true, true, true, true, true, true, true, true, false, false, false, false, false] ⟨#[u0, u1, u2, u3, u4, u5, u6, u7, u8, u9, u10, u11, u12, u13, u14, u15, u16, u17, u18, u19, u20, u21, u22, .int .i64 r, u24, .int .i64 (S : Nat), .int .i64 (bitI bb), .int .i64 (nS r S bb : Nat), u28, .slice XA Xn Xc, .slice A3 Xn c3, u31, .bool (bitI bb == 1), u33, u34, u35, u36, u37, u38, u39, u40, u41, u42, u43, u44, u45, u46, u47, u48, u49, u50, u51, u52, u53], []⟩ w := by
  refine wpAnyH_all (rs := [10, 13]) (by kernel_rfl) (by simp) (fun i hi => ?_)
  rcases (by simpa using hi : i = 10 ∨ i = 13) with rfl | rfl
  · have hbw := (Below.refl w.heap.size w).alloc (Nat.le_refl _) (.cells #[.bool (bitI bb == 1)] 4)
    have hB' := hB.alloc hB.size (.cells #[.bool (bitI bb == 1)] 4)
    refine wpOp_go op10 (v := .slice (some ⟨w.heap.size, 0, none⟩) 1 1) (w' := w.alloc (.cells #[.bool (bitI bb == 1)] 4)) (fun o ho ht => by unfold execOp; rw [ho]; go_simp) ⟨C.s9 hB', ?_⟩
    exact r9_4_7_10 C hQ _ hB' w.heap.size ((Rd.one w _ 4).congr fun _ _ => by cases bb <;> rfl) A3 c3 (hk.below hbw)
  · have hbw := (Below.refl w.heap.size w).alloc (Nat.le_refl _) (.cells #[.int .i64 0, .slice none 0 0] 45)
    have hB' := hB.alloc hB.size (.cells #[.int .i64 0, .slice none 0 0] 45)
    obtain ⟨_, op13'⟩ := op13
    refine wpOp_go op13' (v := .pointer (some ⟨w.heap.size, 0, none⟩)) (w' := w.alloc (.cells #[.int .i64 0, .slice none 0 0] 45)) (fun o ho ht => by unfold execOp; rw [ho]; go_simp) ⟨C.s9 hB', ?_⟩
    exact r9_4_7_13 C hQ _ hB' w.heap.size ⟨hB.size, heap_alloc_new w _⟩ A3 c3 (hk.below hbw)
set_option maxRecDepth 100000 in
theorem r9_4_10_13 (C : R9 r S B6 XA Xn Xc Xf wr) {u0 u1 u2 u3 u4 u5 u6 u7 u9 u10 u11 u12 u13 u14 u15 u16 u17 u18 u19 u20 u21 u22 u24 u28 u30 u31 u34 u35 u36 u37 u38 u39 u40 u41 u42 u43 u44 u45 u46 u47 u48 u49 u50 u51 u52 u53 : Value} (hQ : (∀ (w' : World) (x8 : Nat) (A4 : Option Addr) (c4 : Nat) (v27 v30 v33 v34 v35 : Value), wr.heap.size ≤ x8 → w'.cell? ⟨x8, 0, none⟩ = some (.int .i64 (nS r S bb : Nat)) → w'.cell? ⟨x8, 1, none⟩ = some (.slice A4 (Xn + 1) c4) → w'.heap[x8]? = some (.cells #[.int .i64 (nS r S bb : Nat), .slice A4 (Xn + 1) c4] 45 (0, 0)) → PA w' wr A4 Xn c4 Xf bb → Below wr.heap.size wr w' → Q .normal ⟨#[u0, u1, u2, u3, u4, u5, u6, u7, .pointer (some ⟨x8, 0, none⟩), u9, u10, u11, u12, u13, u14, u15, u16, u17, u18, u19, u20, u21, u22, .int .i64 r, u24, .int .i64 (S : Nat), .int .i64 (bitI bb), v27, u28, .slice XA Xn Xc, v30, u31, .bool (bitI bb == 1), v33, v34, v35, u36, u37, u38, u39, u40, u41, u42, u43, u44, u45, u46, u47, u48, u49, u50, u51, u52, u53], []⟩ w')) (w : World) (hB : Below wr.heap.size wr w) (x8 : Nat) (hX : PX w wr x8) (gb : Nat) (hb : PB w gb bb) :
    wpAnyH Try.prog .any ops9 Q (S9 S B6 XA Xn Xc) 4 #[true, true, true, true, true, true, true, false, true, true, true, false, false, true, false] ⟨#[u0, u1, u2, u3, u4, u5, u6, u7, .pointer (some ⟨x8, 0, none⟩), u9, u10, u11, u12, u13, u14, u15, u16, u17, u18, u19, u20, u21, u22, .int .i64 r, u24, .int .i64 (S : Nat), .int .i64 (bitI bb), .int .i64 (nS r S bb : Nat), u28, .slice XA Xn Xc, u30, u31, .bool (bitI bb == 1), .slice (some ⟨gb, 0, none⟩) 1 1, u34, u35, u36, u37, u38, u39, u40, u41, u42, u43, u44, u45, u46, u47, u48, u49, u50, u51, u52, u53], []⟩ w := by
  refine wpAnyH_all (rs := [7]) (by kernel_rfl) (by simp) (fun i hi => ?_)
  obtain rfl : i = 7 := by simpa using hi
  refine wpOp_call op7 (f := 19) (args := #[.slice XA Xn Xc]) (fun o ho ht => by unfold execOp; rw [ho]; go_simp) (cloneB_any XA Xn Xc Xf w (C.hx.below hB) (by have := C.hn; omega)) ?_
  rintro e w' ⟨A3, c3, rfl, hown, hbw⟩
  have hB' := hB.trans (hbw.mono hB.size)
  exact ⟨_, rfl, C.s9 hB', r9_4_7_10_13 C hQ _ hB' x8 (hX.below hbw) gb (hb.below hbw) A3 c3 (hown.base_le hB.size)⟩
set_option maxRecDepth 100000 in
theorem r9_4_10 (C : R9 r S B6 XA Xn Xc Xf wr) {u0 u1 u2 u3 u4 u5 u6 u7 u8 u9 u10 u11 u12 u13 u14 u15 u16 u17 u18 u19 u20 u21 u22 u24 u28 u30 u31 u34 u35 u36 u37 u38 u39 u40 u41 u42 u43 u44 u45 u46 u47 u48 u49 u50 u51 u52 u53 : Value} (hQ : (∀ (w' : World) (x8 : Nat) (A4 : Option Addr) (c4 : Nat) (v27 v30 v33 v34 v35 : Value), wr.heap.size ≤ x8 → w'.cell? ⟨x8, 0, none⟩ = some (.int .i64 (nS r S bb : Nat)) → w'.cell? ⟨x8, 1, none⟩ = some (.slice A4 (Xn + 1) c4) → w'.heap[x8]? = some (.cells #[.int .i64 (nS r S bb : Nat), .slice A4 (Xn + 1) c4] 45 (0, 0)) → PA w' wr A4 Xn c4 Xf bb → Below wr.heap.size wr w' → Q .normal ⟨#[u0, u1, u2, u3, u4, u5, u6, u7, .pointer (some ⟨x8, 0, none⟩), u9, u10, u11, u12, u13, u14, u15, u16, u17, u18, u19, u20, u21, u22, .int .i64 r, u24, .int .i64 (S : Nat), .int .i64 (bitI bb), v27, u28, .slice XA Xn Xc, v30, u31, .bool (bitI bb == 1), v33, v34, v35, u36, u37, u38, u39, u40, u41, u42, u43, u44, u45, u46, u47, u48, u49, u50, u51, u52, u53], []⟩ w')) (w : World) (hB : Below wr.heap.size wr w) (gb : Nat) (hb : PB w gb bb) :
    wpAnyH Try.prog .any ops9 Q (S9 S B6 XA Xn Xc) 5 #[true, true, true, true, true, true, true, false, true, true, true, false, false, false, false] ⟨#[u0, u1, u2, u3, u4, u5, u6, u7, u8, u9, u10, u11, u12, u13, u14, u15, u16, u17, u18, u19, u20, u21, u22, .int .i64 r, u24, .int .i64 (S : Nat), .int .i64 (bitI bb), .int .i64 (nS r S bb : Nat), u28, .slice XA Xn Xc, u30, u31, .bool (bitI bb == 1), .slice (some ⟨gb, 0, none⟩) 1 1, u34, u35, u36, u37, u38, u39, u40, u41, u42, u43, u44, u45, u46, u47, u48, u49, u50, u51, u52, u53], []⟩ w := by
  refine wpAnyH_all (rs := [7, 13]) (by kernel_rfl) (by simp) (fun i hi => ?_)
  rcases (by simpa using hi : i = 7 ∨ i = 13) with rfl | rfl
  · refine wpOp_call op7 (f := 19) (args := #[.slice XA Xn Xc]) (fun o ho ht => by unfold execOp; rw [ho]; go_simp) (cloneB_any XA Xn Xc Xf w (C.hx.below hB) (by have := C.hn; omega)) ?_
    rintro e w' ⟨A3, c3, rfl, hown, hbw⟩
    have hB' := hB.trans (hbw.mono hB.size)
    exact ⟨_, rfl, C.s9 hB', r9_4_7_10 C hQ _ hB' gb (hb.below hbw) A3 c3 (hown.base_le hB.size)⟩
  · have hbw := (Below.refl w.heap.size w).alloc (Nat.le_refl _) (.cells #[.int .i64 0, .slice none 0 0] 45)
    have hB' := hB.alloc hB.size (.cells #[.int .i64 0, .slice none 0 0] 45)
    obtain ⟨_, op13'⟩ := op13
    refine wpOp_go op13' (v := .pointer (some ⟨w.heap.size, 0, none⟩)) (w' := w.alloc (.cells #[.int .i64 0, .slice none 0 0] 45)) (fun o ho ht => by unfold execOp; rw [ho]; go_simp) ⟨C.s9 hB', ?_⟩
    exact r9_4_10_13 C hQ _ hB' w.heap.size ⟨hB.size, heap_alloc_new w _⟩ gb (hb.below hbw)
set_option maxRecDepth 100000 in
theorem r9_4_13 (C : R9 r S B6 XA Xn Xc Xf wr) {u0 u1 u2 u3 u4 u5 u6 u7 u9 u10 u11 u12 u13 u14 u15 u16 u17 u18 u19 u20 u21 u22 u24 u28 u30 u31 u33 u34 u35 u36 u37 u38 u39 u40 u41 u42 u43 u44 u45 u46 u47 u48 u49 u50 u51 u52 u53 : Value} (hQ : (∀ (w' : World) (x8 : Nat) (A4 : Option Addr) (c4 : Nat) (v27 v30 v33 v34 v35 : Value), wr.heap.size ≤ x8 → w'.cell? ⟨x8, 0, none⟩ = some (.int .i64 (nS r S bb : Nat)) → w'.cell? ⟨x8, 1, none⟩ = some (.slice A4 (Xn + 1) c4) → w'.heap[x8]? = some (.cells #[.int .i64 (nS r S bb : Nat), .slice A4 (Xn + 1) c4] 45 (0, 0)) → PA w' wr A4 Xn c4 Xf bb → Below wr.heap.size wr w' → Q .normal ⟨#[u0, u1, u2, u3, u4, u5, u6, u7, .pointer (some ⟨x8, 0, none⟩), u9, u10, u11, u12, u13, u14, u15, u16, u17, u18, u19, u20, u21, u22, .int .i64 r, u24, .int .i64 (S : Nat), .int .i64 (bitI bb), v27, u28, .slice XA Xn Xc, v30, u31, .bool (bitI bb == 1), v33, v34, v35, u36, u37, u38, u39, u40, u41, u42, u43, u44, u45, u46, u47, u48, u49, u50, u51, u52, u53], []⟩ w')) (w : World) (hB : Below wr.heap.size wr w) (x8 : Nat) (hX : PX w wr x8) :
    wpAnyH Try.prog .any ops9 Q (S9 S B6 XA Xn Xc) 5 #[true, true, true, true, true, true, true, false, true, true, false, false, false, true, false] ⟨#[u0, u1, u2, u3, u4, u5, u6, u7, .pointer (some ⟨x8, 0, none⟩), u9, u10, u11, u12, u13, u14, u15, u16, u17, u18, u19, u20, u21, u22, .int .i64 r, u24, .int .i64 (S : Nat), .int .i64 (bitI bb), .int .i64 (nS r S bb : Nat), u28, .slice XA Xn Xc, u30, u31, .bool (bitI bb == 1), u33, u34, u35, u36, u37, u38, u39, u40, u41, u42, u43, u44, u45, u46, u47, u48, u49, u50, u51, u52, u53], []⟩ w := by
  refine wpAnyH_all (rs := [7, 10]) (by kernel_rfl) (by simp) (fun i hi => ?_)
  rcases (by simpa using hi : i = 7 ∨ i = 10) with rfl | rfl
  · refine wpOp_call op7 (f := 19) (args := #[.slice XA Xn Xc]) (fun o ho ht => by unfold execOp; rw [ho]; go_simp) (cloneB_any XA Xn Xc Xf w (C.hx.below hB) (by have := C.hn; omega)) ?_
    rintro e w' ⟨A3, c3, rfl, hown, hbw⟩
    have hB' := hB.trans (hbw.mono hB.size)
    exact ⟨_, rfl, C.s9 hB', r9_4_7_13 C hQ _ hB' x8 (hX.below hbw) A3 c3 (hown.base_le hB.size)⟩
  · have hbw := (Below.refl w.heap.size w).alloc (Nat.le_refl _) (.cells #[.bool (bitI bb == 1)] 4)
    have hB' := hB.alloc hB.size (.cells #[.bool (bitI bb == 1)] 4)
    refine wpOp_go op10 (v := .slice (some ⟨w.heap.size, 0, none⟩) 1 1) (w' := w.alloc (.cells #[.bool (bitI bb == 1)] 4)) (fun o ho ht => by unfold execOp; rw [ho]; go_simp) ⟨C.s9 hB', ?_⟩
    exact r9_4_10_13 C hQ _ hB' x8 (hX.below hbw) w.heap.size ((Rd.one w _ 4).congr fun _ _ => by cases bb <;> rfl)
set_option maxRecDepth 100000 in
theorem r9_4 (C : R9 r S B6 XA Xn Xc Xf wr) {u0 u1 u2 u3 u4 u5 u6 u7 u8 u9 u10 u11 u12 u13 u14 u15 u16 u17 u18 u19 u20 u21 u22 u24 u28 u30 u31 u33 u34 u35 u36 u37 u38 u39 u40 u41 u42 u43 u44 u45 u46 u47 u48 u49 u50 u51 u52 u53 : Value} (hQ : (∀ (w' : World) (x8 : Nat) (A4 : Option Addr) (c4 : Nat) (v27 v30 v33 v34 v35 : Value), wr.heap.size ≤ x8 → w'.cell? ⟨x8, 0, none⟩ = some (.int .i64 (nS r S bb : Nat)) → w'.cell? ⟨x8, 1, none⟩ = some (.slice A4 (Xn + 1) c4) → w'.heap[x8]? = some (.cells #[.int .i64 (nS r S bb : Nat), .slice A4 (Xn + 1) c4] 45 (0, 0)) → PA w' wr A4 Xn c4 Xf bb → Below wr.heap.size wr w' → Q .normal ⟨#[u0, u1, u2, u3, u4, u5, u6, u7, .pointer (some ⟨x8, 0, none⟩), u9, u10, u11, u12, u13, u14, u15, u16, u17, u18, u19, u20, u21, u22, .int .i64 r, u24, .int .i64 (S : Nat), .int .i64 (bitI bb), v27, u28, .slice XA Xn Xc, v30, u31, .bool (bitI bb == 1), v33, v34, v35, u36, u37, u38, u39, u40, u41, u42, u43, u44, u45, u46, u47, u48, u49, u50, u51, u52, u53], []⟩ w')) (w : World) (hB : Below wr.heap.size wr w)  :
    wpAnyH Try.prog .any ops9 Q (S9 S B6 XA Xn Xc) 6 #[true, true, true, true, true, true, true, false, true, true, false, false, false, false, false] ⟨#[u0, u1, u2, u3, u4, u5, u6, u7, u8, u9, u10, u11, u12, u13, u14, u15, u16, u17, u18, u19, u20, u21, u22, .int .i64 r, u24, .int .i64 (S : Nat), .int .i64 (bitI bb), .int .i64 (nS r S bb : Nat), u28, .slice XA Xn Xc, u30, u31, .bool (bitI bb == 1), u33, u34, u35, u36, u37, u38, u39, u40, u41, u42, u43, u44, u45, u46, u47, u48, u49, u50, u51, u52, u53], []⟩ w := by
  refine wpAnyH_all (rs := [7, 10, 13]) (by kernel_rfl) (by simp) (fun i hi => ?_)
  rcases (by simpa using hi : i = 7 ∨ i = 10 ∨ i = 13) with rfl | rfl | rfl
  · refine wpOp_call op7 (f := 19) (args := #[.slice XA Xn Xc]) (fun o ho ht => by unfold execOp; rw [ho]; go_simp) (cloneB_any XA Xn Xc Xf w (C.hx.below hB) (by have := C.hn; omega)) ?_
    rintro e w' ⟨A3, c3, rfl, hown, hbw⟩
    have hB' := hB.trans (hbw.mono hB.size)
    exact ⟨_, rfl, C.s9 hB', r9_4_7 C hQ _ hB' A3 c3 (hown.base_le hB.size)⟩
  · have hbw := (Below.refl w.heap.size w).alloc (Nat.le_refl _) (.cells #[.bool (bitI bb == 1)] 4)
    have hB' := hB.alloc hB.size (.cells #[.bool (bitI bb == 1)] 4)
    refine wpOp_go op10 (v := .slice (some ⟨w.heap.size, 0, none⟩) 1 1) (w' := w.alloc (.cells #[.bool (bitI bb == 1)] 4)) (fun o ho ht => by unfold execOp; rw [ho]; go_simp) ⟨C.s9 hB', ?_⟩
    exact r9_4_10 C hQ _ hB' w.heap.size ((Rd.one w _ 4).congr fun _ _ => by cases bb <;> rfl)
  · have hbw := (Below.refl w.heap.size w).alloc (Nat.le_refl _) (.cells #[.int .i64 0, .slice none 0 0] 45)
    have hB' := hB.alloc hB.size (.cells #[.int .i64 0, .slice none 0 0] 45)
    obtain ⟨_, op13'⟩ := op13
    refine wpOp_go op13' (v := .pointer (some ⟨w.heap.size, 0, none⟩)) (w' := w.alloc (.cells #[.int .i64 0, .slice none 0 0] 45)) (fun o ho ht => by unfold execOp; rw [ho]; go_simp) ⟨C.s9 hB', ?_⟩
    exact r9_4_13 C hQ _ hB' w.heap.size ⟨hB.size, heap_alloc_new w _⟩
set_option maxRecDepth 100000 in
theorem r9_10_13 (C : R9 r S B6 XA Xn Xc Xf wr) {u0 u1 u2 u3 u4 u5 u6 u7 u9 u10 u11 u12 u13 u14 u15 u16 u17 u18 u19 u20 u21 u22 u24 u27 u28 u30 u31 u34 u35 u36 u37 u38 u39 u40 u41 u42 u43 u44 u45 u46 u47 u48 u49 u50 u51 u52 u53 : Value} (hQ : (∀ (w' : World) (x8 : Nat) (A4 : Option Addr) (c4 : Nat) (v27 v30 v33 v34 v35 : Value), wr.heap.size ≤ x8 → w'.cell? ⟨x8, 0, none⟩ = some (.int .i64 (nS r S bb : Nat)) → w'.cell? ⟨x8, 1, none⟩ = some (.slice A4 (Xn + 1) c4) → w'.heap[x8]? = some (.cells #[.int .i64 (nS r S bb : Nat), .slice A4 (Xn + 1) c4] 45 (0, 0)) → PA w' wr A4 Xn c4 Xf bb → Below wr.heap.size wr w' → Q .normal ⟨#[u0, u1, u2, u3, u4, u5, u6, u7, .pointer (some ⟨x8, 0, none⟩), u9, u10, u11, u12, u13, u14, u15, u16, u17, u18, u19, u20, u21, u22, .int .i64 r, u24, .int .i64 (S : Nat), .int .i64 (bitI bb), v27, u28, .slice XA Xn Xc, v30, u31, .bool (bitI bb == 1), v33, v34, v35, u36, u37, u38, u39, u40, u41, u42, u43, u44, u45, u46, u47, u48, u49, u50, u51, u52, u53], []⟩ w')) (w : World) (hB : Below wr.heap.size wr w) (x8 : Nat) (hX : PX w wr x8) (gb : Nat) (hb : PB w gb bb) :
    wpAnyH Try.prog .any ops9 Q (S9 S B6 XA Xn Xc) 5 #[true, true, true, true, false, true, true, false, true, true, true, false, false, true, false] ⟨#[u0, u1, u2, u3, u4, u5, u6, u7, .pointer (some ⟨x8, 0, none⟩), u9, u10, u11, u12, u13, u14, u15, u16, u17, u18, u19, u20, u21, u22, .int .i64 r, u24, .int .i64 (S : Nat), .int .i64 (bitI bb), u27, u28, .slice XA Xn Xc, u30, u31, .bool (bitI bb == 1), .slice (some ⟨gb, 0, none⟩) 1 1, u34, u35, u36, u37, u38, u39, u40, u41, u42, u43, u44, u45, u46, u47, u48, u49, u50, u51, u52, u53], []⟩ w := by
  refine wpAnyH_all (rs := [4]) (by kernel_rfl) (by simp) (fun i hi => ?_)
  obtain rfl : i = 4 := by simpa using hi
  refine wpOp_call op4 (f := 18) (args := #[.int .i64 r, .int .i64 (S : Nat), .int .i64 (bitI bb)]) (fun o ho ht => by unfold execOp; rw [ho]; go_simp) (set_any r S bb w C.r0 C.r1 C.hs) ?_
  rintro e w' ⟨rfl, rfl⟩
  exact ⟨_, rfl, C.s9 hB, r9_4_10_13 C hQ _ hB x8 (hX.below (Below.refl _ _)) gb (hb.below (Below.refl _ _))⟩
set_option maxRecDepth 100000 in
theorem r9_10 (C : R9 r S B6 XA Xn Xc Xf wr) {u0 u1 u2 u3 u4 u5 u6 u7 u8 u9 u10 u11 u12 u13 u14 u15 u16 u17 u18 u19 u20 u21 u22 u24 u27 u28 u30 u31 u34 u35 u36 u37 u38 u39 u40 u41 u42 u43 u44 u45 u46 u47 u48 u49 u50 u51 u52 u53 : Value} (hQ : (∀ (w' : World) (x8 : Nat) (A4 : Option Addr) (c4 : Nat) (v27 v30 v33 v34 v35 : Value), wr.heap.size ≤ x8 → w'.cell? ⟨x8, 0, none⟩ = some (.int .i64 (nS r S bb : Nat)) → w'.cell? ⟨x8, 1, none⟩ = some (.slice A4 (Xn + 1) c4) → w'.heap[x8]? = some (.cells #[.int .i64 (nS r S bb : Nat), .slice A4 (Xn + 1) c4] 45 (0, 0)) → PA w' wr A4 Xn c4 Xf bb → Below wr.heap.size wr w' → Q .normal ⟨#[u0, u1, u2, u3, u4, u5, u6, u7, .pointer (some ⟨x8, 0, none⟩), u9, u10, u11, u12, u13, u14, u15, u16, u17, u18, u19, u20, u21, u22, .int .i64 r, u24, .int .i64 (S : Nat), .int .i64 (bitI bb), v27, u28, .slice XA Xn Xc, v30, u31, .bool (bitI bb == 1), v33, v34, v35, u36, u37, u38, u39, u40, u41, u42, u43, u44, u45, u46, u47, u48, u49, u50, u51, u52, u53], []⟩ w')) (w : World) (hB : Below wr.heap.size wr w) (gb : Nat) (hb : PB w gb bb) :
    wpAnyH Try.prog .any ops9 Q (S9 S B6 XA Xn Xc) 6 #[true, true, true, true, false, true, true, false, true, true, true, false, false, false, false] ⟨#[u0, u1, u2, u3, u4, u5, u6, u7, u8, u9, u10, u11, u12, u13, u14, u15, u16, u17, u18, u19, u20, u21, u22, .int .i64 r, u24, .int .i64 (S : Nat), .int .i64 (bitI bb), u27, u28, .slice XA Xn Xc, u30, u31, .bool (bitI bb == 1), .slice (some ⟨gb, 0, none⟩) 1 1, u34, u35, u36, u37, u38, u39, u40, u41, u42, u43, u44, u45, u46, u47, u48, u49, u50, u51, u52, u53], []⟩ w := by
  refine wpAnyH_all (rs := [4, 13]) (by kernel_rfl) (by simp) (fun i hi => ?_)
  rcases (by simpa using hi : i = 4 ∨ i = 13) with rfl | rfl
  · refine wpOp_call op4 (f := 18) (args := #[.int .i64 r, .int .i64 (S : Nat), .int .i64 (bitI bb)]) (fun o ho ht => by unfold execOp; rw [ho]; go_simp) (set_any r S bb w C.r0 C.r1 C.hs) ?_
    rintro e w' ⟨rfl, rfl⟩
    exact ⟨_, rfl, C.s9 hB, r9_4_10 C hQ _ hB gb (hb.below (Below.refl _ _))⟩
  · have hbw := (Below.refl w.heap.size w).alloc (Nat.le_refl _) (.cells #[.int .i64 0, .slice none 0 0] 45)
    have hB' := hB.alloc hB.size (.cells #[.int .i64 0, .slice none 0 0] 45)
    obtain ⟨_, op13'⟩ := op13
    refine wpOp_go op13' (v := .pointer (some ⟨w.heap.size, 0, none⟩)) (w' := w.alloc (.cells #[.int .i64 0, .slice none 0 0] 45)) (fun o ho ht => by unfold execOp; rw [ho]; go_simp) ⟨C.s9 hB', ?_⟩
    exact r9_10_13 C hQ _ hB' w.heap.size ⟨hB.size, heap_alloc_new w _⟩ gb (hb.below hbw)
set_option maxRecDepth 100000 in
theorem r9_13 (C : R9 r S B6 XA Xn Xc Xf wr) {u0 u1 u2 u3 u4 u5 u6 u7 u9 u10 u11 u12 u13 u14 u15 u16 u17 u18 u19 u20 u21 u22 u24 u27 u28 u30 u31 u33 u34 u35 u36 u37 u38 u39 u40 u41 u42 u43 u44 u45 u46 u47 u48 u49 u50 u51 u52 u53 : Value} (hQ : (∀ (w' : World) (x8 : Nat) (A4 : Option Addr) (c4 : Nat) (v27 v30 v33 v34 v35 : Value), wr.heap.size ≤ x8 → w'.cell? ⟨x8, 0, none⟩ = some (.int .i64 (nS r S bb : Nat)) → w'.cell? ⟨x8, 1, none⟩ = some (.slice A4 (Xn + 1) c4) → w'.heap[x8]? = some (.cells #[.int .i64 (nS r S bb : Nat), .slice A4 (Xn + 1) c4] 45 (0, 0)) → PA w' wr A4 Xn c4 Xf bb → Below wr.heap.size wr w' → Q .normal ⟨#[u0, u1, u2, u3, u4, u5, u6, u7, .pointer (some ⟨x8, 0, none⟩), u9, u10, u11, u12, u13, u14, u15, u16, u17, u18, u19, u20, u21, u22, .int .i64 r, u24, .int .i64 (S : Nat), .int .i64 (bitI bb), v27, u28, .slice XA Xn Xc, v30, u31, .bool (bitI bb == 1), v33, v34, v35, u36, u37, u38, u39, u40, u41, u42, u43, u44, u45, u46, u47, u48, u49, u50, u51, u52, u53], []⟩ w')) (w : World) (hB : Below wr.heap.size wr w) (x8 : Nat) (hX : PX w wr x8) :
    wpAnyH Try.prog .any ops9 Q (S9 S B6 XA Xn Xc) 6 #[true, true, true, true, false, true, true, false, true, true, false, false, false, true, false] ⟨#[u0, u1, u2, u3, u4, u5, u6, u7, .pointer (some ⟨x8, 0, none⟩), u9, u10, u11, u12, u13, u14, u15, u16, u17, u18, u19, u20, u21, u22, .int .i64 r, u24, .int .i64 (S : Nat), .int .i64 (bitI bb), u27, u28, .slice XA Xn Xc, u30, u31, .bool (bitI bb == 1), u33, u34, u35, u36, u37, u38, u39, u40, u41, u42, u43, u44, u45, u46, u47, u48, u49, u50, u51, u52, u53], []⟩ w := by
  refine wpAnyH_all (rs := [4, 10]) (by kernel_rfl) (by simp) (fun i hi => ?_)
  rcases (by simpa using hi : i = 4 ∨ i = 10) with rfl | rfl
  · refine wpOp_call op4 (f := 18) (args := #[.int .i64 r, .int .i64 (S : Nat), .int .i64 (bitI bb)]) (fun o ho ht => by unfold execOp; rw [ho]; go_simp) (set_any r S bb w C.r0 C.r1 C.hs) ?_
    rintro e w' ⟨rfl, rfl⟩
    exact ⟨_, rfl, C.s9 hB, r9_4_13 C hQ _ hB x8 (hX.below (Below.refl _ _))⟩
  · have hbw := (Below.refl w.heap.size w).alloc (Nat.le_refl _) (.cells #[.bool (bitI bb == 1)] 4)
    have hB' := hB.alloc hB.size (.cells #[.bool (bitI bb == 1)] 4)
    refine wpOp_go op10 (v := .slice (some ⟨w.heap.size, 0, none⟩) 1 1) (w' := w.alloc (.cells #[.bool (bitI bb == 1)] 4)) (fun o ho ht => by unfold execOp; rw [ho]; go_simp) ⟨C.s9 hB', ?_⟩
    exact r9_10_13 C hQ _ hB' x8 (hX.below hbw) w.heap.size ((Rd.one w _ 4).congr fun _ _ => by cases bb <;> rfl)
set_option maxRecDepth 100000 in
theorem r9_0 (C : R9 r S B6 XA Xn Xc Xf wr) {u0 u1 u2 u3 u4 u5 u6 u7 u8 u9 u10 u11 u12 u13 u14 u15 u16 u17 u18 u19 u20 u21 u22 u24 u27 u28 u30 u31 u33 u34 u35 u36 u37 u38 u39 u40 u41 u42 u43 u44 u45 u46 u47 u48 u49 u50 u51 u52 u53 : Value} (hQ : (∀ (w' : World) (x8 : Nat) (A4 : Option Addr) (c4 : Nat) (v27 v30 v33 v34 v35 : Value), wr.heap.size ≤ x8 → w'.cell? ⟨x8, 0, none⟩ = some (.int .i64 (nS r S bb : Nat)) → w'.cell? ⟨x8, 1, none⟩ = some (.slice A4 (Xn + 1) c4) → w'.heap[x8]? = some (.cells #[.int .i64 (nS r S bb : Nat), .slice A4 (Xn + 1) c4] 45 (0, 0)) → PA w' wr A4 Xn c4 Xf bb → Below wr.heap.size wr w' → Q .normal ⟨#[u0, u1, u2, u3, u4, u5, u6, u7, .pointer (some ⟨x8, 0, none⟩), u9, u10, u11, u12, u13, u14, u15, u16, u17, u18, u19, u20, u21, u22, .int .i64 r, u24, .int .i64 (S : Nat), .int .i64 (bitI bb), v27, u28, .slice XA Xn Xc, v30, u31, .bool (bitI bb == 1), v33, v34, v35, u36, u37, u38, u39, u40, u41, u42, u43, u44, u45, u46, u47, u48, u49, u50, u51, u52, u53], []⟩ w')) (w : World) (hB : Below wr.heap.size wr w)  :
    wpAnyH Try.prog .any ops9 Q (S9 S B6 XA Xn Xc) 7 #[true, true, true, true, false, true, true, false, true, true, false, false, false, false, false] ⟨#[u0, u1, u2, u3, u4, u5, u6, u7, u8, u9, u10, u11, u12, u13, u14, u15, u16, u17, u18, u19, u20, u21, u22, .int .i64 r, u24, .int .i64 (S : Nat), .int .i64 (bitI bb), u27, u28, .slice XA Xn Xc, u30, u31, .bool (bitI bb == 1), u33, u34, u35, u36, u37, u38, u39, u40, u41, u42, u43, u44, u45, u46, u47, u48, u49, u50, u51, u52, u53], []⟩ w := by
  refine wpAnyH_all (rs := [4, 10, 13]) (by kernel_rfl) (by simp) (fun i hi => ?_)
  rcases (by simpa using hi : i = 4 ∨ i = 10 ∨ i = 13) with rfl | rfl | rfl
  · refine wpOp_call op4 (f := 18) (args := #[.int .i64 r, .int .i64 (S : Nat), .int .i64 (bitI bb)]) (fun o ho ht => by unfold execOp; rw [ho]; go_simp) (set_any r S bb w C.r0 C.r1 C.hs) ?_
    rintro e w' ⟨rfl, rfl⟩
    exact ⟨_, rfl, C.s9 hB, r9_4 C hQ _ hB ⟩
  · have hbw := (Below.refl w.heap.size w).alloc (Nat.le_refl _) (.cells #[.bool (bitI bb == 1)] 4)
    have hB' := hB.alloc hB.size (.cells #[.bool (bitI bb == 1)] 4)
    refine wpOp_go op10 (v := .slice (some ⟨w.heap.size, 0, none⟩) 1 1) (w' := w.alloc (.cells #[.bool (bitI bb == 1)] 4)) (fun o ho ht => by unfold execOp; rw [ho]; go_simp) ⟨C.s9 hB', ?_⟩
    exact r9_10 C hQ _ hB' w.heap.size ((Rd.one w _ 4).congr fun _ _ => by cases bb <;> rfl)
  · have hbw := (Below.refl w.heap.size w).alloc (Nat.le_refl _) (.cells #[.int .i64 0, .slice none 0 0] 45)
    have hB' := hB.alloc hB.size (.cells #[.int .i64 0, .slice none 0 0] 45)
    obtain ⟨_, op13'⟩ := op13
    refine wpOp_go op13' (v := .pointer (some ⟨w.heap.size, 0, none⟩)) (w' := w.alloc (.cells #[.int .i64 0, .slice none 0 0] 45)) (fun o ho ht => by unfold execOp; rw [ho]; go_simp) ⟨C.s9 hB', ?_⟩
    exact r9_13 C hQ _ hB' w.heap.size ⟨hB.size, heap_alloc_new w _⟩
end
end Go.Proofs.Ytnagdnbdpknniaa
