/- A map[[3]int]int of the call's own, keyed by three digits; a walk over it. No condition. -/
import Derived.Test.YtoodmoliglhpiaaLib
import Derived.Test.YtoodmoliglhpiaaPolyLaw
import Derived.Maps.Own
import Derived.Below
import Derived.Maps.OwnSet
import Derived.Maps.OwnOps
import Derived.Maps.Views
import Derived.Maps.RangeWalk
import Derived.DeepKeys4
import Derived.OwnWalk
namespace Go.Proofs.Ytoodmoliglhpiaa
open Go.ChangeShapes Go.WideShapes Go.ChangeAt Go.RowKit Go.Maps
set_option linter.unusedVariables false
theorem laidOutZ : laidOutB Try.prog = true := by kernel_rfl
theorem rowZ : (48 : TypeId) < Try.prog.types.size := of_decide_eq_true (by kernel_rfl)
theorem wideZ : (match Try.prog.underlying 48 with | some (.array _ _) | some (.struct _) => true | _ => false) = true := by rw [Try.underlying48]
theorem kZ : Keyed Try.prog 48 := Keyed.of_law (deep_law_laid laidOutZ (m := 2) (by omega) rowZ (by kernel_rfl) wideZ)
/-- digit i by 7 of e -/
def kd (e i : Nat) : Nat := e / 7 ^ i % 7
theorem kd_lt (e i : Nat) : kd e i < 7 := Nat.mod_lt _ (by omega)
theorem kd0 (e : Nat) : kd e 0 = e % 7 := by simp [kd]
theorem kd1 (e : Nat) : kd e 1 = e / 7 % 7 := by simp [kd]
theorem kd2 (e : Nat) : kd e 2 = e / 49 % 7 := by simp [kd]
theorem wf7 {x : Nat} (h : x < 7) : (Lit.int .i64 (x : Int)).wf = true := by simp [Lit.wf, IntKind.min, IntKind.max, IntKind.signed, IntKind.bits]; omega
def zk (e : Nat) : Lit := .string (keyBytes [.int .i64 (kd e 0 : Nat), .int .i64 (kd e 1 : Nat), .int .i64 (kd e 2 : Nat)])
def zv (e : Nat) : Value := .agg #[.int .i64 (kd e 0 : Nat), .int .i64 (kd e 1 : Nat), .int .i64 (kd e 2 : Nat)]
theorem zkey (e : Nat) : keyOf Try.prog 48 (zv e) = some (zk e) := by
  have h1 : Try.prog.keyType 48 = true := by kernel_rfl
  have h2 : Try.prog.cellsOf 48 = 3 := by kernel_rfl
  have h3 : Try.prog.cellsOf 3 = 1 := by kernel_rfl
  have ha := wf7 (kd_lt e 0)
  have hb := wf7 (kd_lt e 1)
  have hc := wf7 (kd_lt e 2)
  obtain ⟨m, hm⟩ : ∃ m, Try.prog.types.size + 1 = m + 2 := ⟨Try.prog.types.size - 1, by have h : (48 : Nat) < Try.prog.types.size := rowZ; omega⟩
  unfold keyOf zv zk
  rw [Try.underlying48, hm]
  have hr : List.range 3 = [0, 1, 2] := rfl
  simp [h1, Value.formed, Try.underlying48, h2, h3, Program.keyLits, Try.underlying3, Value.cells, ha, hb, hc, hr]
theorem zk_inj {e e' : Nat} (h : e < 343) (h' : e' < 343) (he : zk e = zk e') : e = e' := by
  have h1 := zkey e
  have h2 := zkey e'
  rw [← he] at h2
  have := kZ.inj h1 h2
  simp [zv, kd0, kd1, kd2] at this
  omega
theorem zv_inj {e e' : Nat} {v : Value} (h : e < 343) (h1 : keyOf Try.prog 48 v = some (zk e)) : v = zv e := kZ.inj h1 (zkey e)
/-- the map reads as C below N; it has no other keys -/
def MapZD (D : DataW Unit) (N : Nat) (C : Nat → Int) : Prop := (∀ e, e < 343 → D.atKey (zk e) (.lit (.int .i64 0)) = .lit (.int .i64 (C e))) ∧ ∀ kl, Maps.has D kl = true → ∃ e, e < N ∧ kl = zk e
def MapZ (w : World) (b m N : Nat) (C : Nat → Int) : Prop :=
  ∃ D : DataW Unit, w.ownsMap Try.prog 48 (plainElem Try.prog 3) b m D ∧ MapZD D N C
theorem MapZ.made (w : World) (N : Nat) : MapZ (w.alloc (.map #[] 0)) w.heap.size 0 N (fun _ => 0) := ⟨_, World.ownsMap_made _ _ _ _, fun _ _ => rfl, fun x h => by cases h⟩
theorem MapZ.kept {w w' : World} {b m N : Nat} {C : Nat → Int} {row : Option Nat} (h : MapZ w b m N C) (hg : w.grownBy w' row) (hne : some b ≠ row) : MapZ w' b m N C := by
  obtain ⟨D, h1, h2⟩ := h; exact ⟨D, h1.kept hg hne, h2⟩
theorem MapZ.below {w w' : World} {b m N : Nat} {C : Nat → Int} (h : MapZ w b m N C) (hb : Below w.heap.size w w') : MapZ w' b m N C :=
  h.kept (row := none) ⟨hb.os, hb.tape, hb.output, hb.size, fun i hi _ => hb.block i hi⟩ (by simp)
theorem MapZ.lt {w : World} {b m N : Nat} {C : Nat → Int} (h : MapZ w b m N C) : b < w.heap.size := by
  obtain ⟨D, h1, h2⟩ := h; exact h1.lt
theorem MapZ.obj {w : World} {b m N : Nat} {C : Nat → Int} (h : MapZ w b m N C) : ∃ es c, w.heap[b]? = some (.map es c) := by
  obtain ⟨D, ⟨es, c, h1, _⟩, _⟩ := h; exact ⟨es, c, h1⟩
theorem MapZ.look {w : World} {b m N : Nat} {C : Nat → Int} (h : MapZ w b m N C) {e : Nat} (he : e < 343) (w' : World) (hw : w'.heap = w.heap) :
    Sem.run Try.prog (Instr.lookup 47 (.map (some b)) (zv e) false) w' = .ok (.int .i64 (C e)) w' := by
  obtain ⟨D, hD, hr⟩ := h
  have hD' : w'.ownsMap Try.prog 48 (plainElem Try.prog 3) b m D := by
    obtain ⟨es, cl, h1, h2⟩ := hD
    exact ⟨es, cl, by rw [hw]; exact h1, h2⟩
  obtain ⟨c, h1, h2, h3⟩ := hD'.lookup_int kZ Try.underlying47 Try.underlying3 (by go_simp) (zkey e)
  rw [hr.1 e he] at h2
  cases h2
  exact h1
theorem MapZD.put {D : DataW Unit} {N : Nat} {C : Nat → Int} (h : MapZD D N C) (hm : IsMap D) (e : Nat) (he : e < N) (hN : N ≤ 343) (v : Int) : MapZD (D.put (zk e) (.lit (.int .i64 v))) N (fun e' => if e' = e then v else C e') := by
  constructor
  · intro x hx
    show _ = DataW.lit (.int .i64 (if x = e then v else C x))
    by_cases h1 : x = e
    · subst h1; rw [if_pos rfl]; exact atKey_put_same hm (kZ.key (zkey x)) _ _
    · rw [if_neg h1, atKey_put_other (fun h2 => h1 (zk_inj hx (by omega) h2))]; exact h.1 x hx
  · intro kl hk
    by_cases h1 : kl = zk e
    · exact ⟨e, he, h1⟩
    · rw [has_put_other h1] at hk; exact h.2 kl hk
theorem MapZ.update {w : World} {b m N : Nat} {C : Nat → Int} (h : MapZ w b m N C) (hm : m < maxLen) {e : Nat} (he : e < N) (hN : N ≤ 343) (v : Int) (hv : (Lit.int .i64 v).wf = true) :
    ∃ w', (Instr.mapUpdate 47 (.map (some b)) (zv e) (.int .i64 v)).run Try.prog w = .ok () w' ∧ MapZ w' b (m + 1) N (fun e' => if e' = e then v else C e') ∧ w.grownBy w' (some b) := by
  obtain ⟨D, hD, hV⟩ := h
  obtain ⟨w5, hrun, hD5, hg5⟩ := hD.update kZ Try.underlying47 hm (zkey e) (plainElem_int (a := v) Try.underlying3 hv)
  exact ⟨w5, hrun, ⟨_, hD5, hV.put hD.isMap e he hN v⟩, hg5⟩
section
variable {P : Program} (w : World) {ops : Array Oper} {rest : List Oper} {o : Oper} {a : Act} {Q : Exit → Act → World → Prop}
/-- the step of a walk over the map -/
theorem wpList_next_z (hg : o.guard = none) (it : Operand) (hop : o.op = Op.next it false) (b r m N : Nat) (D : DataW Unit) (C : Nat → Int) (left : Lit → Bool) (cnt : Nat) (hN : N ≤ 343)
    (hit : a.eval it = .pointer (some ⟨r, 0, none⟩)) (h : w.ranges Try.prog 48 (plainElem Try.prog 3) b r m D left cnt) (hD : MapZD D N C) (hl : ∀ kl, left kl = true → Maps.has D kl = true)
    (hDone : cnt = 0 → (∀ kl, left kl = false) → wpList Try.prog ops Q rest (a.put o.dst (.tuple #[.bool false])) w)
    (hMore : ∀ (e : Nat) (w' : World) (cnt' : Nat), e < N → left (zk e) = true → w'.ranges Try.prog 48 (plainElem Try.prog 3) b r m D (fun z => left z && !z.sameKey (zk e)) cnt' → cnt' < cnt →
      w.grownBy w' (some r) → w'.heap.size = w.heap.size → (Instr.entry (.pointer (some ⟨r, 0, none⟩))).run Try.prog w' = .ok (.tuple #[zv e, .int .i64 (C e)]) w' → wpList Try.prog ops Q rest (a.put o.dst (.tuple #[.bool true, zv e, .int .i64 (C e)])) w') :
    wpList Try.prog ops Q (o :: rest) a w :=
  wpList_next_ranges w hg it hop 48 kZ (plainElem Try.prog 3) id (Value.int .i64) (fun key _ _ => ⟨key, rfl⟩) (fun v y hv => by obtain ⟨c, rfl, _⟩ := plainElem_int_inv Try.underlying3 hv; exact ⟨c, rfl⟩)
    b r m D left cnt hit h hDone (fun x c kl y w' cnt' hkey hlk hv hat hrg hlt hgr hsz hen => by
      obtain ⟨e, he, rfl⟩ := hD.2 kl (hl kl hlk)
      have hx : x = zv e := zv_inj (e' := e) (by omega) hkey
      subst hx
      obtain ⟨c', ec, rfl, hwc⟩ := plainElem_int_inv Try.underlying3 hv
      cases ec
      have h1 := hat (.lit (.int .i64 0))
      rw [hD.1 e (by omega)] at h1
      injection h1 with h1
      injection h1 with _ h1
      subst h1
      exact hMore e w' cnt' he hlk hrg hlt hgr hsz hen)
/-- the same, the key's digits and the entry named -/
theorem wpList_next_q (hg : o.guard = none) (it : Operand) (hop : o.op = Op.next it false) (b r m N : Nat) (D : DataW Unit) (C : Nat → Int) (left : Lit → Bool) (cnt : Nat) (hN : N ≤ 343)
    (hit : a.eval it = .pointer (some ⟨r, 0, none⟩)) (h : w.ranges Try.prog 48 (plainElem Try.prog 3) b r m D left cnt) (hD : MapZD D N C) (hl : ∀ kl, left kl = true → Maps.has D kl = true)
    (hDone : cnt = 0 → (∀ kl, left kl = false) → wpList Try.prog ops Q rest (a.put o.dst (.tuple #[.bool false])) w)
    (hMore : ∀ (e : Nat) (q0 q1 q2 y : Int) (w' : World) (cnt' : Nat), (q0 = (kd e 0 : Nat) ∧ q1 = (kd e 1 : Nat) ∧ q2 = (kd e 2 : Nat)) → y = C e → e < N → left (zk e) = true → w'.ranges Try.prog 48 (plainElem Try.prog 3) b r m D (fun z => left z && !z.sameKey (zk e)) cnt' → cnt' < cnt →
      w.grownBy w' (some r) → w'.heap.size = w.heap.size → (Instr.entry (.pointer (some ⟨r, 0, none⟩))).run Try.prog w' = .ok (.tuple #[.agg #[.int .i64 q0, .int .i64 q1, .int .i64 q2], .int .i64 y]) w' → wpList Try.prog ops Q rest (a.put o.dst (.tuple #[.bool true, .agg #[.int .i64 q0, .int .i64 q1, .int .i64 q2], .int .i64 y])) w') :
    wpList Try.prog ops Q (o :: rest) a w :=
  wpList_next_z w hg it hop b r m N D C left cnt hN hit h hD hl hDone fun e w' cnt' he hle hrg hlt hgr hsz hen => hMore e _ _ _ _ w' cnt' ⟨rfl, rfl, rfl⟩ rfl he hle hrg hlt hgr hsz hen
end
/-- how a walk over the map goes on: what is still to come -/
theorem left_next {left : Lit → Bool} {e e' : Nat} (he : e < 343) (he' : e' < 343) : (left (zk e') && !(zk e').sameKey (zk e)) = if e' = e then false else left (zk e') := by
  by_cases h : e' = e
  · subst h
    rw [if_pos rfl]
    have : (zk e').sameKey (zk e') = true := by simp [Lit.sameKey, zk]
    rw [this]; simp
  · rw [if_neg h, sameKey_ne fun h2 => h (zk_inj he' he h2)]; simp
end Go.Proofs.Ytoodmoliglhpiaa
