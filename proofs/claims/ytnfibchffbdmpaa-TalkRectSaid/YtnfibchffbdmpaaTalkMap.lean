/- A map[part]int of the call's own, and what talker holds. No condition. -/
import Derived.Test.YtnfibchffbdmpaaLib
import Derived.Test.YtnfibchffbdmpaaTalkFns
import Derived.Maps.Own
import Derived.Below
import Derived.Maps.OwnSet
import Derived.Maps.OwnOps
import Derived.Maps.Views
import Derived.DeepKeys4
import Derived.OwnWalk
namespace Go.Proofs.Ytnfibchffbdmpaa
open Go.ChangeShapes Go.WideShapes Go.ChangeAt Go.RowKit Go.Maps
set_option linter.unusedVariables false
theorem laidOutP : laidOutB Try.prog = true := by kernel_rfl
theorem rowP : (43 : TypeId) < Try.prog.types.size := of_decide_eq_true (by kernel_rfl)
theorem wideP : (match Try.prog.underlying 43 with | some (.array _ _) | some (.struct _) => true | _ => false) = true := by rw [Try.underlying43]
theorem kP : Keyed Try.prog 43 := Keyed.of_law (deep_law_laid laidOutP (m := 2) (by omega) rowP (by kernel_rfl) wideP)
def pk (a b : Int) : Lit := .string (keyBytes [.int .u64 a, .int .u64 b])
theorem pkey {a b : Int} (ha : (Lit.int .u64 a).wf = true) (hb : (Lit.int .u64 b).wf = true) : keyOf Try.prog 43 (.agg #[.int .u64 a, .int .u64 b]) = some (pk a b) := by
  have h1 : Try.prog.keyType 43 = true := by kernel_rfl
  have h2 : Try.prog.cellsOf 43 = 2 := by kernel_rfl
  have h3 : Try.prog.cellsOf 35 = 1 := by kernel_rfl
  obtain ⟨m, hm⟩ : ∃ m, Try.prog.types.size + 1 = m + 2 := ⟨Try.prog.types.size - 1, by have h : (43 : Nat) < Try.prog.types.size := rowP; omega⟩
  unfold keyOf
  rw [Try.underlying43, hm]
  simp [h1, Value.formed, Try.underlying43, h2, h3, Program.keyLits, Try.underlying35, Value.cells, ha, hb, pk]
theorem pk_inj {a b a' b' : Int} (ha : (Lit.int .u64 a).wf = true) (hb : (Lit.int .u64 b).wf = true) (ha' : (Lit.int .u64 a').wf = true) (hb' : (Lit.int .u64 b').wf = true) (e : pk a b = pk a' b') : a = a' ∧ b = b' := by
  have h1 := pkey ha hb
  have h2 := pkey ha' hb'
  rw [← e] at h2
  have := kP.inj h1 h2
  simpa using this
theorem wf16 {x : Nat} (h : x < 16) : (Lit.int .u64 (x : Int)).wf = true := by simp [Lit.wf, IntKind.min, IntKind.max, IntKind.signed, IntKind.bits]; omega
/-- the map at block b has, of parts that are there, V; at most m entries -/
def MapP (w : World) (b m : Nat) (V : Nat → Nat → Nat) : Prop :=
  ∃ D : DataW Unit, w.ownsMap Try.prog 43 (plainElem Try.prog 3) b m D ∧ ∀ x y : Nat, x < 16 → y < 16 → has D (pk (x : Nat) (y : Nat)) = true → D.atKey (pk (x : Nat) (y : Nat)) (.lit (.int .i64 0)) = .lit (.int .i64 (V x y : Nat))
theorem MapP.made (w : World) (V : Nat → Nat → Nat) : MapP (w.alloc (.map #[] 0)) w.heap.size 0 V := ⟨_, World.ownsMap_made _ _ _ _, fun x y _ _ h => by cases h⟩
theorem MapP.kept {w w' : World} {b m : Nat} {V : Nat → Nat → Nat} {row : Option Nat} (h : MapP w b m V) (hg : w.grownBy w' row) (hne : some b ≠ row) : MapP w' b m V := by
  obtain ⟨D, h1, h2⟩ := h; exact ⟨D, h1.kept hg hne, h2⟩
theorem MapP.below {w w' : World} {b m : Nat} {V : Nat → Nat → Nat} (h : MapP w b m V) (hb : Below w.heap.size w w') : MapP w' b m V :=
  h.kept (row := none) ⟨hb.os, hb.tape, hb.output, hb.size, fun i hi _ => hb.block i hi⟩ (by simp)
theorem MapP.lt {w : World} {b m : Nat} {V : Nat → Nat → Nat} (h : MapP w b m V) : b < w.heap.size := by
  obtain ⟨D, h1, h2⟩ := h; exact h1.lt
theorem MapP.obj {w : World} {b m : Nat} {V : Nat → Nat → Nat} (h : MapP w b m V) : ∃ es c, w.heap[b]? = some (.map es c) := by
  obtain ⟨D, ⟨es, c, h1, _⟩, _⟩ := h; exact ⟨es, c, h1⟩
theorem MapP.look {w : World} {b m : Nat} {V : Nat → Nat → Nat} (h : MapP w b m V) {x y : Nat} (hx : x < 16) (hy : y < 16) :
    ∃ (c : Int) (t : Bool), (t = true → c = (V x y : Nat)) ∧ ∀ w' : World, w'.heap = w.heap → (Instr.lookup 38 (.map (some b)) (.agg #[.int .u64 (x : Nat), .int .u64 (y : Nat)]) true).run Try.prog w' = .ok (.tuple #[.int .i64 c, .bool t]) w' := by
  obtain ⟨D, hD, hV⟩ := h
  have key : ∀ w' : World, w'.heap = w.heap → ∃ c : Int, D.atKey (pk (x : Nat) (y : Nat)) (.lit (.int .i64 0)) = .lit (.int .i64 c) ∧ (Instr.lookup 38 (.map (some b)) (.agg #[.int .u64 (x : Nat), .int .u64 (y : Nat)]) true).run Try.prog w' = .ok (.tuple #[.int .i64 c, .bool (has D (pk (x : Nat) (y : Nat)))]) w' := fun w' hw => by
    have hD' : w'.ownsMap Try.prog 43 (plainElem Try.prog 3) b m D := by
      obtain ⟨es, cl, h1, h2⟩ := hD
      exact ⟨es, cl, by rw [hw]; exact h1, h2⟩
    obtain ⟨v, ps, hrun, hv⟩ := hD'.look_ok kP Try.underlying38 (z := .int .i64 0) (by go_simp) (plainElem_int Try.underlying3 (by decide)) (pkey (wf16 hx) (wf16 hy))
    obtain ⟨c, rfl, hc, _⟩ := plainElem_int_inv Try.underlying3 hv
    exact ⟨c, congrArg Prod.fst hc, hrun⟩
  obtain ⟨c, hc, _⟩ := key w rfl
  refine ⟨c, has D (pk (x : Nat) (y : Nat)), fun ht => ?_, fun w' hw => ?_⟩
  · rw [hV x y hx hy ht] at hc
    injection hc with hc
    injection hc with _ hc
    exact hc.symm
  · obtain ⟨c', hc', hr⟩ := key w' hw
    rw [hc] at hc'
    injection hc' with hc'
    injection hc' with _ hc'
    subst hc'
    exact hr
theorem MapP.update {w : World} {b m : Nat} {V : Nat → Nat → Nat} (h : MapP w b m V) (hm : m < maxLen) {x y v : Nat} (hx : x < 16) (hy : y < 16) (hv : v = V x y) (hv9 : v ≤ 9) :
    ∃ w', (Instr.mapUpdate 38 (.map (some b)) (.agg #[.int .u64 (x : Nat), .int .u64 (y : Nat)]) (.int .i64 (v : Nat))).run Try.prog w = .ok () w' ∧ MapP w' b (m + 1) V ∧ w.grownBy w' (some b) := by
  obtain ⟨D, hD, hV⟩ := h
  obtain ⟨w5, hrun, hD5, hg5⟩ := hD.update kP Try.underlying38 hm (pkey (wf16 hx) (wf16 hy)) (plainElem_int (a := ((v : Nat) : Int)) Try.underlying3 (by simp [Lit.wf, IntKind.min, IntKind.max, IntKind.signed, IntKind.bits]; omega))
  have hIs : IsMap D := by obtain ⟨es, cl, _, _, _, e⟩ := hD; exact ⟨_, e⟩
  refine ⟨w5, hrun, ⟨_, hD5, fun x' y' hx' hy' hh => ?_⟩, hg5⟩
  by_cases e : pk (x' : Nat) (y' : Nat) = pk (x : Nat) (y : Nat)
  · obtain ⟨e1, e2⟩ := pk_inj (wf16 hx') (wf16 hy') (wf16 hx) (wf16 hy) e
    obtain rfl : x' = x := by omega
    obtain rfl : y' = y := by omega
    rw [← hv]
    exact atKey_put_same hIs (kP.key (pkey (wf16 hx) (wf16 hy))) _ _
  · rw [has_put_other e] at hh
    rw [atKey_put_other e]
    exact hV x' y' hx' hy' hh
def t2f (v0 v1 : Value) (q : Nat) : Value := if q = 0 then v0 else v1
/-- the talker at block kb, its table and its map at mb -/
structure TK (w W : World) (kb mb m : Nat) (A : Option Addr) (n c : Nat) (V : Nat → Nat → Nat) : Prop where
  row : W.rowIs kb 40 2 (t2f (.slice A n c) (.map (some mb)))
  ge : w.heap.size ≤ mb
  bel : Below w.heap.size w W
  map : MapP W mb m V
theorem below_grown {w W W' : World} {g : Nat} (h : Below w.heap.size w W) (hg : W.grownBy W' (some g)) (hge : w.heap.size ≤ g) : Below w.heap.size w W' :=
  ⟨hg.os.trans h.os, hg.tape.trans h.tape, hg.output.trans h.output, Nat.le_trans h.size hg.size, fun i hi => (hg.block i (by have := h.size; omega) (by simp; omega)).trans (h.block i hi)⟩
theorem TK.ne {w W : World} {kb mb m : Nat} {A : Option Addr} {n c : Nat} {V : Nat → Nat → Nat} (h : TK w W kb mb m A n c V) : kb ≠ mb := fun e => by
  obtain ⟨cs, h1, _⟩ := h.row
  obtain ⟨es, cl, ho⟩ := h.map.obj
  rw [e] at h1
  rw [h1] at ho; cases ho
theorem TK.below {w W W' : World} {kb mb m : Nat} {A : Option Addr} {n c : Nat} {V : Nat → Nat → Nat} (h : TK w W kb mb m A n c V) (hb : Below W.heap.size W W') : TK w W' kb mb m A n c V :=
  ⟨h.row.of_block (hb.block kb h.row.lt), h.ge, h.bel.trans (hb.mono h.bel.size), h.map.below hb⟩
theorem TK.put {w W W' : World} {kb mb m m' : Nat} {A : Option Addr} {n c : Nat} {V : Nat → Nat → Nat} (h : TK w W kb mb m A n c V) (hg : W.grownBy W' (some mb)) (hm : MapP W' mb m' V) : TK w W' kb mb m' A n c V :=
  ⟨h.row.of_block (hg.block kb h.row.lt (by have := h.ne; simp [this])), h.ge, below_grown h.bel hg h.ge, hm⟩
/-- two cells elsewhere stay -/
theorem row_grown {W W' : World} {g b : Nat} {t : TypeId} {N : Nat} {R : Nat → Value} (h : W.rowIs b t N R) (hg : W.grownBy W' (some g)) (hne : b ≠ g) : W'.rowIs b t N R := h.of_block (hg.block b h.lt (by simp [hne]))
end Go.Proofs.Ytnfibchffbdmpaa
