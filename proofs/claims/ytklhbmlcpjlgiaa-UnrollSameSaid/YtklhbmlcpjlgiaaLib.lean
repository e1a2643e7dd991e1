/- Words for memory that all walks here use: a slice that reads as a function of its index, arguments opened to it. No condition. -/
import Derived.Test.YtklhbmlcpjlgiaaRows
import Derived.WalkKit
import Derived.ProofKit
import Derived.OpenShut
import Derived.Below
import Derived.SizedLaws
import Derived.Deep.Slices
import Derived.Deep.OwnRows
import Derived.Deep.Draws
import Derived.Lib.Hide
import Derived.Outline
namespace Go.Proofs.Ytklhbmlcpjlgiaa
open Go.ChangeShapes Go.WideShapes Go.ChangeAt Go.RowKit

theorem ret_true {b : Bool} (h : b = true) : Ending.returned (.bool b) = .returned (.bool true) := by rw [h]
theorem ret_int {k : IntKind} {a b : Int} (h : a = b) : Ending.returned (.int k a) = .returned (.int k b) := by rw [h]
theorem ret_bool {a b : Bool} (h : a = b) : Ending.returned (.bool a) = .returned (.bool b) := by rw [h]

/-- n cells from address A on hold C -/
def Rd (w : World) (A : Option Addr) (n : Nat) (C : Nat → Value) : Prop :=
  0 < n → ∃ b off, A = some ⟨b, off, none⟩ ∧ b < w.heap.size ∧ ∀ i, i < n → w.cell? ⟨b, off + i, none⟩ = some (C i)
theorem Rd.zero (w : World) (A : Option Addr) (C : Nat → Value) : Rd w A 0 C := fun h => absurd h (Nat.lt_irrefl _)
theorem Rd.at_ {w : World} {A : Option Addr} {n : Nat} {C : Nat → Value} (h : Rd w A n C) {k : Nat} (hk : k < n) :
    ∃ b off, A = some ⟨b, off, none⟩ ∧ b < w.heap.size ∧ w.cell? ⟨b, off + k, none⟩ = some (C k) := by
  obtain ⟨b, off, e, hb, hc⟩ := h (by omega)
  exact ⟨b, off, e, hb, hc k hk⟩
theorem Rd.keep {w w' : World} {A : Option Addr} {n : Nat} {C : Nat → Value} (h : Rd w A n C) (hs : w.heap.size ≤ w'.heap.size)
    (hk : ∀ p : Addr, p.block < w.heap.size → w'.cell? p = w.cell? p) : Rd w' A n C := fun hn => by
  obtain ⟨b, off, e, hb, hc⟩ := h hn
  exact ⟨b, off, e, by omega, fun i hi => (hk _ hb).trans (hc i hi)⟩
theorem Rd.below {w w' : World} {A : Option Addr} {n : Nat} {C : Nat → Value} (h : Rd w A n C) (hb : Below w.heap.size w w') : Rd w' A n C :=
  h.keep hb.size fun _ hp => hb.cell hp
theorem Rd.congr {w : World} {A : Option Addr} {n : Nat} {C C' : Nat → Value} (h : Rd w A n C) (hC : ∀ i, i < n → C i = C' i) : Rd w A n C' := fun hn => by
  obtain ⟨b, off, e, hb, hc⟩ := h hn
  exact ⟨b, off, e, hb, fun i hi => by rw [hc i hi, hC i hi]⟩
theorem Rd.le {w : World} {A : Option Addr} {n m : Nat} {C : Nat → Value} (h : Rd w A n C) (hm : m ≤ n) : Rd w A m C := fun hn => by
  obtain ⟨b, off, e, hb, hc⟩ := h (by omega)
  exact ⟨b, off, e, hb, fun i hi => hc i (by omega)⟩

theorem Rd.of_row {w : World} {b : Nat} {t : TypeId} {n m : Nat} {F : Nat → Value} (h : w.rowIs b t n F) (hm : m ≤ n) : Rd w (some ⟨b, 0, none⟩) m F :=
  fun _ => ⟨b, 0, rfl, h.lt, fun i hi => by rw [Nat.zero_add]; exact h.cell (by omega)⟩
theorem row_below {w w' : World} {b B : Nat} {t : TypeId} {n : Nat} {F : Nat → Value} (h : w.rowIs b t n F) (hb : Below B w w') (hlt : b < B) : w'.rowIs b t n F := h.of_block (hb.block b hlt)
theorem row_drewN {w : World} {b : Nat} {t : TypeId} {n : Nat} {F : Nat → Value} (h : w.rowIs b t n F) (k : Nat) : (w.drewN k).rowIs b t n F := h
theorem below_drewN {B : Nat} {a w : World} (h : Below B a w) (k : Nat) : Below B a (w.drewN k) := ⟨h.os, h.tape, h.output, h.size, h.block⟩
theorem Rd.drewN {w : World} {A : Option Addr} {n : Nat} {C : Nat → Value} (h : Rd w A n C) (k : Nat) : Rd (w.drewN k) A n C := h
theorem row4 (w : World) (t : TypeId) (a b c d : Value) (F : Nat → Value) (h0 : F 0 = a) (h1 : F 1 = b) (h2 : F 2 = c) (h3 : F 3 = d) : (w.alloc (.cells #[a, b, c, d] t)).rowIs w.heap.size t 4 F :=
  World.rowIs_alloc w #[a, b, c, d] t F fun i hi => by
    have : i < 4 := hi
    match i, this with
    | 0, _ => simp [h0]
    | 1, _ => simp [h1]
    | 2, _ => simp [h2]
    | 3, _ => simp [h3]

section
variable {H : Type} {enc : TypeId × Value → H} {P : Program} {W : World} {base : Nat} {held : Bool}

/-- the datum of a slice with n elements and capacity c -/
def Sl (d : DataW H) (n c : Nat) : Prop := (d = .nil ∧ n = 0 ∧ c = 0) ∨ ∃ el sp, d = .slice el sp ∧ el.length = n ∧ n + sp.length = c

theorem spot_none {w : World} {a : Addr} {v : Value} (h : w.cell? (a.add 0) = some v) : ∃ b off, a = ⟨b, off, none⟩ ∧ b < w.heap.size := by
  obtain ⟨b, off, spot⟩ := a
  have h' : w.cell? ⟨b, off, spot⟩ = some v := h
  have hs : spot = none := World.cell?_spot h'
  subst hs
  exact ⟨b, off, rfl, World.block_lt_of_cell? _ _ h'⟩
theorem add_plain' (b off i : Nat) : Addr.add ⟨b, off, none⟩ i = ⟨b, off + i, none⟩ := by
  unfold Addr.add
  by_cases hi : i = 0
  · subst hi; simp
  · simp [hi]

/-- a slice whose elements are one cell each, opened -/
theorem open_cells {T E : TypeId} {v : Value} {d : DataW H} {p : List MemPlace} (hT : P.underlying T = some (.slice E)) (hC : P.cellsOf E = 1)
    (hok : ∃ a n c, v = .slice a n c) (h : DataW.Trod enc P W base (fun _ => true) held T v d p) :
    ∃ A n c V, v = .slice A n c ∧ Rd W A n V ∧ Sl d n c ∧ n ≤ c ∧ c ≤ maxLen ∧ ∀ i, i < n → ∃ y m, DataW.trod enc P W base (fun _ => true) held m E [V i] = some y := by
  obtain ⟨a, n, c, rfl⟩ := hok
  obtain ⟨fuel, hf⟩ := h
  rcases Deep.open_slice1 hT hC hf with ⟨hcs, hx⟩ | ⟨a', len, cap, m, k, V, D, Pl, hcs, hb, hl, hm, hmm, hx, hi⟩
  · simp [Value.cells] at hcs
    obtain ⟨rfl, rfl, rfl⟩ := hcs
    simp only [Prod.mk.injEq] at hx
    exact ⟨none, 0, 0, fun _ => .int .i64 0, rfl, Rd.zero _ _ _, .inl ⟨hx.1, rfl, rfl⟩, Nat.le_refl _, Nat.zero_le _, fun i hi => absurd hi (Nat.not_lt_zero _)⟩
  · simp [Value.cells] at hcs
    obtain ⟨rfl, rfl, rfl⟩ := hcs
    simp at hmm
    subst hmm
    simp only [Prod.mk.injEq] at hx
    refine ⟨some a', n, m, V, rfl, ?_, .inr ⟨_, _, hx.1, by simp, by simp; omega⟩, hl, hm, fun i hin => ⟨_, _, (hi i (by omega)).2⟩⟩
    intro hn
    obtain ⟨b, off, rfl, hlt⟩ := spot_none (hi 0 (by omega)).1
    refine ⟨b, off, rfl, hlt, fun i hin => ?_⟩
    rw [← add_plain']; exact (hi i (by omega)).1

theorem fn_of {α : Type} (dflt : α) {n : Nat} {Q : Nat → α → Prop} (hd : ∀ i, n ≤ i → Q i dflt) (h : ∀ i, i < n → ∃ x, Q i x) : ∃ f : Nat → α, ∀ i, Q i (f i) := by
  classical
  refine ⟨fun i => if hi : i < n then Classical.choose (h i hi) else dflt, fun i => ?_⟩
  by_cases hi : i < n
  · simp only [dif_pos hi]; exact Classical.choose_spec (h i hi)
  · simp only [dif_neg hi]; exact hd i (by omega)

/-- a slice of integers, opened: a function of the index, each value fits its kind -/
theorem open_ints_fn {T E : TypeId} {k : IntKind} {v : Value} {d : DataW H} {p : List MemPlace} (hT : P.underlying T = some (.slice E)) (hE : P.underlying E = some (.int k)) (hC : P.cellsOf E = 1)
    (h0 : (Lit.int k 0).wf = true) (hok : ∃ a n c, v = .slice a n c) (h : DataW.Trod enc P W base (fun _ => true) held T v d p) :
    ∃ (A : Option Addr) (n c : Nat) (f : Nat → Int), v = .slice A n c ∧ Rd W A n (fun i => .int k (f i)) ∧ (∀ i, (Lit.int k (f i)).wf = true) ∧ Sl d n c ∧ n ≤ c ∧ c ≤ maxLen := by
  obtain ⟨A, n, c, V, hv, hr, hs, hl, hm, hi⟩ := open_cells hT hC hok h
  obtain ⟨f, hf⟩ := fn_of (n := n) (Q := fun i x => (i < n → V i = .int k x) ∧ (Lit.int k x).wf = true) (0 : Int) (fun i hi => ⟨fun h => absurd h (by omega), h0⟩) (fun i hin => by
    obtain ⟨y, m, hy⟩ := hi i hin
    obtain ⟨x, e, _, hw⟩ := DataW.trod_int hE hy
    simp at e
    exact ⟨x, fun _ => e, hw⟩)
  exact ⟨A, n, c, f, hv, hr.congr fun i hi => (hf i).1 hi, fun i => (hf i).2, hs, hl, hm⟩

/-- a slice of bools, opened -/
theorem open_bools_fn {T E : TypeId} {v : Value} {d : DataW H} {p : List MemPlace} (hT : P.underlying T = some (.slice E)) (hE : P.underlying E = some .bool) (hC : P.cellsOf E = 1)
    (hok : ∃ a n c, v = .slice a n c) (h : DataW.Trod enc P W base (fun _ => true) held T v d p) :
    ∃ (A : Option Addr) (n c : Nat) (f : Nat → Bool), v = .slice A n c ∧ Rd W A n (fun i => .bool (f i)) ∧ Sl d n c ∧ n ≤ c ∧ c ≤ maxLen := by
  obtain ⟨A, n, c, V, hv, hr, hs, hl, hm, hi⟩ := open_cells hT hC hok h
  obtain ⟨f, hf⟩ := fn_of (n := n) (Q := fun i x => i < n → V i = .bool x) false (fun i hi h => absurd h (by omega)) (fun i hin => by
    obtain ⟨y, m, hy⟩ := hi i hin
    obtain ⟨x, e, _⟩ := DataW.trod_bool hE hy
    simp at e
    exact ⟨x, fun _ => e⟩)
  exact ⟨A, n, c, f, hv, hr.congr fun i hi => hf i hi, hs, hl, hm⟩
theorem Sl.sized {ts : List TypeId} {ds : List (DataW H)} {d : DataW H} {n c : Nat} (s : Sl d n c) (h : (DataW.weightsEach P ts ds).all (· ≤ reachBytes) = true) {j : Nat} {t e b : Nat}
    (ht : ts[j]? = some t) (hd : ds[j]? = some d) (hu : P.underlying t = some (.slice e)) (hb : P.bytesOf e = b) : c * b ≤ 140737488351232 := by
  rcases s with ⟨_, _, rfl⟩ | ⟨el, sp, rfl, h1, h2⟩
  · simp
  · have := sized_slice h ht hd hu
    rw [hb, show el.length + sp.length = c by omega] at this
    simpa [reachBytes] using this
end
end Go.Proofs.Ytklhbmlcpjlgiaa
