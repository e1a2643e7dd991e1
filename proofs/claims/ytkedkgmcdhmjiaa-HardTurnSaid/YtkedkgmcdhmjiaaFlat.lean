/- A slice of records all of whose cells are ints, arrays among them, opened: its cells read as one function. No condition. -/
import Derived.Test.YtkedkgmcdhmjiaaRecs
namespace Go.Proofs.Ytkedkgmcdhmjiaa
open Go.ChangeShapes Go.WideShapes Go.ChangeAt Go.RowKit
section
variable {H : Type} {enc : TypeId × Value → H} {P : Program} {W : World} {base : Nat} {held : Bool}
/-- a value of type E has s cells, each an int -/
def Flat (enc : TypeId × Value → H) (P : Program) (W : World) (base : Nat) (held : Bool) (E : TypeId) (s : Nat) : Prop :=
  ∀ m cs y, DataW.trod enc P W base (fun _ => true) held m E cs = some y → ∀ j, j < s → ∃ x : Int, cs[j]? = some (.int .i64 x) ∧ (Lit.int .i64 x).wf = true
theorem flat_int {E : TypeId} (hE : P.underlying E = some (.int .i64)) : Flat enc P W base held E 1 := fun m cs y h j hj => by
  obtain ⟨x, e, _, hw⟩ := DataW.trod_int hE h
  obtain rfl : j = 0 := by omega
  exact ⟨x, by rw [e]; rfl, hw⟩
theorem get_cut {α : Type} {l : List α} {a s j : Nat} {x : α} (h : ((l.drop a).take s)[j]? = some x) : l[a + j]? = some x := by
  rw [List.getElem?_take] at h
  by_cases hj : j < s
  · rw [if_pos hj, List.getElem?_drop] at h; exact h
  · rw [if_neg hj] at h; cases h
theorem flat_array {T E : TypeId} {n s q : Nat} (hT : P.underlying T = some (.array n E)) (hC : P.cellsOf E = s) (hs : 0 < s) (hF : Flat enc P W base held E s) (hq : q = n * s) : Flat enc P W base held T q := fun m cs y h j hj => by
  subst hq
  obtain ⟨xs, m', _, _, _, hl, hi⟩ := DataW.trod_array hT h
  have hjn : j / s < n := (Nat.div_lt_iff_lt_mul hs).2 hj
  have hjs : j % s < s := Nat.mod_lt _ hs
  have h1 := hi (j / s) hjn
  have hx : xs[j / s]? = some (xs[j / s]'(by omega)) := List.getElem?_eq_getElem (by omega)
  rw [hC, hx] at h1
  obtain ⟨x, e, hw⟩ := hF _ _ _ h1 (j % s) hjs
  refine ⟨x, ?_, hw⟩
  have := get_cut e
  rwa [Nat.div_add_mod'] at this
theorem flat_struct {T : TypeId} {fs : Array Field} {s : Nat} (hT : P.underlying T = some (.struct fs))
    (hall : ∀ j, j < s → ∃ (i : Nat) (f : Field) (k : Nat), fs[i]? = some f ∧ f.offset ≤ j ∧ j < f.offset + k ∧ P.cellsOf f.type = k ∧ Flat enc P W base held f.type k) : Flat enc P W base held T s := fun m cs y h j hj => by
  obtain ⟨xs, m', _, _, _, hl, hi⟩ := DataW.trod_struct hT h
  obtain ⟨i, f, k, hf, h0, h1, hk, hF⟩ := hall j hj
  have h2 := hi i f hf
  have hin : i < fs.size := by
    rcases Nat.lt_or_ge i fs.size with h | h
    · exact h
    · rw [Array.getElem?_eq_none h] at hf; cases hf
  have hx : xs[i]? = some (xs[i]'(by omega)) := List.getElem?_eq_getElem (by omega)
  rw [hk, hx] at h2
  obtain ⟨x, e, hw⟩ := hF _ _ _ h2 (j - f.offset) (by omega)
  refine ⟨x, ?_, hw⟩
  have := get_cut e
  rwa [Nat.add_sub_cancel' h0] at this
theorem open_flat {T E : TypeId} {s : Nat} {v : Value} {d : DataW H} {p : List MemPlace} (hT : P.underlying T = some (.slice E)) (hC : P.cellsOf E = s) (hs0 : 0 < s) (hF : Flat enc P W base held E s)
    (hok : ∃ a n c, v = .slice a n c) (h : DataW.Trod enc P W base (fun _ => true) held T v d p) :
    ∃ (A : Option Addr) (n c : Nat) (F : Nat → Int), v = .slice A n c ∧ Rd W A (n * s) (fun q => .int .i64 (F q)) ∧ (∀ q, (Lit.int .i64 (F q)).wf = true) ∧ Sl d n c ∧ n ≤ c ∧ c ≤ maxLen := by
  obtain ⟨a, n, c, rfl⟩ := hok
  obtain ⟨fuel, hf⟩ := h
  rcases Deep.open_slice hT hf with ⟨hcs, hx⟩ | ⟨a', len, cap, m, k, D, Pl, hcs, hb, hl, hm, hmm, hx, hi⟩
  · simp [Value.cells] at hcs
    obtain ⟨rfl, rfl, rfl⟩ := hcs
    simp only [Prod.mk.injEq] at hx
    exact ⟨none, 0, 0, fun _ => 0, rfl, by rw [Nat.zero_mul]; exact Rd.zero _ _ _, fun _ => (by decide : (Lit.int .i64 0).wf = true), .inl ⟨hx.1, rfl, rfl⟩, Nat.le_refl _, Nat.zero_le _⟩
  · simp [Value.cells] at hcs
    obtain ⟨rfl, rfl, rfl⟩ := hcs
    simp at hmm
    subst hmm
    simp only [Prod.mk.injEq] at hx
    have cells : ∀ q, q < n * s → ∃ x : Int, W.cell? (a'.add (q / s * s) |>.add (q % s)) = some (.int .i64 x) ∧ (Lit.int .i64 x).wf = true := fun q hq => by
      have hqn : q / s < n := (Nat.div_lt_iff_lt_mul hs0).2 hq
      have hqs : q % s < s := Nat.mod_lt _ hs0
      obtain ⟨cs', hc, ht⟩ := hi (q / s) (by omega)
      rw [hC] at hc
      obtain ⟨_, hcl, hat⟩ := World.cells?_some hc
      obtain ⟨x, e, hw⟩ := hF _ _ _ ht (q % s) hqs
      exact ⟨x, by rw [hat _ hqs, e], hw⟩
    obtain ⟨F, hF⟩ := fn_of (n := n * s) (Q := fun q x => (q < n * s → W.cell? (a'.add (q / s * s) |>.add (q % s)) = some (.int .i64 x)) ∧ (Lit.int .i64 x).wf = true) (0 : Int) (fun i hi => ⟨fun h => absurd h (by omega), by decide⟩) (fun q hq => by
      obtain ⟨x, e, hw⟩ := cells q hq
      exact ⟨x, fun _ => e, hw⟩)
    refine ⟨some a', n, m, F, rfl, fun hn => ?_, fun q => (hF q).2, .inr ⟨_, _, hx.1, by simp, by simp; omega⟩, hl, hm⟩
    have h0 := (hF 0).1 hn
    have e0 : (a'.add (0 / s * s)).add (0 % s) = a'.add 0 := by simp [Addr.add]
    rw [e0] at h0
    obtain ⟨b, off, rfl, hlt⟩ := spot_none h0
    refine ⟨b, off, rfl, hlt, fun q hq => ?_⟩
    have := (hF q).1 hq
    rw [add_plain2, Nat.div_add_mod'] at this
    exact this
end
theorem flat_pair2 {H : Type} {enc : TypeId × Value → H} {W : World} {base : Nat} {held : Bool} : Flat enc Try.prog W base held 40 2 :=
  flat_array Try.underlying40 (by kernel_rfl : Try.prog.cellsOf 3 = 1) (by omega) (flat_int Try.underlying3) rfl
end Go.Proofs.Ytkedkgmcdhmjiaa
