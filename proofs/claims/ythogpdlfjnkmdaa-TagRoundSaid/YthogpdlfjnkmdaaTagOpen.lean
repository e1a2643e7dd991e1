/- A system of tags, come in by value, opened. No condition. -/
import Derived.Test.YthogpdlfjnkmdaaRowsOf
namespace Go.Proofs.Ythogpdlfjnkmdaa
open Go.ChangeShapes Go.WideShapes Go.ChangeAt Go.RowKit
set_option linter.unusedVariables false
section
variable {H : Type} {enc : TypeId × Value → H} {P : Program} {W : World} {base : Nat} {held : Bool}
theorem rows_of {T R E : TypeId} {m : Nat} {cs : List Value} {x : DataW H × List MemPlace} (hT : P.underlying T = some (.slice R)) (hR : P.underlying R = some (.slice E)) (hE : P.underlying E = some (.int .i64)) (hCR : P.cellsOf R = 1) (hC : P.cellsOf E = 1)
    (h : DataW.trod enc P W base (fun _ => true) held m T cs = some x) :
    ∃ (A : Option Addr) (n c : Nat) (R : Nat → SI), cs = [.slice A n c] ∧ Rd W A n (fun i => (R i).val) ∧ (∀ i, (R i).good W) ∧ n ≤ c ∧ c ≤ maxLen := by
  obtain ⟨a, n, c, rfl⟩ : ∃ a n c, cs = [.slice a n c] := by
    rcases Deep.open_slice hT h with ⟨hcs, _⟩ | ⟨a', len, cap, m, k, D, Pl, hcs, _⟩
    · exact ⟨none, 0, 0, hcs⟩
    · exact ⟨some a', len, cap, hcs⟩
  obtain ⟨A, n', c', F, e, hr, hg, _, hl, hm⟩ := open_rows (v := .slice a n c) (d := x.1) (p := x.2) hT hR hE hCR hC ⟨a, n, c, rfl⟩ ⟨m, h⟩
  injection e with e1 e2 e3
  subst e1 e2 e3
  exact ⟨a, n, c, F, rfl, hr, hg, hl, hm⟩
theorem open_tag {T I Q R : TypeId} {f0 f1 : Field} {v : Value} {d : DataW H} {p : List MemPlace} (hT : P.underlying T = some (.struct #[f0, f1])) (h0 : f0.type = I) (h1 : f1.type = Q) (o0 : f0.offset = 0) (o1 : f1.offset = 1)
    (hI : P.underlying I = some (.int .i64)) (hCI : P.cellsOf I = 1) (hQ : P.underlying Q = some (.slice R)) (hCQ : P.cellsOf Q = 1) (hR : P.underlying R = some (.slice I)) (hCR : P.cellsOf R = 1) (hCT : P.cellsOf T = 2)
    (hok : ∃ cs, v = .agg cs ∧ cs.size = P.cellsOf T) (h : DataW.Trod enc P W base (fun _ => true) held T v d p) :
    ∃ (D : Int) (A : Option Addr) (n c : Nat) (R : Nat → SI), v = .agg #[.int .i64 D, .slice A n c] ∧ (Lit.int .i64 D).wf = true ∧ Rd W A n (fun i => (R i).val) ∧ (∀ i, (R i).good W) ∧ n ≤ c ∧ c ≤ maxLen := by
  obtain ⟨cs, rfl, hsz⟩ := hok
  obtain ⟨m, hm⟩ := h
  obtain ⟨xs, n, _, _, _, hxl, hi⟩ := DataW.trod_struct hT hm
  have hx3 : xs.length = 2 := hxl
  have hcl : (Value.agg cs).cells.toList.length = 2 := by simp [Value.cells]; omega
  have g0 := hi 0 f0 rfl
  have g1 := hi 1 f1 rfl
  rw [h0, o0, hCI, List.getElem?_eq_getElem (by omega)] at g0
  rw [h1, o1, hCQ, List.getElem?_eq_getElem (by omega)] at g1
  obtain ⟨S, e0, _, w0⟩ := DataW.trod_int hI g0
  obtain ⟨A, k, c, F, e2, hr, hg, hl, hmx⟩ := rows_of hQ hR hI hCR hCI g1
  obtain ⟨l⟩ := cs
  simp [Value.cells] at e0 e2 hcl
  match l, hcl with
  | [a, b], _ =>
    simp at e0 e2
    subst e0 e2
    exact ⟨S, A, k, c, F, rfl, w0, hr, hg, hl, hmx⟩
end
end Go.Proofs.Ythogpdlfjnkmdaa
