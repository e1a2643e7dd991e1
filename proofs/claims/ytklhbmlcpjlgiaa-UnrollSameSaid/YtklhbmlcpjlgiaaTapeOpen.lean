/- A machine and where it is, come in by value, opened. No condition. -/
import Derived.Test.YtklhbmlcpjlgiaaRowsOf
import Derived.Test.YtklhbmlcpjlgiaaTapeCheck
namespace Go.Proofs.Ytklhbmlcpjlgiaa
open Go.ChangeShapes Go.WideShapes Go.ChangeAt Go.RowKit
set_option linter.unusedVariables false
section
variable {H : Type} {enc : TypeId × Value → H} {P : Program} {W : World} {base : Nat} {held : Bool}
theorem any_slice {T E : TypeId} {m : Nat} {cs : List Value} {x : DataW H × List MemPlace} (hT : P.underlying T = some (.slice E)) (h : DataW.trod enc P W base (fun _ => true) held m T cs = some x) :
    ∃ a n c, cs = [.slice a n c] := by
  rcases Deep.open_slice hT h with ⟨hcs, _⟩ | ⟨a', len, cap, m, k, D, Pl, hcs, _⟩
  · exact ⟨none, 0, 0, hcs⟩
  · exact ⟨some a', len, cap, hcs⟩
def SI.wide (s : SI) : Prop := ∀ i, (Lit.int .i64 (s.f i)).wf = true
/-- a slice of records of three numbers -/
theorem rules_of {T E : TypeId} {fs : Array Field} {m : Nat} {cs : List Value} {x : DataW H × List MemPlace} (hT : P.underlying T = some (.slice E)) (hE : P.underlying E = some (.struct fs))
    (hone : Go.Deep.oneCellFields P fs = true) (hC : P.cellsOf E = 3) (hs : fs.size = 3) (hint : ∀ f ∈ fs, P.underlying f.type = some (.int .i64)) (h : DataW.trod enc P W base (fun _ => true) held m T cs = some x) :
    ∃ s : SI, cs = [s.val] ∧ s.rules W ∧ s.wide := by
  obtain ⟨a, n, c, rfl⟩ := any_slice hT h
  obtain ⟨A, n', c', f, e, hr, hw, _, hl, hm⟩ := open_recs (v := .slice a n c) (d := x.1) (p := x.2) hT hE hone hC hs (by omega) hint ⟨a, n, c, rfl⟩ ⟨m, h⟩
  injection e with e1 e2 e3
  subst e1 e2 e3
  exact ⟨⟨a, n, c, f⟩, rfl, ⟨hr, by show n ≤ _; omega⟩, hw⟩
theorem table_of {T R E : TypeId} {fs : Array Field} {m : Nat} {cs : List Value} {x : DataW H × List MemPlace} (hT : P.underlying T = some (.slice R)) (hR : P.underlying R = some (.slice E)) (hCR : P.cellsOf R = 1) (hE : P.underlying E = some (.struct fs))
    (hone : Go.Deep.oneCellFields P fs = true) (hC : P.cellsOf E = 3) (hs : fs.size = 3) (hint : ∀ f ∈ fs, P.underlying f.type = some (.int .i64)) (h : DataW.trod enc P W base (fun _ => true) held m T cs = some x) :
    ∃ (A : Option Addr) (n c : Nat) (R : Nat → SI), cs = [.slice A n c] ∧ Tm W A n R ∧ (∀ i, (R i).wide) ∧ n ≤ c ∧ c ≤ maxLen := by
  obtain ⟨a, n, c, rfl⟩ := any_slice hT h
  obtain ⟨A, n', c', V, e, hr, _, hl, hm, hi⟩ := open_blocks (v := .slice a n c) (d := x.1) (p := x.2) hT hCR (by omega) ⟨a, n, c, rfl⟩ ⟨m, h⟩
  injection e with e1 e2 e3
  subst e1 e2 e3
  obtain ⟨F, hF⟩ := fn_of (n := n) (Q := fun i s => (i < n → V i = s.val ∧ s.rules W) ∧ s.wide) SI.nil (fun i hi => ⟨fun h => absurd h (by omega), fun _ => (by decide : (Lit.int .i64 0).wf = true)⟩) (fun i hin => by
    obtain ⟨y, m, hy⟩ := hi i hin
    obtain ⟨s, e, hg, hw⟩ := rules_of hR hE hone hC hs hint hy
    simp [List.range_succ] at e
    exact ⟨s, fun _ => ⟨e, hg⟩, hw⟩)
  rw [Nat.mul_one] at hr
  exact ⟨a, n, c, F, rfl, ⟨hr.congr fun i hi => ((hF i).1 hi).1, fun i hi => ((hF i).1 hi).2⟩, fun i => (hF i).2, hl, hm⟩
theorem open_machine {T I Q R E : TypeId} {f0 f1 f2 : Field} {fs : Array Field} {v : Value} {d : DataW H} {p : List MemPlace} (hT : P.underlying T = some (.struct #[f0, f1, f2])) (h0 : f0.type = I) (h1 : f1.type = I) (h2 : f2.type = Q) (o0 : f0.offset = 0) (o1 : f1.offset = 1) (o2 : f2.offset = 2)
    (hI : P.underlying I = some (.int .i64)) (hCI : P.cellsOf I = 1) (hQ : P.underlying Q = some (.slice R)) (hCQ : P.cellsOf Q = 1) (hR : P.underlying R = some (.slice E)) (hCR : P.cellsOf R = 1) (hE : P.underlying E = some (.struct fs))
    (hone : Go.Deep.oneCellFields P fs = true) (hC : P.cellsOf E = 3) (hs : fs.size = 3) (hint : ∀ f ∈ fs, P.underlying f.type = some (.int .i64)) (hCT : P.cellsOf T = 3)
    (hok : ∃ cs, v = .agg cs ∧ cs.size = P.cellsOf T) (h : DataW.Trod enc P W base (fun _ => true) held T v d p) :
    ∃ (S Y : Int) (A : Option Addr) (n c : Nat) (R : Nat → SI), v = .agg #[.int .i64 S, .int .i64 Y, .slice A n c] ∧ (Lit.int .i64 S).wf = true ∧ (Lit.int .i64 Y).wf = true ∧ Tm W A n R ∧ (∀ i, (R i).wide) ∧ n ≤ c ∧ c ≤ maxLen := by
  obtain ⟨cs, rfl, hsz⟩ := hok
  obtain ⟨m, hm⟩ := h
  obtain ⟨xs, n, _, _, _, hxl, hi⟩ := DataW.trod_struct hT hm
  have hx3 : xs.length = 3 := hxl
  have hcl : (Value.agg cs).cells.toList.length = 3 := by simp [Value.cells]; omega
  have g0 := hi 0 f0 rfl
  have g1 := hi 1 f1 rfl
  have g2 := hi 2 f2 rfl
  rw [h0, o0, hCI, List.getElem?_eq_getElem (by omega)] at g0
  rw [h1, o1, hCI, List.getElem?_eq_getElem (by omega)] at g1
  rw [h2, o2, hCQ, List.getElem?_eq_getElem (by omega)] at g2
  obtain ⟨S, e0, _, w0⟩ := DataW.trod_int hI g0
  obtain ⟨Y, e1, _, w1⟩ := DataW.trod_int hI g1
  obtain ⟨A, k, c, F, e2, hTm, hw, hl, hmx⟩ := table_of hQ hR hCR hE hone hC hs hint g2
  obtain ⟨l⟩ := cs
  simp [Value.cells] at e0 e1 e2 hcl
  match l, hcl with
  | [a, b, z], _ =>
    simp at e0 e1 e2
    subst e0 e1 e2
    exact ⟨S, Y, A, k, c, F, rfl, w0, w1, hTm, hw, hl, hmx⟩
theorem open_now {T I Q : TypeId} {f0 f1 f2 f3 : Field} {v : Value} {d : DataW H} {p : List MemPlace} (hT : P.underlying T = some (.struct #[f0, f1, f2, f3])) (h0 : f0.type = I) (h1 : f1.type = I) (h2 : f2.type = I) (h3 : f3.type = Q) (o0 : f0.offset = 0) (o1 : f1.offset = 1) (o2 : f2.offset = 2) (o3 : f3.offset = 3)
    (hI : P.underlying I = some (.int .i64)) (hCI : P.cellsOf I = 1) (hQ : P.underlying Q = some (.slice I)) (hCQ : P.cellsOf Q = 1) (hCT : P.cellsOf T = 4)
    (hok : ∃ cs, v = .agg cs ∧ cs.size = P.cellsOf T) (h : DataW.Trod enc P W base (fun _ => true) held T v d p) :
    ∃ (S Y Z : Int) (s : SI), v = .agg #[.int .i64 S, .int .i64 Y, .int .i64 Z, .slice s.A s.n s.c] ∧ (Lit.int .i64 S).wf = true ∧ (Lit.int .i64 Y).wf = true ∧ (Lit.int .i64 Z).wf = true ∧ s.good W := by
  obtain ⟨cs, rfl, hsz⟩ := hok
  obtain ⟨m, hm⟩ := h
  obtain ⟨xs, n, _, _, _, hxl, hi⟩ := DataW.trod_struct hT hm
  have hx3 : xs.length = 4 := hxl
  have hcl : (Value.agg cs).cells.toList.length = 4 := by simp [Value.cells]; omega
  have g0 := hi 0 f0 rfl
  have g1 := hi 1 f1 rfl
  have g2 := hi 2 f2 rfl
  have g3 := hi 3 f3 rfl
  rw [h0, o0, hCI, List.getElem?_eq_getElem (by omega)] at g0
  rw [h1, o1, hCI, List.getElem?_eq_getElem (by omega)] at g1
  rw [h2, o2, hCI, List.getElem?_eq_getElem (by omega)] at g2
  rw [h3, o3, hCQ, List.getElem?_eq_getElem (by omega)] at g3
  obtain ⟨S, e0, _, w0⟩ := DataW.trod_int hI g0
  obtain ⟨Y, e1, _, w1⟩ := DataW.trod_int hI g1
  obtain ⟨Z, e2, _, w2⟩ := DataW.trod_int hI g2
  obtain ⟨s, e3, hg⟩ := ints_of hQ hI hCI g3
  obtain ⟨l⟩ := cs
  simp [Value.cells] at e0 e1 e2 e3 hcl
  match l, hcl with
  | [a, b, z, y], _ =>
    simp at e0 e1 e2 e3
    subst e0 e1 e2 e3
    exact ⟨S, Y, Z, s, rfl, w0, w1, w2, hg⟩
end
end Go.Proofs.Ytklhbmlcpjlgiaa
