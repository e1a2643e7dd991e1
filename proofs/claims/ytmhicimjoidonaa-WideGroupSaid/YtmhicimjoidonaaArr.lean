/- An argument that is an array of five integers, opened. No condition. -/
import Derived.Test.YtmhicimjoidonaaLib
namespace Go.Proofs.Ytmhicimjoidonaa
open Go.ChangeShapes Go.WideShapes Go.ChangeAt Go.RowKit
theorem okWide_arr {P : Program} {w : World} {r : Reach} {base : Nat} {t e : TypeId} {n : Nat} {v : Value} (ht : P.underlying t = some (.array n e)) (h : Value.okWide P w r base t v) : ∃ cs, v = .agg cs ∧ cs.size = P.cellsOf t := by
  simp only [Value.okWide, ht] at h
  obtain ⟨cs, h1, h2, _⟩ := h
  exact ⟨cs, h1, h2⟩
theorem list5 {α : Type} : ∀ l : List α, l.length = 5 → ∃ a b c d e, l = [a, b, c, d, e]
  | [a, b, c, d, e], _ => ⟨a, b, c, d, e, rfl⟩
section
variable {H : Type} {enc : TypeId × Value → H} {P : Program} {W : World} {base : Nat} {held : Bool}
theorem open_arr5 {T E : TypeId} {k : IntKind} {v : Value} {d : DataW H} {p : List MemPlace} (hT : P.underlying T = some (.array 5 E)) (hE : P.underlying E = some (.int k)) (hC : P.cellsOf E = 1) (hCT : P.cellsOf T = 5)
    (hok : ∃ cs, v = .agg cs ∧ cs.size = P.cellsOf T) (h : DataW.Trod enc P W base (fun _ => true) held T v d p) :
    ∃ F : Nat → Int, v = .agg #[.int k (F 0), .int k (F 1), .int k (F 2), .int k (F 3), .int k (F 4)] ∧ ∀ i, i < 5 → (Lit.int k (F i)).wf = true := by
  obtain ⟨cs, rfl, hs⟩ := hok
  obtain ⟨l⟩ := cs
  rw [hCT] at hs
  obtain ⟨c0, c1, c2, c3, c4, rfl⟩ := list5 l (by simpa using hs)
  obtain ⟨fuel, hf⟩ := h
  obtain ⟨xs, m, _, _, _, hl, hi⟩ := DataW.trod_array hT hf
  obtain ⟨y0, y1, y2, y3, y4, rfl⟩ := list5 xs hl
  simp only [Value.cells, hC] at hi
  have g0 := hi 0 (by omega)
  have g1 := hi 1 (by omega)
  have g2 := hi 2 (by omega)
  have g3 := hi 3 (by omega)
  have g4 := hi 4 (by omega)
  simp at g0 g1 g2 g3 g4
  obtain ⟨x0, e0, _, w0⟩ := DataW.trod_int hE g0
  obtain ⟨x1, e1, _, w1⟩ := DataW.trod_int hE g1
  obtain ⟨x2, e2, _, w2⟩ := DataW.trod_int hE g2
  obtain ⟨x3, e3, _, w3⟩ := DataW.trod_int hE g3
  obtain ⟨x4, e4, _, w4⟩ := DataW.trod_int hE g4
  simp at e0 e1 e2 e3 e4
  subst e0 e1 e2 e3 e4
  refine ⟨fun i => match i with | 0 => x0 | 1 => x1 | 2 => x2 | 3 => x3 | _ => x4, rfl, fun i hi => ?_⟩
  match i, hi with
  | 0, _ => exact w0
  | 1, _ => exact w1
  | 2, _ => exact w2
  | 3, _ => exact w3
  | 4, _ => exact w4
end
end Go.Proofs.Ytmhicimjoidonaa
