/- Slices of records of five numbers and a slice of numbers, opened. No condition. -/
import Derived.Test.YtjnoolfdlgocjaaRowsOf
namespace Go.Proofs.Ytjnoolfdlgocjaa
open Go.ChangeShapes Go.WideShapes Go.ChangeAt Go.RowKit
set_option linter.unusedVariables false
/-- a function's record -/
structure SF where
  k : Int
  a : Int
  p : Int
  x : Int
  y : Int
  s : SI
def SF.good (W : World) (d : SF) : Prop := ((Lit.int .i64 d.k).wf = true ∧ (Lit.int .i64 d.a).wf = true ∧ (Lit.int .i64 d.p).wf = true ∧ (Lit.int .i64 d.x).wf = true ∧ (Lit.int .i64 d.y).wf = true) ∧ d.s.good W
def SF.nil : SF := ⟨0, 0, 0, 0, 0, SI.nil⟩
theorem SF.nil_good (W : World) : SF.nil.good W := ⟨⟨by decide, by decide, by decide, by decide, by decide⟩, SI.nil_good W⟩
theorem SF.good.below {W w : World} {d : SF} (h : d.good W) (hb : Below W.heap.size W w) : d.good w := ⟨h.1, h.2.below hb⟩
/-- the cells of a slice of such records -/
def fcF (D : Nat → SF) (q : Nat) : Value := match q % 6 with | 0 => .int .i64 (D (q / 6)).k | 1 => .int .i64 (D (q / 6)).a | 2 => .int .i64 (D (q / 6)).p | 3 => .int .i64 (D (q / 6)).x | 4 => .int .i64 (D (q / 6)).y | _ => (D (q / 6)).s.val
section
variable {H : Type} {enc : TypeId × Value → H} {P : Program} {W : World} {base : Nat} {held : Bool}
theorem func_of {T I Q : TypeId} {f0 f1 f2 f3 f4 f5 : Field} {m : Nat} {cs : List Value} {x : DataW H × List MemPlace} (hT : P.underlying T = some (.struct #[f0, f1, f2, f3, f4, f5])) (h0 : f0.type = I) (h1 : f1.type = I) (h2 : f2.type = I) (h3 : f3.type = I) (h4 : f4.type = I) (h5 : f5.type = Q)
    (o0 : f0.offset = 0) (o1 : f1.offset = 1) (o2 : f2.offset = 2) (o3 : f3.offset = 3) (o4 : f4.offset = 4) (o5 : f5.offset = 5) (hI : P.underlying I = some (.int .i64)) (hCI : P.cellsOf I = 1) (hQ : P.underlying Q = some (.slice I)) (hCQ : P.cellsOf Q = 1)
    (hl : cs.length = 6) (h : DataW.trod enc P W base (fun _ => true) held m T cs = some x) :
    ∃ d : SF, cs = [.int .i64 d.k, .int .i64 d.a, .int .i64 d.p, .int .i64 d.x, .int .i64 d.y, d.s.val] ∧ d.good W := by
  obtain ⟨xs, n, _, _, _, hxl, hi⟩ := DataW.trod_struct hT h
  have hx6 : xs.length = 6 := hxl
  have g0 := hi 0 f0 rfl
  have g1 := hi 1 f1 rfl
  have g2 := hi 2 f2 rfl
  have g3 := hi 3 f3 rfl
  have g4 := hi 4 f4 rfl
  have g5 := hi 5 f5 rfl
  rw [h0, o0, hCI, List.getElem?_eq_getElem (by omega)] at g0
  rw [h1, o1, hCI, List.getElem?_eq_getElem (by omega)] at g1
  rw [h2, o2, hCI, List.getElem?_eq_getElem (by omega)] at g2
  rw [h3, o3, hCI, List.getElem?_eq_getElem (by omega)] at g3
  rw [h4, o4, hCI, List.getElem?_eq_getElem (by omega)] at g4
  rw [h5, o5, hCQ, List.getElem?_eq_getElem (by omega)] at g5
  obtain ⟨k, e0, _, w0⟩ := DataW.trod_int hI g0
  obtain ⟨a, e1, _, w1⟩ := DataW.trod_int hI g1
  obtain ⟨p, e2, _, w2⟩ := DataW.trod_int hI g2
  obtain ⟨u, e3, _, w3⟩ := DataW.trod_int hI g3
  obtain ⟨y, e4, _, w4⟩ := DataW.trod_int hI g4
  obtain ⟨s, e5, hg⟩ := ints_of hQ hI hCI g5
  match cs, hl with
  | [c0, c1, c2, c3, c4, c5], _ =>
    simp at e0 e1 e2 e3 e4 e5
    subst e0 e1 e2 e3 e4 e5
    exact ⟨⟨k, a, p, u, y, s⟩, rfl, ⟨w0, w1, w2, w3, w4⟩, hg⟩
theorem open_funcs {L T I Q : TypeId} {f0 f1 f2 f3 f4 f5 : Field} {v : Value} {d : DataW H} {p : List MemPlace} (hL : P.underlying L = some (.slice T)) (hCT : P.cellsOf T = 6) (hT : P.underlying T = some (.struct #[f0, f1, f2, f3, f4, f5])) (h0 : f0.type = I) (h1 : f1.type = I) (h2 : f2.type = I) (h3 : f3.type = I) (h4 : f4.type = I) (h5 : f5.type = Q)
    (o0 : f0.offset = 0) (o1 : f1.offset = 1) (o2 : f2.offset = 2) (o3 : f3.offset = 3) (o4 : f4.offset = 4) (o5 : f5.offset = 5) (hI : P.underlying I = some (.int .i64)) (hCI : P.cellsOf I = 1) (hQ : P.underlying Q = some (.slice I)) (hCQ : P.cellsOf Q = 1)
    (hok : ∃ a n c, v = .slice a n c) (h : DataW.Trod enc P W base (fun _ => true) held L v d p) :
    ∃ (A : Option Addr) (n c : Nat) (D : Nat → SF), v = .slice A n c ∧ Rd W A (n * 6) (fcF D) ∧ (∀ i, (D i).good W) ∧ Sl d n c ∧ n ≤ c ∧ c ≤ maxLen := by
  obtain ⟨A, n, c, V, hv, hr, hs, hl, hm, hi⟩ := open_blocks hL hCT (by omega) hok h
  obtain ⟨F, hF⟩ := fn_of (n := n) (Q := fun i (d : SF) => (i < n → V (i * 6) = .int .i64 d.k ∧ V (i * 6 + 1) = .int .i64 d.a ∧ V (i * 6 + 2) = .int .i64 d.p ∧ V (i * 6 + 3) = .int .i64 d.x ∧ V (i * 6 + 4) = .int .i64 d.y ∧ V (i * 6 + 5) = d.s.val) ∧ d.good W) SF.nil (fun i hi => ⟨fun h => absurd h (by omega), SF.nil_good W⟩) (fun i hin => by
    obtain ⟨y, m, hy⟩ := hi i hin
    obtain ⟨d, e, hg⟩ := func_of hT h0 h1 h2 h3 h4 h5 o0 o1 o2 o3 o4 o5 hI hCI hQ hCQ (by simp) hy
    simp [List.range_succ] at e
    exact ⟨d, fun _ => e, hg⟩)
  refine ⟨A, n, c, F, hv, hr.congr fun q hq => ?_, fun i => (hF i).2, hs, hl, hm⟩
  obtain ⟨k0, k1, k2, k3, k4, k5⟩ := (hF (q / 6)).1 (by omega)
  have hc : q % 6 = 0 ∨ q % 6 = 1 ∨ q % 6 = 2 ∨ q % 6 = 3 ∨ q % 6 = 4 ∨ q % 6 = 5 := by omega
  unfold fcF
  rcases hc with e | e | e | e | e | e <;> rw [e]
  · rw [show q / 6 * 6 = q by omega] at k0; exact k0
  · rw [show q / 6 * 6 + 1 = q by omega] at k1; exact k1
  · rw [show q / 6 * 6 + 2 = q by omega] at k2; exact k2
  · rw [show q / 6 * 6 + 3 = q by omega] at k3; exact k3
  · rw [show q / 6 * 6 + 4 = q by omega] at k4; exact k4
  · rw [show q / 6 * 6 + 5 = q by omega] at k5; exact k5
end
end Go.Proofs.Ytjnoolfdlgocjaa
