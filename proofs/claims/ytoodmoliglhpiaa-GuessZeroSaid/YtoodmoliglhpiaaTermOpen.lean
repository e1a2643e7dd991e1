/- Slices of records of a number and a slice of numbers, opened. No condition. -/
import Derived.Test.YtoodmoliglhpiaaRowsOf
namespace Go.Proofs.Ytoodmoliglhpiaa
open Go.ChangeShapes Go.WideShapes Go.ChangeAt Go.RowKit
set_option linter.unusedVariables false
/-- a term's record -/
structure ST where
  t : Int
  s : SI
def ST.good (W : World) (d : ST) : Prop := (Lit.int .i64 d.t).wf = true ∧ d.s.good W
def ST.nil : ST := ⟨0, SI.nil⟩
theorem ST.nil_good (W : World) : ST.nil.good W := ⟨by decide, SI.nil_good W⟩
theorem ST.good.below {W w : World} {d : ST} (h : d.good W) (hb : Below W.heap.size W w) : d.good w := ⟨h.1, h.2.below hb⟩
/-- the cells of a slice of such records -/
def tcF (D : Nat → ST) (q : Nat) : Value := match q % 2 with | 0 => .int .i64 (D (q / 2)).t | _ => (D (q / 2)).s.val
section
variable {H : Type} {enc : TypeId × Value → H} {P : Program} {W : World} {base : Nat} {held : Bool}
theorem term_of {T I Q : TypeId} {f0 f1 : Field} {m : Nat} {cs : List Value} {x : DataW H × List MemPlace} (hT : P.underlying T = some (.struct #[f0, f1])) (h0 : f0.type = I) (h1 : f1.type = Q)
    (o0 : f0.offset = 0) (o1 : f1.offset = 1) (hI : P.underlying I = some (.int .i64)) (hCI : P.cellsOf I = 1) (hQ : P.underlying Q = some (.slice I)) (hCQ : P.cellsOf Q = 1)
    (hl : cs.length = 2) (h : DataW.trod enc P W base (fun _ => true) held m T cs = some x) :
    ∃ d : ST, cs = [.int .i64 d.t, d.s.val] ∧ d.good W := by
  obtain ⟨xs, n, _, _, _, hxl, hi⟩ := DataW.trod_struct hT h
  have hx6 : xs.length = 2 := hxl
  have g0 := hi 0 f0 rfl
  have g1 := hi 1 f1 rfl
  rw [h0, o0, hCI, List.getElem?_eq_getElem (by omega)] at g0
  rw [h1, o1, hCQ, List.getElem?_eq_getElem (by omega)] at g1
  obtain ⟨t, e0, _, w0⟩ := DataW.trod_int hI g0
  obtain ⟨s, e1, hg⟩ := ints_of hQ hI hCI g1
  match cs, hl with
  | [c0, c1], _ =>
    simp at e0 e1
    subst e0 e1
    exact ⟨⟨t, s⟩, rfl, w0, hg⟩
theorem open_terms {L T I Q : TypeId} {f0 f1 : Field} {v : Value} {d : DataW H} {p : List MemPlace} (hL : P.underlying L = some (.slice T)) (hCT : P.cellsOf T = 2) (hT : P.underlying T = some (.struct #[f0, f1])) (h0 : f0.type = I) (h1 : f1.type = Q)
    (o0 : f0.offset = 0) (o1 : f1.offset = 1) (hI : P.underlying I = some (.int .i64)) (hCI : P.cellsOf I = 1) (hQ : P.underlying Q = some (.slice I)) (hCQ : P.cellsOf Q = 1)
    (hok : ∃ a n c, v = .slice a n c) (h : DataW.Trod enc P W base (fun _ => true) held L v d p) :
    ∃ (A : Option Addr) (n c : Nat) (D : Nat → ST), v = .slice A n c ∧ Rd W A (n * 2) (tcF D) ∧ (∀ i, (D i).good W) ∧ Sl d n c ∧ n ≤ c ∧ c ≤ maxLen := by
  obtain ⟨A, n, c, V, hv, hr, hs, hl, hm, hi⟩ := open_blocks hL hCT (by omega) hok h
  obtain ⟨F, hF⟩ := fn_of (n := n) (Q := fun i (d : ST) => (i < n → V (i * 2) = .int .i64 d.t ∧ V (i * 2 + 1) = d.s.val) ∧ d.good W) ST.nil (fun i hi => ⟨fun h => absurd h (by omega), ST.nil_good W⟩) (fun i hin => by
    obtain ⟨y, m, hy⟩ := hi i hin
    obtain ⟨d, e, hg⟩ := term_of hT h0 h1 o0 o1 hI hCI hQ hCQ (by simp) hy
    simp [List.range_succ] at e
    exact ⟨d, fun _ => e, hg⟩)
  refine ⟨A, n, c, F, hv, hr.congr fun q hq => ?_, fun i => (hF i).2, hs, hl, hm⟩
  obtain ⟨k0, k1⟩ := (hF (q / 2)).1 (by omega)
  have hc : q % 2 = 0 ∨ q % 2 = 1 := by omega
  unfold tcF
  rcases hc with e | e <;> rw [e]
  · rw [show q / 2 * 2 = q by omega] at k0; exact k0
  · rw [show q / 2 * 2 + 1 = q by omega] at k1; exact k1
end
/-- a record's cells -/
theorem tc_at {D : Nat → ST} {w : World} {b o n i : Nat} (h : Rd w (some ⟨b, o, none⟩) (n * 2) (tcF D)) (hi : i < n) : w.cell? ⟨b, o + i * 2, none⟩ = some (.int .i64 (D i).t) ∧ w.cell? ⟨b, o + i * 2 + 1, none⟩ = some (D i).s.val := by
  have g : ∀ q, q < 2 → w.cell? ⟨b, o + (i * 2 + q), none⟩ = some (tcF D (i * 2 + q)) := fun q hq => by
    obtain ⟨b', o', e, _, hc⟩ := h.at_ (show i * 2 + q < n * 2 by omega)
    cases e
    exact hc
  have g0 := g 0 (by omega)
  have g1 := g 1 (by omega)
  unfold tcF at g0 g1
  rw [show (i * 2 + 0) % 2 = 0 by omega, show (i * 2 + 0) / 2 = i by omega] at g0
  rw [show (i * 2 + 1) % 2 = 1 by omega, show (i * 2 + 1) / 2 = i by omega] at g1
  exact ⟨g0, g1⟩
end Go.Proofs.Ytoodmoliglhpiaa
