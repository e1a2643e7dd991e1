/- The builder's own cells are written. No condition. -/
import Derived.Test.YtklhbmlcpjlgiaaUnrInv
namespace Go.Proofs.Ytklhbmlcpjlgiaa
open Go.ChangeShapes Go.WideShapes Go.ChangeAt Go.RowKit Go.Maps
set_option linter.unusedVariables false
set_option linter.unusedSimpArgs false
theorem Own.ofRow {w : World} {base g n c s : Nat} {e : TypeId} {R C : Nat → Value} (hr : w.rowIs g e (c * s) R) (hb : base ≤ g) (hn : n ≤ c) (hc : c ≤ maxLen) (h : ∀ i, i < n * s → R i = C i) : Own w base e s (some ⟨g, 0, none⟩) n c (n * s) C := by
  obtain ⟨cs, h1, h2, h3⟩ := hr
  refine ⟨⟨by simp, .inr ⟨g, c, cs, rfl, hb, h1, hn, hc, h2, ?_⟩⟩, by omega⟩
  apply List.ext_getElem?
  intro i
  by_cases hi : i < n * s
  · have hi2 : i < c * s := Nat.lt_of_lt_of_le hi (Nat.mul_le_mul_right s hn)
    have h4 := h3 i hi2
    rw [List.getElem?_take, if_pos hi, ← Array.getElem?_toList] at *
    rw [h4, h i hi]
    simp [hi]
  · rw [List.getElem?_take, if_neg hi]
    simp [hi]
theorem BS.set {W : World} {bb base n K : Nat} {F : Nat → Int} {RR : Nat → Value} (h : BS W bb base n K F RR) {j : Nat} (hj : 2 ≤ j) (hj7 : j < 7) (v : Value) : BS (W.setCell ⟨bb, j, none⟩ v) bb base n K F (fun i => if i = j then v else RR i) := by
  obtain ⟨A, c, M, R, hm, hR⟩ := h.mker
  have hg := grown_setG W bb j v
  refine ⟨⟨A, c, M, fun i => if i = j then v else R i, ⟨(hm.row.set j v).congr fun i _ => rfl, hm.two, hm.typ, hm.ge, ?_, ?_, hm.own.kept hg fun g hgg e => hm.sep g hgg (Option.some.inj e), fun b hb => ?_⟩, fun i hi => ?_⟩, h.gw⟩
  · show (if 0 = j then v else R 0) = _; rw [if_neg (by omega)]; exact hm.r0
  · show (if 1 = j then v else R 1) = _; rw [if_neg (by omega)]; exact hm.r1
  · obtain ⟨h1, m, h2, h3⟩ := hm.map b hb
    exact ⟨h1, m, h2, h3.kept hg fun e => (hm.mapsep hb).1 (Option.some.inj e)⟩
  · show (if i = j then v else R i) = (if i = j then v else RR i)
    split
    · rfl
    · exact hR i hi
theorem BS.congr {W : World} {bb base n K : Nat} {F : Nat → Int} {RR RR' : Nat → Value} (h : BS W bb base n K F RR) (he : ∀ j, 2 ≤ j → RR j = RR' j) : BS W bb base n K F RR' := by
  obtain ⟨A, c, M, R, hm, hR⟩ := h.mker
  exact ⟨⟨A, c, M, R, hm, fun j hj => by rw [hR j hj, he j hj]⟩, h.gw⟩
theorem BS.re {W : World} {bb base n K : Nat} {F : Nat → Int} {RR RR' : Nat → Value} (h : BS W bb base n K F RR) (he : ∀ j, 2 ≤ j → j < 7 → RR j = RR' j) : BS W bb base n K F RR' := by
  obtain ⟨A, c, M, R, hm, hR⟩ := h.mker
  refine ⟨⟨A, c, M, fun i => if i < 2 then R i else RR' i, ⟨hm.row.congr fun i hi => ?_, hm.two, hm.typ, hm.ge, hm.r0, hm.r1, hm.own, hm.map⟩, fun j hj => if_neg (by omega)⟩, h.gw⟩
  by_cases e : i < 2
  · rw [if_pos e]
  · rw [if_neg e, hR i (by omega), he i (by omega) hi]
/-- rows of another type stand while the builder's cells are written -/
theorem Own.set_bb {W : World} {bb base n K b s j m c k : Nat} {F : Nat → Int} {RR : Nat → Value} {e : TypeId} {A : Option Addr} {C : Nat → Value} {v : Value} (h : Own W b e s A m c k C) (hs : BS W bb base n K F RR) (he : e ≠ 52) : Own (W.setCell ⟨bb, j, none⟩ v) b e s A m c k C := by
  obtain ⟨A0, c0, M0, R0, hm, hR⟩ := hs.mker
  exact h.kept (grown_setG W bb j v) fun g hg e' => h.sepT hm.row (fun e'' => he e''.symm) g hg (Option.some.inj e')
theorem KeepG.set_bb {W W' : World} {bb j : Nat} {v : Value} (h : KeepG bb W W') : KeepG bb W (W'.setCell ⟨bb, j, none⟩ v) := h.trans ⟨by simp [World.setCell], fun g cs t z h1 h2 h3 => (grown_setG W' bb j v).block g (Array.getElem?_eq_some_iff.1 h1).1 fun e => h3 (Option.some.inj e)⟩
end Go.Proofs.Ytklhbmlcpjlgiaa
