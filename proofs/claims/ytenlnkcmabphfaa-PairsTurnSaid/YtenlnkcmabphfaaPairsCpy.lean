/- A copy of a square's rows in a slice of the call's own, one of them changed. No condition. -/
import Derived.Test.YtenlnkcmabphfaaPairsSigned
import Derived.Test.YtenlnkcmabphfaaPairsSq
namespace Go.Proofs.Ytenlnkcmabphfaa
open Go.ChangeShapes Go.WideShapes Go.ChangeAt Go.RowKit
set_option linter.unusedVariables false
theorem ENt : Elem Try.prog 24 3 1 8 := Elem.of Try.underlying24 (by kernel_rfl : (Try.prog.info? 3).map (fun i => (i.zero, i.size, i.bytes)) = some (some (.int .i64 0), 1, 8)) rfl (by omega)
/-- a slice of rows V, at block og -/
structure Cpy (W : World) (B og oc n : Nat) (V : Nat → SI) : Prop where
  row : ∃ G : Nat → Value, W.rowIs og 24 oc G ∧ ∀ q, q < n → G q = (V q).val
  le : n ≤ oc
  ge : B ≤ og
theorem Cpy.of {W : World} {B : Nat} {A : Option Addr} {n oc : Nat} {C : Nat → Value} {V : Nat → SI} (h : Own W B 24 1 A n oc n C) (hn : 0 < n) (hV : ∀ q, q < n → C q = (V q).val) : ∃ og, A = some ⟨og, 0, none⟩ ∧ Cpy W B og oc n V := by
  obtain ⟨g, F, e, hb, hr, hnc, hF⟩ := h.row hn
  exact ⟨g, e, ⟨F, hr, fun q hq => by rw [hF q hq, hV q hq]⟩, hnc, hb⟩
theorem Cpy.lt {W : World} {B og oc n : Nat} {V : Nat → SI} (h : Cpy W B og oc n V) : og < W.heap.size := by obtain ⟨G, hr, _⟩ := h.row; exact hr.lt
theorem Cpy.cell {W : World} {B og oc n : Nat} {V : Nat → SI} (h : Cpy W B og oc n V) {q : Nat} (hq : q < n) : W.cell? ⟨og, q, none⟩ = some (V q).val ∧ W.frozen? ⟨og, q, none⟩ = false := by
  obtain ⟨G, hr, hG⟩ := h.row
  exact ⟨by rw [hr.cell (show q < oc by have := h.le; omega), hG q hq], hr.frozen q⟩
theorem Cpy.rd {W : World} {B og oc n : Nat} {V : Nat → SI} (h : Cpy W B og oc n V) : Rd W (some ⟨og, 0, none⟩) n (fun q => (V q).val) := fun _ =>
  ⟨og, 0, rfl, h.lt, fun q hq => by rw [Nat.zero_add]; exact (h.cell hq).1⟩
theorem Cpy.below {W W' : World} {B og oc n : Nat} {V : Nat → SI} (h : Cpy W B og oc n V) (hb : Below W.heap.size W W') : Cpy W' B og oc n V := by
  obtain ⟨G, hr, hG⟩ := h.row
  exact ⟨⟨G, hr.of_block (hb.block _ hr.lt), hG⟩, h.le, h.ge⟩
theorem Cpy.set {W : World} {B og oc n : Nat} {V : Nat → SI} (h : Cpy W B og oc n V) (k : Nat) (s : SI) : Cpy (W.setCell ⟨og, k, none⟩ s.val) B og oc n (fun q => if q = k then s else V q) := by
  obtain ⟨G, hr, hG⟩ := h.row
  exact ⟨⟨_, hr.set k s.val, fun q hq => by
    by_cases e : q = k
    · rw [if_pos e, if_pos e]
    · rw [if_neg e, if_neg e]; exact hG q hq⟩, h.le, h.ge⟩
theorem sum_app {W : World} {B j sc : Nat} {S : Option Addr} {C D : Nat → Value} {f : Nat → Int} (h : Own W B 3 1 S (j + 1) sc (j + 1) (cat j C D)) (hC : ∀ q, q < j → C q = .int .i64 (f q)) (hD : D 0 = .int .i64 (f j)) : Own W B 3 1 S (j + 1) sc (j + 1) (fun q => .int .i64 (f q)) :=
  h.congr fun q hq => by
    by_cases e : q < j
    · rw [cat_lt e, hC q e]
    · obtain rfl : q = j := by omega
      rw [cat_ge (Nat.le_refl _), Nat.sub_self, hD]
/-- what is told of a square -/
def svP (e : Int) (n : Nat) (V : Nat → SI) : Int := dt e n (mtW V)
theorem sv_bd {e : Int} (he : e = 1 ∨ e = -1) {n : Nat} {V : Nat → SI} (h : pwE n V = 0) : -46080000000 ≤ svP e n V ∧ svP e n V ≤ 46080000000 := by
  obtain ⟨h1, _, h3⟩ := pwE_zero h
  have a := dt_bd e 20 he (n := n) (A := mtW V) fun i hi j hj => h3 i hi j hj
  have b := (bd20 n h1.2).2
  unfold svP
  omega
theorem ways_ok {n c : Nat} {A : Option Addr} {V : Nat → SI} {w : World} (h : GrP w A n V) (h0 : pwE n V = 0) : Calls Try.prog 13 #[.slice A n c] w fun e w' => e = .returned (.tuple #[.int .i64 (svP 1 n V), .int .i64 0]) ∧ Below w.heap.size w w' := by
  have := ways_any A n c V w h (by have := (pwE_zero h0).1.2; unfold maxLen; omega)
  rw [if_pos h0, h0] at this; exact this
theorem signed_ok {n c : Nat} {A : Option Addr} {V : Nat → SI} {w : World} (h : GrP w A n V) (h0 : pwE n V = 0) : Calls Try.prog 14 #[.slice A n c] w fun e w' => e = .returned (.tuple #[.int .i64 (svP (-1) n V), .int .i64 0]) ∧ Below w.heap.size w w' := by
  have := signed_any A n c V w h (by have := (pwE_zero h0).1.2; unfold maxLen; omega)
  rw [if_pos h0, h0] at this; exact this
end Go.Proofs.Ytenlnkcmabphfaa
