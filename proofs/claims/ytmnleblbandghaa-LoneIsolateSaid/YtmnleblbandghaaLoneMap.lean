/- A map[uint32]bool of the call's own, as a function. No condition. -/
import Derived.Test.YtmnleblbandghaaLib
import Derived.Maps.Own
import Derived.Below
import Derived.Maps.OwnSet
import Derived.Maps.OwnOps
import Derived.Maps.Views
namespace Go.Proofs.Ytmnleblbandghaa
open Go.ChangeShapes Go.WideShapes Go.ChangeAt Go.RowKit Go.Maps
set_option linter.unusedVariables false
def MapUD (D : DataW Unit) (f : Int → Bool) : Prop := ∀ x, D.atKey (.int .u32 x) (.lit (.bool false)) = .lit (.bool (f x))
/-- the map at block b reads as f, with at most n entries -/
def MapU (w : World) (b n : Nat) (f : Int → Bool) : Prop :=
  ∃ D : DataW Unit, w.ownsMap Try.prog 27 (plainElem Try.prog 4) b n D ∧ MapUD D f
theorem MapU.made (w : World) : MapU (w.alloc (.map #[] 0)) w.heap.size 0 (fun _ => false) := ⟨_, World.ownsMap_made _ _ _ _, fun _ => rfl⟩
theorem MapU.kept {w w' : World} {b n : Nat} {f : Int → Bool} {row : Option Nat} (h : MapU w b n f) (hg : w.grownBy w' row) (hne : some b ≠ row) : MapU w' b n f := by
  obtain ⟨D, h1, h2⟩ := h; exact ⟨D, h1.kept hg hne, h2⟩
theorem MapU.below {w w' : World} {b n : Nat} {f : Int → Bool} (h : MapU w b n f) (hb : Below w.heap.size w w') : MapU w' b n f :=
  h.kept (row := none) ⟨hb.os, hb.tape, hb.output, hb.size, fun i hi _ => hb.block i hi⟩ (by simp)
theorem MapU.mono {w : World} {b n m : Nat} {f : Int → Bool} (h : MapU w b n f) (hm : n ≤ m) : MapU w b m f := by
  obtain ⟨D, h1, h2⟩ := h; exact ⟨D, h1.mono hm, h2⟩
theorem MapU.lt {w : World} {b n : Nat} {f : Int → Bool} (h : MapU w b n f) : b < w.heap.size := by
  obtain ⟨D, h1, h2⟩ := h; exact h1.lt
theorem putU_reads {D : DataW Unit} {f : Int → Bool} (hm : IsMap D) (h : MapUD D f) (y : Int) (v : Bool) (hk : WideAt.IsKeyLit (.int .u32 y)) :
    MapUD (D.put (.int .u32 y) (.lit (.bool v))) (fun x => if x = y then v else f x) := by
  intro x
  show _ = DataW.lit (.bool (if x = y then v else f x))
  by_cases e : x = y
  · subst e; rw [if_pos rfl]; exact atKey_put_same hm hk _ _
  · rw [if_neg e, atKey_put_other (by intro h; cases h; exact e rfl)]; exact h x
theorem keyU_int {x : Int} (hx : (Lit.int .u32 x).wf = true) : keyOf Try.prog 27 (.int .u32 x) = some (.int .u32 x) := by
  simp [keyOf, mapKey, Try.underlying27, hx]
theorem kU : Keyed Try.prog 27 := int_keyed Try.underlying27
theorem plainElem_bool_inv {P : Program} {e : TypeId} (he : P.underlying e = some .bool) {v : Value} {z : DataW Unit × List MemPlace} (h : plainElem P e v = some z) : ∃ a, v = .bool a ∧ z = (.lit (.bool a), []) := by
  unfold plainElem at h
  rw [he] at h
  cases v <;> simp at h
  exact ⟨_, rfl, h.symm⟩
theorem MapU.look {w : World} {b n : Nat} {f : Int → Bool} (h : MapU w b n f) {x : Int} (wx : (Lit.int .u32 x).wf = true) :
    Sem.run Try.prog (Instr.lookup 53 (.map (some b)) (.int .u32 x) false) w = .ok (.bool (f x)) w := by
  obtain ⟨D, hD, hr⟩ := h
  obtain ⟨v, ps, hrun, hv⟩ := hD.lookup kU Try.underlying53 (z := .bool false) (by go_simp) (plainElem_bool Try.underlying4 false) (keyU_int wx)
  obtain ⟨a, rfl, hz⟩ := plainElem_bool_inv Try.underlying4 hv
  have h1 := hr x
  injection hz with hz _
  rw [h1] at hz
  injection hz with hz
  injection hz with hz
  rw [hz]; exact hrun
end Go.Proofs.Ytmnleblbandghaa
