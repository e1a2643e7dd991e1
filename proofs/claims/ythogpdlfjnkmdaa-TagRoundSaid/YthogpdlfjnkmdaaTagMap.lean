/- A map[string]int of the call's own, whose keys are words: to each key it holds the number of a word with that key. No condition. -/
import Derived.Test.YthogpdlfjnkmdaaTagKey
import Derived.Maps.Own
import Derived.Maps.OwnSet
import Derived.Maps.OwnOps
import Derived.Maps.Views
import Derived.StringKeys
namespace Go.Proofs.Ythogpdlfjnkmdaa
open Go.ChangeShapes Go.WideShapes Go.ChangeAt Go.RowKit Go.Maps
set_option linter.unusedVariables false
/-- each key is a word's, with its number, one below i -/
def MapWD (D : DataW Unit) (J : Nat → List Int) (i : Nat) : Prop := ∀ q, Maps.has D (.string q) = true → ∃ j, j < i ∧ q = kyB (J j) ∧ D.atKey (.string q) (.lit (.int .i64 0)) = .lit (.int .i64 (j : Nat))
def MapW (w : World) (b n : Nat) (J : Nat → List Int) (i : Nat) : Prop :=
  ∃ D : DataW Unit, w.ownsMap Try.prog 9 (plainElem Try.prog 3) b n D ∧ MapWD D J i
theorem MapW.made (w : World) (J : Nat → List Int) : MapW (w.alloc (.map #[] 0)) w.heap.size 0 J 0 := ⟨_, World.ownsMap_made _ _ _ _, fun q h => by cases h⟩
theorem MapW.alloc {w : World} {b n i : Nat} {J : Nat → List Int} (h : MapW w b n J i) (o : Obj) : MapW (w.alloc o) b n J i := by
  obtain ⟨D, h1, h2⟩ := h; exact ⟨D, h1.alloc o, h2⟩
theorem MapW.kept {w w' : World} {b n i : Nat} {J : Nat → List Int} {row : Option Nat} (h : MapW w b n J i) (hg : w.grownBy w' row) (hne : some b ≠ row) : MapW w' b n J i := by
  obtain ⟨D, h1, h2⟩ := h; exact ⟨D, h1.kept hg hne, h2⟩
theorem MapW.below {w w' : World} {b n i : Nat} {J : Nat → List Int} (h : MapW w b n J i) (hb : Below w.heap.size w w') : MapW w' b n J i :=
  h.kept (row := none) ⟨hb.os, hb.tape, hb.output, hb.size, fun i hi _ => hb.block i hi⟩ (by simp)
theorem MapW.lt {w : World} {b n i : Nat} {J : Nat → List Int} (h : MapW w b n J i) : b < w.heap.size := by
  obtain ⟨D, h1, h2⟩ := h; exact h1.lt
theorem putW_reads {D : DataW Unit} {J : Nat → List Int} {i : Nat} (hm : IsMap D) (h : MapWD D J i) (hk : WideAt.IsKeyLit (.string (kyB (J i)))) :
    MapWD (D.put (.string (kyB (J i))) (.lit (.int .i64 (i : Nat)))) J (i + 1) := by
  intro q hq
  by_cases e : q = kyB (J i)
  · subst e
    exact ⟨i, by omega, rfl, atKey_put_same hm hk _ _⟩
  · have hne : (Lit.string q) ≠ Lit.string (kyB (J i)) := by intro h; cases h; exact e rfl
    rw [has_put_other hne] at hq
    obtain ⟨j, hj, hqj, ha⟩ := h q hq
    exact ⟨j, by omega, hqj, by rw [atKey_put_other hne]; exact ha⟩
theorem key_str {l : List Int} (hl : l.length ≤ maxLen) : keyOf Try.prog 9 (.string (kyS l)) = some (.string (kyB l)) := by
  have := Go.WideMaps.keyOf_string_mk (P := Try.prog) (k := 9) Try.underlying9 (s := kyS l) (by show (kyB l).toArray.size ≤ _; unfold kyB; simpa using hl)
  simpa [kyS] using this
theorem kS : Keyed Try.prog 9 := Go.Maps.string_keyed Try.underlying9
end Go.Proofs.Ythogpdlfjnkmdaa
