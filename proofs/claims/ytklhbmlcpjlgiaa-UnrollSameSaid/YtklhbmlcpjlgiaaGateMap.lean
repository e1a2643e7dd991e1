/- A map[api.Gate]int of the call's own. No condition. -/
import Derived.Test.YtklhbmlcpjlgiaaLib
import Derived.Maps.Own
import Derived.Below
import Derived.Maps.OwnSet
import Derived.Maps.OwnOps
import Derived.Maps.Views
import Derived.DeepKeys4
namespace Go.Proofs.Ytklhbmlcpjlgiaa
open Go.ChangeShapes Go.WideShapes Go.ChangeAt Go.RowKit Go.Maps
set_option linter.unusedVariables false
theorem laidOutG : laidOutB Try.prog = true := by kernel_rfl
theorem rowG : (59 : TypeId) < Try.prog.types.size := of_decide_eq_true (by kernel_rfl)
theorem wideG : (match Try.prog.underlying 59 with | some (.array _ _) | some (.struct _) => true | _ => false) = true := by rw [Try.underlying59]
theorem kG : Keyed Try.prog 59 := Keyed.of_law (deep_law_laid laidOutG (m := 2) (by omega) rowG (by kernel_rfl) wideG)
def gk (a b c : Int) : Lit := .string (keyBytes [.int .i64 a, .int .i64 b, .int .i64 c])
theorem gkey {a b c : Int} (ha : (Lit.int .i64 a).wf = true) (hb : (Lit.int .i64 b).wf = true) (hc : (Lit.int .i64 c).wf = true) : keyOf Try.prog 59 (.agg #[.int .i64 a, .int .i64 b, .int .i64 c]) = some (gk a b c) := by
  have h1 : Try.prog.keyType 59 = true := by kernel_rfl
  have h2 : Try.prog.cellsOf 59 = 3 := by kernel_rfl
  have h3 : Try.prog.cellsOf 3 = 1 := by kernel_rfl
  obtain ⟨m, hm⟩ : ∃ m, Try.prog.types.size + 1 = m + 2 := ⟨Try.prog.types.size - 1, by have h : (59 : Nat) < Try.prog.types.size := rowG; omega⟩
  unfold keyOf
  rw [Try.underlying59, hm]
  simp [h1, Value.formed, Try.underlying59, h2, h3, Program.keyLits, Try.underlying3, Value.cells, ha, hb, hc, gk]
theorem gk_inj {a b c a' b' c' : Int} (ha : (Lit.int .i64 a).wf = true) (hb : (Lit.int .i64 b).wf = true) (hc : (Lit.int .i64 c).wf = true) (ha' : (Lit.int .i64 a').wf = true) (hb' : (Lit.int .i64 b').wf = true) (hc' : (Lit.int .i64 c').wf = true) (e : gk a b c = gk a' b' c') : a = a' ∧ b = b' ∧ c = c' := by
  have h1 := gkey ha hb hc
  have h2 := gkey ha' hb' hc'
  rw [← e] at h2
  have := kG.inj h1 h2
  simpa using this
/-- the map at block b has, of gates that are there, their numbers; at most m entries -/
def MapG (w : World) (b m n : Nat) (F : Nat → Int) : Prop :=
  ∃ D : DataW Unit, w.ownsMap Try.prog 59 (plainElem Try.prog 3) b m D ∧ ∀ x y z : Int, (Lit.int .i64 x).wf = true → (Lit.int .i64 y).wf = true → (Lit.int .i64 z).wf = true → has D (gk x y z) = true →
    ∃ i : Nat, i < n ∧ D.atKey (gk x y z) (.lit (.int .i64 0)) = .lit (.int .i64 (i : Nat)) ∧ F (3 * i) = x ∧ F (3 * i + 1) = y ∧ F (3 * i + 2) = z
theorem MapG.made (w : World) (n : Nat) (F : Nat → Int) : MapG (w.alloc (.map #[] 0)) w.heap.size 0 n F := ⟨_, World.ownsMap_made _ _ _ _, fun x y z _ _ _ h => by cases h⟩
theorem MapG.kept {w w' : World} {b m n : Nat} {F : Nat → Int} {row : Option Nat} (h : MapG w b m n F) (hg : w.grownBy w' row) (hne : some b ≠ row) : MapG w' b m n F := by
  obtain ⟨D, h1, h2⟩ := h; exact ⟨D, h1.kept hg hne, h2⟩
theorem MapG.below {w w' : World} {b m n : Nat} {F : Nat → Int} (h : MapG w b m n F) (hb : Below w.heap.size w w') : MapG w' b m n F :=
  h.kept (row := none) ⟨hb.os, hb.tape, hb.output, hb.size, fun i hi _ => hb.block i hi⟩ (by simp)
theorem MapG.lt {w : World} {b m n : Nat} {F : Nat → Int} (h : MapG w b m n F) : b < w.heap.size := by
  obtain ⟨D, h1, h2⟩ := h; exact h1.lt
theorem MapG.obj {w : World} {b m n : Nat} {F : Nat → Int} (h : MapG w b m n F) : ∃ es c, w.heap[b]? = some (.map es c) := by
  obtain ⟨D, ⟨es, c, h1, _⟩, _⟩ := h; exact ⟨es, c, h1⟩
theorem MapG.grow {w : World} {b m n m' n' : Nat} {F F' : Nat → Int} (h : MapG w b m n F) (hm : m ≤ m') (hn : n ≤ n') (hF : ∀ q, q < 3 * n → F' q = F q) : MapG w b m' n' F' := by
  obtain ⟨D, h1, h2⟩ := h
  exact ⟨D, h1.mono hm, fun x y z hx hy hz hh => by
    obtain ⟨i, hi, e0, e1, e2, e3⟩ := h2 x y z hx hy hz hh
    exact ⟨i, by omega, e0, by rw [hF _ (by omega)]; exact e1, by rw [hF _ (by omega)]; exact e2, by rw [hF _ (by omega)]; exact e3⟩⟩
theorem MapG.put {w' : World} {b m n : Nat} {F : Nat → Int} {x y z : Int} {D : DataW Unit} (hx : (Lit.int .i64 x).wf = true) (hy : (Lit.int .i64 y).wf = true) (hz : (Lit.int .i64 z).wf = true)
    (h2 : ∀ x y z : Int, (Lit.int .i64 x).wf = true → (Lit.int .i64 y).wf = true → (Lit.int .i64 z).wf = true → has D (gk x y z) = true → ∃ i : Nat, i < n ∧ D.atKey (gk x y z) (.lit (.int .i64 0)) = .lit (.int .i64 (i : Nat)) ∧ F (3 * i) = x ∧ F (3 * i + 1) = y ∧ F (3 * i + 2) = z)
    (hD : IsMap D) (h1 : w'.ownsMap Try.prog 59 (plainElem Try.prog 3) b m (D.put (gk x y z) (.lit (.int .i64 (n : Nat))))) (e0 : F (3 * n) = x) (e1 : F (3 * n + 1) = y) (e2 : F (3 * n + 2) = z) : MapG w' b m (n + 1) F := by
  refine ⟨_, h1, fun x' y' z' hx' hy' hz' hh => ?_⟩
  by_cases e : gk x' y' z' = gk x y z
  · obtain ⟨rfl, rfl, rfl⟩ := gk_inj hx' hy' hz' hx hy hz e
    exact ⟨n, by omega, atKey_put_same hD (kG.key (gkey hx hy hz)) _ _, e0, e1, e2⟩
  · rw [has_put_other e] at hh
    obtain ⟨i, hi, a0, a1, a2, a3⟩ := h2 x' y' z' hx' hy' hz' hh
    exact ⟨i, by omega, by rw [atKey_put_other e]; exact a0, a1, a2, a3⟩
end Go.Proofs.Ytklhbmlcpjlgiaa
