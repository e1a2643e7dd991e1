/- The walk of CodeRun. Conditions: the arguments read as told. -/
import Derived.Test.YtmdcfbofjlpbmaaCodeBack
import Derived.Test.YtmdcfbofjlpbmaaCountRun
namespace Go.Proofs.Ytmdcfbofjlpbmaa
open Go.ChangeShapes Go.WideShapes Go.ChangeAt Go.RowKit
set_option linter.unusedVariables false
def cdE (cs : Int) (M : Nat) (g : Nat → Int) (m : Nat) (t : Int) (f : Nat → Int) : Int := if ordE cs M g = 0 then crE cs (M / 4) g m t f else ordE cs M g
/-- what code.Run tells -/
def CRes (cs : Int) (M : Nat) (g : Nat → Int) (m : Nat) (t : Int) (f : Nat → Int) (w : World) (e : Ending) (w' : World) : Prop :=
  Below w.heap.size w w' ∧ ((cdE cs M g m t f ≠ 0 ∧ e = .returned (.tuple #[.slice none 0 0, .int .i64 (cdE cs M g m t f)])) ∨
    (cdE cs M g m t f = 0 ∧ ∃ A c', e = .returned (.tuple #[.slice A m c', .int .i64 0]) ∧ Rd w' A m (fun i => .int .i64 ((runS g (M / 4) f 0 t.toNat).1 i)) ∧ m ≤ c'))
/-- the zeros of 'one more' are of no matter -/
theorem runS_dg (F : Nat → Int) (n : Nat) (f : Nat → Int) (a : Int) : ∀ k, runS (dgF F) n f a k = runS F n f a k
  | 0 => rfl
  | k + 1 => by
    show st1 (dgF F) n (runS (dgF F) n f a k) = st1 F n (runS F n f a k)
    rw [runS_dg F n f a k]
    unfold st1
    split
    · obtain ⟨d0, d1, d2, d3⟩ := dgF_at F (runS F n f a k).2.toNat
      rw [d0, d1, d2, d3]
      unfold tN
      by_cases h : F (4 * (runS F n f a k).2.toNat) = 1
      · simp only [h, if_true]
      · simp only [h, if_false]
    · rfl
def oneF (q : Nat) : Int := if q = 0 ∨ q = 2 then 1 else 0
theorem rdOne (W : World) (e : TypeId) : Rd (W.alloc (.cells #[.int .i64 1, .int .i64 0, .int .i64 1, .int .i64 0] e)) (some ⟨W.heap.size, 0, none⟩) (1 * 4) (fun q => .int .i64 (oneF q)) :=
  (rd4 W rfl (.int .i64 1) (.int .i64 0) (.int .i64 1) (.int .i64 0) e).congr fun i hi => by
    have : i = 0 ∨ i = 1 ∨ i = 2 ∨ i = 3 := by omega
    rcases this with rfl | rfl | rfl | rfl <;> rfl
theorem ckOne : ckO 1 1 oneF = 0 := by decide
end Go.Proofs.Ytmdcfbofjlpbmaa
