/- slices.Clone over ints: a slice of the call's own. Condition: the slice reads as a function, its length is at most 1000000000. -/
import Derived.Test.YtjnoolfdlgocjaaApp
import Derived.WalkSpells
import Derived.WalkLawsBesides
namespace Go.Proofs.Ytjnoolfdlgocjaa
open Go.ChangeShapes Go.WideShapes Go.ChangeAt Go.RowKit
set_option linter.unusedVariables false
theorem EIc : Elem Try.prog 27 3 1 8 := Elem.of Try.underlying27 (by kernel_rfl : (Try.prog.info? 3).map (fun i => (i.zero, i.size, i.bytes)) = some (some (.int .i64 0), 1, 8)) rfl (by omega)
set_option maxRecDepth 100000 in
theorem clone_any (A : Option Addr) (m c : Nat) (f : Nat → Int) (w : World) (h : Rd w A m (fun i => .int .i64 (f i))) (hm : m ≤ 1000000000) :
    Calls Try.prog 19 #[.slice A m c] w fun e w' => ∃ A' c', e = .returned (.slice A' m c') ∧ Own w' w.heap.size 3 1 A' m c' m (fun i => .int .i64 (f i)) ∧ Below w.heap.size w w' := by
  have hnil := fun (W : World) (a : Option Addr) (n c : Nat) => Lib.run_eql_slice_nil (P := Try.prog) W 27 3 a n c 0 0 Try.underlying27
  cases A with
  | none =>
    obtain rfl : m = 0 := by
      rcases Nat.eq_zero_or_pos m with h0 | h0
      · exact h0
      · obtain ⟨b, off, e, _⟩ := h h0; cases e
    go_enter Try.func19, Try.ntmps19
    go_wp2_with fail
    go_ret
    exact ⟨_, _, rfl, Own.nil _ _ _ _ _, Below.refl _ _⟩
  | some a =>
    go_enter Try.func19, Try.ntmps19
    go_wp2_with (at_builtin; refine wpList_app _ rfl (.tmp 5) (.tmp 6) 27 rfl EIc rfl (Own.empty w w.heap.size 3 1 (fun _ => .int .i64 0) (Nat.le_refl _)) rfl (l := m) (by omega) (h.alloc _) (fun _ _ => rfl) (by unfold maxLen; omega) (by omega) (by simp) m m (by omega) (by omega) ?_; intro A2 c2 w2 hown2 hg2 hat2 hbl2)
    go_ret
    exact ⟨_, _, rfl, hown2.congr (fun i hi => by rw [cat_ge (Nat.zero_le _), Nat.sub_zero]), ((Below.refl w.heap.size w).alloc (Nat.le_refl _) _).trans hbl2⟩
end Go.Proofs.Ytjnoolfdlgocjaa
