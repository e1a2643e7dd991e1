/- slices.Clone of gates: a slice of the call's own. Condition: it reads as told, and is not long. -/
import Derived.Test.YtklhbmlcpjlgiaaPut
import Derived.WalkSpells
import Derived.WalkLawsBesides
namespace Go.Proofs.Ytklhbmlcpjlgiaa
open Go.ChangeShapes Go.WideShapes Go.ChangeAt Go.RowKit
set_option linter.unusedVariables false
set_option maxRecDepth 100000 in
theorem cloneG_any (A : Option Addr) (m c : Nat) (F : Nat → Int) (w : World) (h : Rd w A (m * 3) (fun q => .int .i64 (F q))) (hm : m ≤ 1000000) :
    Calls Try.prog 19 #[.slice A m c] w fun e w' => ∃ A' c', e = .returned (.slice A' m c') ∧ Own w' w.heap.size 59 3 A' m c' (m * 3) (fun q => .int .i64 (F q)) ∧ Below w.heap.size w w' := by
  have hnil := fun (W : World) (a : Option Addr) (n c : Nat) => Lib.run_eql_slice_nil (P := Try.prog) W 30 59 a n c 0 0 Try.underlying30
  cases A with
  | none =>
    obtain rfl : m = 0 := by
      rcases Nat.eq_zero_or_pos m with h0 | h0
      · exact h0
      · obtain ⟨b, off, e, _⟩ := h (by omega); cases e
    go_enter Try.func19, Try.ntmps19
    go_wp2_with fail
    go_ret
    exact ⟨_, _, rfl, by rw [Nat.zero_mul]; exact Own.nil _ _ _ _ _, Below.refl _ _⟩
  | some a =>
    go_enter Try.func19, Try.ntmps19
    go_wp2_with (at_builtin; refine wpList_app _ rfl (.tmp 5) (.tmp 6) 30 rfl EGp rfl (Own.empty w w.heap.size 59 3 (fun _ => .int .i64 0) (Nat.le_refl _)) rfl (l := m * 3) rfl (h.alloc _) (fun _ _ => rfl) (by unfold maxLen; omega) (by omega) (by simp) m (m * 3) (by omega) (by omega) ?_; intro A2 c2 w2 hown2 hg2 hat2 hbl2)
    go_ret
    exact ⟨_, _, rfl, hown2.congr (fun i hi => by rw [cat_ge (Nat.zero_le _), Nat.sub_zero]), ((Below.refl w.heap.size w).alloc (Nat.le_refl _) _).trans hbl2⟩
end Go.Proofs.Ytklhbmlcpjlgiaa
