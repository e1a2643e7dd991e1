/- What the bound of the second form gives: the lengths. No condition. -/
import Derived.Test.YtmnleblbandghaaLib
namespace Go.Proofs.Ytmnleblbandghaa
theorem one_le_bulk {H : Type} (d : DataW H) : 1 ≤ Rows.uptoBulk d := by
  cases d with
  | lit l => cases l <;> simp [Rows.uptoBulk]
  | nil => simp [Rows.uptoBulk]
  | ptr d => simp [Rows.uptoBulk]
  | slice elems spare => simp [Rows.uptoBulk]
  | agg parts => simp [Rows.uptoBulk]
  | iface t d => simp [Rows.uptoBulk]
  | map entries => simp [Rows.uptoBulk]
  | held h => simp [Rows.uptoBulk]
theorem bulk_part {H : Type} {d : DataW H} {l : List (DataW H)} (h : d ∈ l) : Rows.uptoBulk d ≤ Rows.uptoBulkAll l := by
  induction l with
  | nil => cases h
  | cons x r ih =>
    simp only [Rows.uptoBulkAll]
    cases List.mem_cons.1 h with
    | inl e => subst e; omega
    | inr e => have := ih e; omega
theorem length_le_bulk {H : Type} (l : List (DataW H)) : l.length ≤ Rows.uptoBulkAll l := by
  induction l with
  | nil => simp [Rows.uptoBulkAll]
  | cons x r ih => have := one_le_bulk x; simp only [Rows.uptoBulkAll, List.length_cons]; omega
theorem Sl.bulk {H : Type} {d : DataW H} {n c : Nat} (s : Sl d n c) {B : Nat} (h : Rows.uptoBulk d ≤ B) : c ≤ B := by
  rcases s with ⟨_, _, rfl⟩ | ⟨el, sp, rfl, h1, h2⟩
  · exact Nat.zero_le _
  · have a := length_le_bulk el
    have b := length_le_bulk sp
    simp only [Rows.uptoBulk] at h
    omega
end Go.Proofs.Ytmnleblbandghaa
