/- A slice of the call's own that is not empty is a row. No condition. -/
import Derived.Test.YtklhbmlcpjlgiaaApp
namespace Go.Proofs.Ytklhbmlcpjlgiaa
open Go.ChangeShapes Go.WideShapes Go.ChangeAt Go.RowKit
/-- a slice of the call's own that is not empty is a row -/
theorem Own.row {w : World} {base : Nat} {e : TypeId} {A : Option Addr} {n c : Nat} {C : Nat → Value} (h : Own w base e 1 A n c n C) (hn : 0 < n) :
    ∃ g F, A = some ⟨g, 0, none⟩ ∧ base ≤ g ∧ w.rowIs g e c F ∧ n ≤ c ∧ ∀ i, i < n → F i = C i := by
  rcases h.1.2 with ⟨_, h0⟩ | ⟨g, cap, cur, hv, hb, hg, hnc, hc, hs, ht⟩
  · omega
  · injection hv with hA _ hcc
    subst hA; subst hcc
    refine ⟨g, fun i => (cur[i]?).getD default, rfl, hb, ⟨cur, hg, by simpa using hs, fun i hi => ?_⟩, hnc, fun i hi => ?_⟩
    · have : i < cur.size := by omega
      simp [this]
    · have hr := h.rd.at_ hi
      obtain ⟨b, off, e1, _, hcell⟩ := hr
      simp at e1
      obtain ⟨rfl, rfl⟩ := e1
      rw [Nat.zero_add, cell_of_row w g i cur e (0, 0) hg] at hcell
      show (cur[i]?).getD default = _
      rw [hcell]; rfl
end Go.Proofs.Ytklhbmlcpjlgiaa
