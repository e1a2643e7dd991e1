/- A machine that may be, as numbers; small facts on worlds. No condition. -/
import Derived.Test.YtklhbmlcpjlgiaaTapeStep
import Derived.Test.YtklhbmlcpjlgiaaTapeLaw
import Derived.Test.YtklhbmlcpjlgiaaInside
import Derived.Maps.RangeWalk
namespace Go.Proofs.Ytklhbmlcpjlgiaa
open Go.ChangeShapes Go.WideShapes Go.ChangeAt Go.RowKit Go.Maps
set_option linter.unusedVariables false
theorem wf_small {x : Int} (h0 : -1000000 ≤ x) (h1 : x ≤ 1000000) : (Lit.int .i64 x).wf = true := by simp [Lit.wf, IntKind.min, IntKind.max, IntKind.signed, IntKind.bits]; omega
theorem grown_set {a c : World} {row : Option Nat} (h : a.grownBy c row) {p : Addr} (hp : a.heap.size ≤ p.block) (v : Value) : a.grownBy (c.setCell p v) row :=
  h.andThen (row' := some p.block) ⟨rfl, rfl, rfl, by simp, fun i hi hne => Deep.blk_setCell_other _ _ _ _ (fun e => hne (by rw [e]))⟩ (fun j hj => by have := Option.some.inj hj; omega)
def TR (R : Nat → SI) : Nat → Nat → Int := fun s => (R s).f
structure Mok (S Y : Int) (n y : Nat) (R : Nat → SI) : Prop where
  hS : S = n
  hY : Y = y
  n1 : 1 ≤ n
  n5 : n ≤ 5
  y2 : 2 ≤ y
  y4 : y ≤ 4
  row : ∀ s, s < n → (R s).n = y
  gt : Gt n y (TR R)
theorem tpE_mok {S Y : Int} {n : Nat} {R : Nat → SI} (h : tpE S Y n R = 0) : ∃ y, Mok S Y n y R := by
  unfold tpE at h
  by_cases h1 : S < 1 ∨ 5 < S ∨ Y < 2 ∨ 4 < Y
  · rw [if_pos h1] at h; omega
  · rw [if_neg h1] at h
    by_cases h2 : (n : Int) ≠ S ∨ anyB (lnB Y R) n = true
    · rw [if_pos h2] at h; omega
    · rw [if_neg h2] at h
      have hn : (n : Int) = S := by
        by_cases e : (n : Int) = S
        · exact e
        · exact absurd (.inl e) h2
      obtain ⟨y, hy⟩ : ∃ y : Nat, Y = y := ⟨Y.toNat, by omega⟩
      subst hy
      have hrow : ∀ s, s < n → (R s).n = y := fun s hs => by
        by_cases e : (R s).n = y
        · exact e
        · exact absurd (.inr (anyB_yes hs (by unfold lnB; rw [bne_iff_ne]; omega))) h2
      refine ⟨y, hn.symm, rfl, by omega, by omega, by omega, by omega, hrow, fun s hs k hk => ?_⟩
      have h3 := fstE_zero.1 (fstE_zero.1 h s hs) k (by rw [hrow s hs]; exact hk)
      unfold ruE at h3
      by_cases a1 : (R s).f (3 * k) < 0 ∨ (y : Int) ≤ (R s).f (3 * k)
      · rw [if_pos a1] at h3; omega
      · rw [if_neg a1] at h3
        by_cases a2 : (R s).f (3 * k + 1) < -1 ∨ 1 < (R s).f (3 * k + 1)
        · rw [if_pos a2] at h3; omega
        · rw [if_neg a2] at h3
          by_cases a3 : (R s).f (3 * k + 2) < 0 ∨ S < (R s).f (3 * k + 2)
          · rw [if_pos a3] at h3; omega
          · show (0 ≤ (R s).f (3 * k) ∧ (R s).f (3 * k) < y) ∧ (-1 ≤ (R s).f (3 * k + 1) ∧ (R s).f (3 * k + 1) ≤ 1) ∧ (0 ≤ (R s).f (3 * k + 2) ∧ (R s).f (3 * k + 2) ≤ n)
            omega
theorem laid_gc {n y B : Nat} {g : Nat → Int} {k : Nat} {first h : Int} {s : Nat} (hg : insB y k g = true) (hy : 0 < y) (hs : s ≤ n) (h0 : -(B : Int) ≤ h ∧ h ≤ B) (f0 : -(B : Int) ≤ first) (f1 : first + k ≤ B + 1) : Gc n y B ⟨laid g k first, s, h⟩ := by
  have hi := insB_iff.1 hg
  refine ⟨fun x => ?_, hs, h0, fun x hx => ?_⟩
  · show 0 ≤ laid g k first x ∧ laid g k first x < y
    unfold laid
    by_cases e : first ≤ x ∧ x < first + k
    · rw [if_pos e]; exact hi _ (by omega)
    · rw [if_neg e]; omega
  · have hx' : laid g k first x ≠ 0 := hx
    unfold laid at hx'
    by_cases e : first ≤ x ∧ x < first + k
    · omega
    · rw [if_neg e] at hx'; exact absurd rfl hx'
end Go.Proofs.Ytklhbmlcpjlgiaa
