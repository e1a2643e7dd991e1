/- What orders come to when the last one is written anew. No condition. -/
import Derived.Test.YtmhicimjoidonaaWideRun
import Derived.Test.YtmhicimjoidonaaWideOwn
namespace Go.Proofs.Ytmhicimjoidonaa
set_option linter.unusedVariables false
def okF (F : Nat → Int) (n : Nat) : Prop := ∀ k, k < n → perm (noF F k) ∧ perm (yesF F k)
theorem behF_old {F : Nat → Int} {J r q : Nat} (h : q ≤ J * 11) : behF F J r q = F q := by
  unfold behF
  rw [if_neg (by omega), if_neg (by omega)]
theorem behF_no {F : Nat → Int} {J r : Nat} : ∀ j, j < 5 → noF (behF F J r) J j = cmp (noF F J) (eF r) j := fun j hj => by
  show behF F J r (11 * J + 1 + j) = eF r (F (11 * J + 1 + j)).toNat
  unfold behF
  rw [if_pos (by omega)]
  show eF r (F (J * 11 + 1 + (11 * J + 1 + j - (J * 11 + 1)))).toNat = _
  rw [show J * 11 + 1 + (11 * J + 1 + j - (J * 11 + 1)) = 11 * J + 1 + j by omega]
theorem behF_yes {F : Nat → Int} {J r : Nat} : ∀ j, j < 5 → yesF (behF F J r) J j = cmp (yesF F J) (eF r) j := fun j hj => by
  show behF F J r (11 * J + 6 + j) = eF r (F (11 * J + 6 + j)).toNat
  unfold behF
  rw [if_neg (by omega), if_pos (by omega)]
  show eF r (F (J * 11 + 6 + (11 * J + 6 + j - (J * 11 + 6)))).toNat = _
  rw [show J * 11 + 6 + (11 * J + 6 + j - (J * 11 + 6)) = 11 * J + 6 + j by omega]
theorem behF_low {F : Nat → Int} {J r k : Nat} (hk : k < J) : (∀ j, j < 5 → noF (behF F J r) k j = noF F k j) ∧ (∀ j, j < 5 → yesF (behF F J r) k j = yesF F k j) ∧ behF F J r (11 * k) = F (11 * k) :=
  ⟨fun j hj => behF_old (by omega), fun j hj => behF_old (by omega), behF_old (by omega)⟩
theorem perm_congr {F G : Nat → Int} (h : ∀ i, i < 5 → F i = G i) (hF : perm F) : perm G :=
  ⟨fun i hi => by rw [← h i hi]; exact hF.1 i hi, fun j hj i hi => by rw [← h i (by omega), ← h j hj]; exact hF.2 j hj i hi⟩
theorem okF_beh {F : Nat → Int} {J r : Nat} (h : okF F (J + 1)) (hr : perm (eF r)) : okF (behF F J r) (J + 1) := fun k hk => by
  by_cases e : k < J
  · obtain ⟨a, b, _⟩ := behF_low (F := F) (r := r) e
    exact ⟨perm_congr (fun i hi => (a i hi).symm) (h k hk).1, perm_congr (fun i hi => (b i hi).symm) (h k hk).2⟩
  · obtain rfl : k = J := by omega
    exact ⟨perm_congr (fun i hi => (behF_no i hi).symm) (perm_cmp (h k hk).1 hr), perm_congr (fun i hi => (behF_yes i hi).symm) (perm_cmp (h k hk).2 hr)⟩
theorem rn_beh_low {F : Nat → Int} {J r : Nat} {g : Nat → Bool} (h : okF F (J + 1)) : ∀ k, k ≤ J → ∀ i, i < 5 → rn (behF F J r) g k i = rn F g k i := by
  intro k
  induction k with
  | zero => intro _ i _; rfl
  | succ k ih =>
    intro hk i hi
    have hb := (rn_bd (F := F) (g := g) (k := k) fun j hj => h j (by omega)).1 i hi
    obtain ⟨a, b, c⟩ := behF_low (F := F) (r := r) (show k < J by omega)
    show (if g (behF F J r (11 * k)).toNat then yesF (behF F J r) k else noF (behF F J r) k) (rn (behF F J r) g k i).toNat = (if g (F (11 * k)).toNat then yesF F k else noF F k) (rn F g k i).toNat
    rw [ih (by omega) i hi, c]
    by_cases e : g (F (11 * k)).toNat = true
    · rw [if_pos e, if_pos e]; exact b _ (by omega)
    · rw [if_neg e, if_neg e]; exact a _ (by omega)
/-- one change behind the last order is one change behind them all -/
theorem rn_beh {F : Nat → Int} {J r : Nat} {g : Nat → Bool} (h : okF F (J + 1)) : ∀ i, i < 5 → rn (behF F J r) g (J + 1) i = cmp (rn F g (J + 1)) (eF r) i := fun i hi => by
  have hb := (rn_bd (F := F) (g := g) (k := J) fun j hj => h j (by omega)).1 i hi
  show (if g (behF F J r (11 * J)).toNat then yesF (behF F J r) J else noF (behF F J r) J) (rn (behF F J r) g J i).toNat = eF r ((if g (F (11 * J)).toNat then yesF F J else noF F J) (rn F g J i).toNat).toNat
  rw [rn_beh_low h J (Nat.le_refl _) i hi, behF_old (by omega)]
  by_cases e : g (F (11 * J)).toNat = true
  · rw [if_pos e, if_pos e]; exact behF_yes _ (by omega)
  · rw [if_neg e, if_neg e]; exact behF_no _ (by omega)
end Go.Proofs.Ytmhicimjoidonaa
