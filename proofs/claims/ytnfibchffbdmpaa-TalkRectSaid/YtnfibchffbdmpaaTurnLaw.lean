/- Tables turned round, and with all changed: the plain law. No condition. -/
import Derived.Test.YtnfibchffbdmpaaTalkTop
import Derived.Test.YtnfibchffbdmpaaRectDef
import Derived.Test.YtnfibchffbdmpaaTalkRank
import Derived.Test.YtnfibchffbdmpaaTalkRects
namespace Go.Proofs.Ytnfibchffbdmpaa
set_option linter.unusedVariables false
theorem tkE_ok {n m : Nat} {R : Nat → SB} (hn : 1 ≤ n ∧ n ≤ 4) (hm : 1 ≤ m ∧ m ≤ 4) (h : ∀ i, i < n → (R i).n = m) : tkE n R = 0 := by
  have h0 := h 0 (by omega)
  unfold tkE
  rw [if_neg (by omega)]
  have : anyB (lnT R) n = false := anyB_no fun i hi => by
    unfold lnT
    rw [h i hi, h0]; simp
  rw [this]; rfl
theorem anyB_iff {p : Nat → Bool} {m : Nat} : anyB p m = true ↔ ∃ i, i < m ∧ p i = true := by unfold anyB; exact decide_eq_true_iff
theorem inT_iff {R : Nat → SB} {n m r c : Nat} {v : Bool} : inT R m r c v n = true ↔ ∃ i, i < n ∧ ∃ j, j < m ∧ hbT r i = true ∧ hbT c j = true ∧ (R i).f j = v := by
  unfold inT
  rw [anyB_iff]
  constructor
  · rintro ⟨i, hi, h⟩
    obtain ⟨j, hj, h2⟩ := anyB_iff.1 h
    unfold rwT at h2
    rw [Bool.and_eq_true, Bool.and_eq_true, beq_iff_eq] at h2
    exact ⟨i, hi, j, hj, h2.1.1, h2.1.2, h2.2⟩
  · rintro ⟨i, hi, j, hj, h1, h2, h3⟩
    refine ⟨i, hi, anyB_iff.2 ⟨j, hj, ?_⟩⟩
    unfold rwT
    rw [Bool.and_eq_true, Bool.and_eq_true, beq_iff_eq]
    exact ⟨⟨h1, h2⟩, h3⟩
theorem bool_of_iff {a b : Bool} (h : a = true ↔ b = true) : a = b := by cases a <;> cases b <;> simp_all
theorem al_turn {R T : Nat → SB} {n m : Nat} (h : ∀ i, i < n → ∀ j, j < m → (T j).f i = (R i).f j) (r c : Nat) : alT T m n c r = alT R n m r c := by
  have key : ∀ v, inT T n c r v m = inT R m r c v n := fun v => bool_of_iff (by
    rw [inT_iff, inT_iff]
    constructor
    · rintro ⟨j, hj, i, hi, h1, h2, h3⟩
      exact ⟨i, hi, j, hj, h2, h1, by rw [← h i hi j hj]; exact h3⟩
    · rintro ⟨i, hi, j, hj, h1, h2, h3⟩
      exact ⟨j, hj, i, hi, h2, h1, by rw [h i hi j hj]; exact h3⟩)
  unfold alT
  rw [key, key]
theorem al_not {R T : Nat → SB} {n m : Nat} (h : ∀ i, i < n → ∀ j, j < m → (T i).f j = !(R i).f j) (r c : Nat) : alT T n m r c = alT R n m r c := by
  have key : ∀ v, inT T m r c v n = inT R m r c (!v) n := fun v => bool_of_iff (by
    rw [inT_iff, inT_iff]
    constructor
    · rintro ⟨i, hi, j, hj, h1, h2, h3⟩
      exact ⟨i, hi, j, hj, h1, h2, by rw [← h3, h i hi j hj]; simp⟩
    · rintro ⟨i, hi, j, hj, h1, h2, h3⟩
      exact ⟨i, hi, j, hj, h1, h2, by rw [h i hi j hj, h3]; simp⟩)
  unfold alT
  rw [key, key, Bool.or_comm]
  rfl
theorem le_turn {R T : Nat → SB} {n m : Nat} (h : ∀ i, i < n → ∀ j, j < m → (T j).f i = (R i).f j) : LeT m n T = LeT n m R := by
  unfold LeT SY
  exact say_turn (fun r c => al_turn h r c) _ _ _
theorem le_not {R T : Nat → SB} {n m : Nat} (h : ∀ i, i < n → ∀ j, j < m → (T i).f j = !(R i).f j) : LeT n m T = LeT n m R := by
  unfold LeT SY
  exact say_same (fun r c => al_not h r c) _ _ _
theorem rank_turn {R T : Nat → SB} {n m q p : Nat} (h : ∀ i, i < n → ∀ j, j < m → (T j).f i = (R i).f j) (hq : IsRank (tbI R) n m q) (hp : IsRank (tbI T) m n p) : q = p := by
  have h1 := hq.turn
  have hc : ∀ j, j < m → ∀ i, i < n → tbI T j i = tbI R i j := fun j hj i hi => by unfold tbI; rw [h i hi j hj]
  refine IsRank.one (M := tbI T) (n := m) (m := n) ⟨h1.1.congr hc, fun s hs => h1.2 s (hs.congr fun j hj i hi => (hc j hj i hi).symm)⟩ hp
theorem re_not {R T : Nat → SB} {n m : Nat} (h : ∀ i, i < n → ∀ j, j < m → (T i).f j = !(R i).f j) : reQ (plQ (tbB T) false m n) m n = reQ (plQ (tbB R) true m n) m n := by
  have : plQ (tbB T) false m n = plQ (tbB R) true m n := orF_congr fun i hi => orF_congr fun j hj => by
    unfold cellQ tbB
    rw [h i hi j hj]
    cases (R i).f j <;> rfl
  rw [this]
end Go.Proofs.Ytnfibchffbdmpaa
