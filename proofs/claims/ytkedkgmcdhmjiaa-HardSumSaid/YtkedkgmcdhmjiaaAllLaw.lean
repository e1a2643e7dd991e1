/- For all, and for some, by turns: with one kind alone it is the count of assignments. No condition. -/
import Derived.Test.YtkedkgmcdhmjiaaNameIs
namespace Go.Proofs.Ytkedkgmcdhmjiaa
set_option linter.unusedVariables false
def setB (h : Nat → Bool) (j : Nat) (b : Bool) : Nat → Bool := fun i => if i = j then b else h i
/-- SOME wins, from the first m - r values on -/
def winS (K : Nat → Bool) (m : Nat) (p : (Nat → Bool) → Bool) : Nat → (Nat → Bool) → Bool
  | 0, h => p h
  | r + 1, h => if K (m - (r + 1)) then winS K m p r (setB h (m - (r + 1)) false) || winS K m p r (setB h (m - (r + 1)) true) else winS K m p r (setB h (m - (r + 1)) false) && winS K m p r (setB h (m - (r + 1)) true)
theorem setB_lt {h : Nat → Bool} {j i : Nat} {b : Bool} (hi : i < j) : setB h j b i = h i := if_neg (by omega)
theorem setB_eq {h : Nat → Bool} {j : Nat} {b : Bool} : setB h j b j = b := if_pos rfl
section
variable {m : Nat} {p : (Nat → Bool) → Bool} (hp : ∀ g h : Nat → Bool, (∀ i, i < m → g i = h i) → p g = p h)
include hp
theorem win_some {K : Nat → Bool} (hK : ∀ i, i < m → K i = true) : ∀ r h, r ≤ m → (winS K m p r h = true ↔ ∃ g, (∀ i, i < m - r → g i = h i) ∧ p g = true) := by
  intro r
  induction r with
  | zero => exact fun h _ => ⟨fun e => ⟨h, fun _ _ => rfl, e⟩, fun ⟨g, e, hg⟩ => by rw [← hg]; exact hp _ _ fun i hi => (e i (by omega)).symm⟩
  | succ r ih =>
    intro h hr
    have e : winS K m p (r + 1) h = if K (m - (r + 1)) then winS K m p r (setB h (m - (r + 1)) false) || winS K m p r (setB h (m - (r + 1)) true) else winS K m p r (setB h (m - (r + 1)) false) && winS K m p r (setB h (m - (r + 1)) true) := rfl
    rw [e, hK _ (by omega), if_pos rfl, Bool.or_eq_true, ih _ (by omega), ih _ (by omega)]
    constructor
    · rintro (⟨g, h1, h2⟩ | ⟨g, h1, h2⟩)
      · exact ⟨g, fun i hi => by rw [h1 i (by omega), setB_lt hi], h2⟩
      · exact ⟨g, fun i hi => by rw [h1 i (by omega), setB_lt hi], h2⟩
    · rintro ⟨g, h1, h2⟩
      have h3 : ∀ b, g (m - (r + 1)) = b → ∀ i, i < m - r → g i = setB h (m - (r + 1)) b i := fun b hb i hi => by
        by_cases e : i = m - (r + 1)
        · rw [e, setB_eq]; exact hb
        · rw [setB_lt (by omega)]; exact h1 i (by omega)
      cases hb : g (m - (r + 1)) with
      | false => exact .inl ⟨g, h3 _ hb, h2⟩
      | true => exact .inr ⟨g, h3 _ hb, h2⟩
theorem win_all {K : Nat → Bool} (hK : ∀ i, i < m → K i = false) : ∀ r h, r ≤ m → (winS K m p r h = true ↔ ∀ g, (∀ i, i < m - r → g i = h i) → p g = true) := by
  intro r
  induction r with
  | zero => exact fun h _ => ⟨fun e g hg => by rw [← e]; exact hp _ _ fun i hi => hg i (by omega), fun e => e h fun _ _ => rfl⟩
  | succ r ih =>
    intro h hr
    have e : winS K m p (r + 1) h = if K (m - (r + 1)) then winS K m p r (setB h (m - (r + 1)) false) || winS K m p r (setB h (m - (r + 1)) true) else winS K m p r (setB h (m - (r + 1)) false) && winS K m p r (setB h (m - (r + 1)) true) := rfl
    rw [e, hK _ (by omega), if_neg (by decide), Bool.and_eq_true, ih _ (by omega), ih _ (by omega)]
    constructor
    · rintro ⟨ha, hb⟩ g hg
      have h3 : ∀ b, g (m - (r + 1)) = b → ∀ i, i < m - r → g i = setB h (m - (r + 1)) b i := fun b hb i hi => by
        by_cases e : i = m - (r + 1)
        · rw [e, setB_eq]; exact hb
        · rw [setB_lt (by omega)]; exact hg i (by omega)
      cases hbb : g (m - (r + 1)) with
      | false => exact ha g (h3 _ hbb)
      | true => exact hb g (h3 _ hbb)
    · intro hh
      exact ⟨fun g hg => hh g fun i hi => by rw [hg i (by omega), setB_lt hi], fun g hg => hh g fun i hi => by rw [hg i (by omega), setB_lt hi]⟩
end
/-- every choice of m values is that of a number -/
theorem num_of (g : Nat → Bool) (m : Nat) : ∃ s, s < 2 ^ m ∧ ∀ i, i < m → bitN s i = g i := by
  induction m with
  | zero => exact ⟨0, by decide, fun i hi => absurd hi (Nat.not_lt_zero _)⟩
  | succ m ih =>
    obtain ⟨s, hs, hb⟩ := ih
    refine ⟨s + (g m).toNat * 2 ^ m, ?_, fun i hi => ?_⟩
    · rw [Nat.pow_succ]
      cases g m <;> simp <;> omega
    · by_cases e : i = m
      · subst e
        unfold bitN
        rw [Nat.add_mul_div_right _ _ (Nat.pow_pos (by omega)), Nat.div_eq_of_lt hs]
        cases g i <;> simp
      · have him : i < m := by omega
        have hbi := hb i him
        rw [← hbi]
        unfold bitN
        obtain ⟨d, rfl⟩ : ∃ d, m = i + 1 + d := ⟨m - (i + 1), by omega⟩
        have e1 : (g (i + 1 + d)).toNat * 2 ^ (i + 1 + d) = ((g (i + 1 + d)).toNat * 2 ^ d * 2) * 2 ^ i := by
          rw [Nat.pow_add, Nat.pow_succ]; ac_rfl
        rw [e1, Nat.add_mul_div_right _ _ (Nat.pow_pos (by omega))]
        congr 1
        rw [Nat.add_mul_mod_self_right]
theorem cntB_pos {q : Nat → Bool} {k : Nat} : 0 < cntB q k ↔ ∃ s, s < k ∧ q s = true := by
  induction k with
  | zero => exact ⟨fun h => absurd h (Nat.lt_irrefl _), fun ⟨s, hs, _⟩ => absurd hs (Nat.not_lt_zero _)⟩
  | succ k ih =>
    simp only [cntB]
    constructor
    · intro h
      cases e : q k with
      | true => exact ⟨k, by omega, e⟩
      | false =>
        rw [e] at h
        obtain ⟨s, hs, hq⟩ := ih.1 (by simpa using h)
        exact ⟨s, by omega, hq⟩
    · rintro ⟨s, hs, hq⟩
      by_cases e : s = k
      · subst e; rw [hq]; simp
      · have := ih.2 ⟨s, by omega, hq⟩; omega
theorem cntB_full {q : Nat → Bool} {k : Nat} : cntB q k = k ↔ ∀ s, s < k → q s = true := by
  induction k with
  | zero => exact ⟨fun _ s hs => absurd hs (Nat.not_lt_zero _), fun _ => rfl⟩
  | succ k ih =>
    simp only [cntB]
    have hle := cntB_le q k
    constructor
    · intro h s hs
      cases e : q k with
      | false => rw [e] at h; simp at h; omega
      | true =>
        rw [e] at h
        by_cases es : s = k
        · subst es; exact e
        · exact ih.1 (by simp at h; omega) s (by omega)
    · intro h
      rw [ih.2 fun s hs => h s (by omega), h k (by omega)]; rfl
section
variable {m n : Nat} {Y N : Nat → SI} (hV : ∀ k, k < n → varsIn m (Y k) ∧ varsIn m (N k))
include hV
theorem isC_dep (g h : Nat → Bool) (e : ∀ i, i < m → g i = h i) : isC n Y N g = isC n Y N h := by
  have hh : ∀ k, k < n → holdsC Y N g k = holdsC Y N h k := fun k hk => by
    obtain ⟨v1, v2⟩ := hV k hk
    have c1 : ∀ i, i < (Y k).n → yesP g (Y k).f i = yesP h (Y k).f i := fun i hi => e _ (by have := v1 i hi; omega)
    have c2 : ∀ i, i < (N k).n → noP g (N k).f i = noP h (N k).f i := fun i hi => by unfold noP; rw [e _ (by have := v2 i hi; omega)]
    have a1 : anyB (yesP g (Y k).f) (Y k).n = anyB (yesP h (Y k).f) (Y k).n := by
      unfold anyB; rw [decide_eq_decide]; exact ⟨fun ⟨i, hi, q⟩ => ⟨i, hi, by rw [← c1 i hi]; exact q⟩, fun ⟨i, hi, q⟩ => ⟨i, hi, by rw [c1 i hi]; exact q⟩⟩
    have a2 : anyB (noP g (N k).f) (N k).n = anyB (noP h (N k).f) (N k).n := by
      unfold anyB; rw [decide_eq_decide]; exact ⟨fun ⟨i, hi, q⟩ => ⟨i, hi, by rw [← c2 i hi]; exact q⟩, fun ⟨i, hi, q⟩ => ⟨i, hi, by rw [c2 i hi]; exact q⟩⟩
    unfold holdsC; rw [a1, a2]
  unfold isC; rw [decide_eq_decide]
  exact ⟨fun q k hk => by rw [← hh k hk]; exact q k hk, fun q k hk => by rw [hh k hk]; exact q k hk⟩
theorem some_many {K : Nat → Bool} (hK : ∀ i, i < m → K i = true) (h : Nat → Bool) : winS K m (isC n Y N) m h = decide (0 < manyC n Y N m) := by
  rw [Bool.eq_iff_iff, decide_eq_true_eq, win_some (isC_dep hV) hK m h (Nat.le_refl _)]
  unfold manyC
  rw [cntB_pos]
  constructor
  · rintro ⟨g, _, hg⟩
    obtain ⟨s, hs, hb⟩ := num_of g m
    exact ⟨s, hs, by rw [isC_dep hV _ _ hb]; exact hg⟩
  · rintro ⟨s, hs, hq⟩
    exact ⟨bitN s, fun i hi => by omega, hq⟩
theorem all_many {K : Nat → Bool} (hK : ∀ i, i < m → K i = false) (h : Nat → Bool) : winS K m (isC n Y N) m h = decide (manyC n Y N m = 2 ^ m) := by
  rw [Bool.eq_iff_iff, decide_eq_true_eq, win_all (isC_dep hV) hK m h (Nat.le_refl _)]
  unfold manyC
  rw [cntB_full]
  constructor
  · intro hh s hs
    exact hh (bitN s) fun i hi => by omega
  · intro hh g _
    obtain ⟨s, hs, hb⟩ := num_of g m
    rw [← isC_dep hV _ _ hb]; exact hh s hs
end
end Go.Proofs.Ytkedkgmcdhmjiaa
