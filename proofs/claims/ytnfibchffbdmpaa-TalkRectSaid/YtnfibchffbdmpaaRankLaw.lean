/- The plain law of ranks: what row by row finds is the least number of lists of which all rows are made; turned round it is the same. No condition. -/
import Derived.Test.YtnfibchffbdmpaaSumI
namespace Go.Proofs.Ytnfibchffbdmpaa
set_option linter.unusedVariables false
/-- M, of n rows and m columns, is (but for a factor) a product through s -/
def Fac (M : Nat → Nat → Int) (n m s : Nat) : Prop := ∃ (d : Int) (B C : Nat → Nat → Int), d ≠ 0 ∧ ∀ i, i < n → ∀ j, j < m → d * M i j = sumI (fun k => B i k * C k j) s
theorem Fac.congr {M M' : Nat → Nat → Int} {n m s : Nat} (h : Fac M n m s) (e : ∀ i, i < n → ∀ j, j < m → M' i j = M i j) : Fac M' n m s := by
  obtain ⟨d, B, C, hd, hM⟩ := h
  exact ⟨d, B, C, hd, fun i hi j hj => by rw [e i hi j hj]; exact hM i hi j hj⟩
theorem Fac.turn {M : Nat → Nat → Int} {n m s : Nat} (h : Fac M n m s) : Fac (fun j i => M i j) m n s := by
  obtain ⟨d, B, C, hd, hM⟩ := h
  exact ⟨d, fun j k => C k j, fun k i => B i k, hd, fun j hj i hi => by
    dsimp only
    rw [hM i hi j hj]
    exact sumI_congr fun k _ => Int.mul_comm _ _⟩
theorem fac_low {M : Nat → Nat → Int} {n m r : Nat} (h : ∀ i, r ≤ i → i < n → ∀ j, j < m → M i j = 0) : Fac M n m r := by
  refine ⟨1, fun i k => if i = k then 1 else 0, M, by omega, fun i hi j hj => ?_⟩
  rw [Int.one_mul]
  rcases Nat.lt_or_ge i r with l | l
  · rw [sumI_one (k := i) l]
    · simp
    · intro k _ hne
      simp only [if_neg (Ne.symm hne), Int.zero_mul]
  · rw [h i l hi j hj, sumI_zero]
    intro k hk
    have hne : i ≠ k := by omega
    simp only [if_neg hne, Int.zero_mul]
theorem Fac.swap {M M' : Nat → Nat → Int} {n m s : Nat} (sw : Nat → Nat) (hs : ∀ i, i < n → sw i < n) (e : ∀ i, i < n → ∀ j, j < m → M' i j = M (sw i) j) (h : Fac M n m s) : Fac M' n m s := by
  obtain ⟨d, B, C, hd, hM⟩ := h
  exact ⟨d, fun i => B (sw i), C, hd, fun i hi j hj => by rw [e i hi j hj]; exact hM _ (hs i hi) j hj⟩
theorem Fac.elim {M M' : Nat → Nat → Int} {n m s r : Nat} (hr : r < n) (a : Int) (b : Nat → Int) (e : ∀ i, i < n → ∀ j, j < m → M' i j = if r < i then M i j * a - M r j * b i else M i j) (h : Fac M n m s) : Fac M' n m s := by
  obtain ⟨d, B, C, hd, hM⟩ := h
  refine ⟨d, fun i k => if r < i then B i k * a - B r k * b i else B i k, C, hd, fun i hi j hj => ?_⟩
  rw [e i hi j hj]
  by_cases l : r < i
  · simp only [if_pos l]
    have h1 : d * (M i j * a - M r j * b i) = a * (d * M i j) + (- b i) * (d * M r j) := by grind
    rw [h1, hM i hi j hj, hM r hr j hj, ← sumI_mul, ← sumI_mul, ← sumI_add]
    exact sumI_congr fun k _ => by grind
  · simp only [if_neg l]
    exact hM i hi j hj
theorem Fac.unelim {M M' : Nat → Nat → Int} {n m s r : Nat} (hr : r < n) (a : Int) (ha : a ≠ 0) (b : Nat → Int) (e : ∀ i, i < n → ∀ j, j < m → M' i j = if r < i then M i j * a - M r j * b i else M i j) (h : Fac M' n m s) : Fac M n m s := by
  obtain ⟨d, B, C, hd, hM⟩ := h
  refine ⟨d * a, fun i k => if r < i then B i k + B r k * b i else a * B i k, C, Int.mul_ne_zero hd ha, fun i hi j hj => ?_⟩
  have h1 := hM i hi j hj
  have h2 := hM r hr j hj
  rw [e i hi j hj] at h1
  rw [e r hr j hj, if_neg (Nat.lt_irrefl r)] at h2
  by_cases l : r < i
  · simp only [if_pos l] at h1 ⊢
    have h3 : d * a * M i j = d * (M i j * a - M r j * b i) + (b i) * (d * M r j) := by grind
    rw [h3, h1, h2, ← sumI_mul, ← sumI_add]
    exact sumI_congr fun k _ => by grind
  · simp only [if_neg l] at h1 ⊢
    have h3 : d * a * M i j = a * (d * M i j) := by grind
    rw [h3, h1, ← sumI_mul]
    exact sumI_congr fun k _ => by grind
/-- more lists than numbers in each hang together -/
theorem dep : ∀ (s r : Nat) (B : Nat → Nat → Int), s < r → ∃ x : Nat → Int, (∃ k, k < r ∧ x k ≠ 0) ∧ ∀ t, t < s → sumI (fun k => x k * B k t) r = 0
  | 0, r, B, h => ⟨fun _ => 1, ⟨0, h, by decide⟩, fun t ht => absurd ht (Nat.not_lt_zero _)⟩
  | s + 1, r, B, h => by
    by_cases hz : ∀ k, k < r → B k s = 0
    · obtain ⟨x, hx, h1⟩ := dep s r B (by omega)
      refine ⟨x, hx, fun t ht => ?_⟩
      rcases Nat.lt_or_ge t s with l | l
      · exact h1 t l
      · obtain rfl : t = s := by omega
        exact sumI_zero fun k hk => by rw [hz k hk, Int.mul_zero]
    · obtain ⟨p, hp⟩ := Classical.not_forall.1 hz
      obtain ⟨hpr, hps⟩ := Classical.not_imp.1 hp
      obtain ⟨q, rfl⟩ : ∃ q, r = q + 1 := ⟨r - 1, by omega⟩
      obtain ⟨x, ⟨k0, hk0, hx0⟩, h1⟩ := dep s q (fun k t => B p s * B (skp p k) t - B (skp p k) s * B p t) (by omega)
      have hun : ∀ k, (if skp p k < p then skp p k else skp p k - 1) = k := fun k => by
        rcases Nat.lt_or_ge k p with l | l
        · rw [skp_lt l, if_pos l]
        · rw [skp_ge l, if_neg (by omega)]; rfl
      have hsk : ∀ k, k < q → skp p k < q + 1 := fun k hk => by have := skp_le p k; omega
      refine ⟨fun k => if k = p then - sumI (fun k => x k * B (skp p k) s) q else B p s * x (if k < p then k else k - 1), ⟨skp p k0, hsk k0 hk0, ?_⟩, fun t ht => ?_⟩
      · simp only [if_neg (skp_ne p k0), hun]
        exact Int.mul_ne_zero hps hx0
      · rw [sumI_skip _ (show p ≤ q by omega)]
        simp only [if_neg (skp_ne p _), hun, if_pos]
        have h2 : sumI (fun k => x k * (B p s * B (skp p k) t - B (skp p k) s * B p t)) q = 0 := by
          rcases Nat.lt_or_ge t s with l | l
          · exact h1 t l
          · obtain rfl : t = s := by omega
            exact sumI_zero fun k hk => by rw [Int.mul_comm (B p t), Int.sub_self, Int.mul_zero]
        rw [← h2, Int.neg_mul, ← sumI_mulr, ← sumI_neg, ← sumI_add]
        exact sumI_congr fun k _ => by grind
theorem least_ne {x : Nat → Int} : ∀ {k}, x k ≠ 0 → ∃ i, i ≤ k ∧ x i ≠ 0 ∧ ∀ j, j < i → x j = 0
  | k, h => by
    by_cases hz : ∃ j, j < k ∧ x j ≠ 0
    · obtain ⟨j, hj, hx⟩ := hz
      obtain ⟨i, h1, h2⟩ := least_ne hx
      exact ⟨i, by omega, h2⟩
    · exact ⟨k, Nat.le_refl _, h, fun j hj => Classical.byContradiction fun e => hz ⟨j, hj, e⟩⟩
theorem tri_le {M : Nat → Nat → Int} {n m s r : Nat} (c : Nat → Nat) (hr : r ≤ n) (hc : ∀ k, k < r → c k < m) (hd : ∀ k, k < r → M k (c k) ≠ 0) (hz : ∀ k, k < r → ∀ k', k < k' → k' < n → M k' (c k) = 0) (hF : Fac M n m s) : r ≤ s := by
  rcases Nat.lt_or_ge s r with l | l
  · exfalso
    obtain ⟨d, B, C, hd0, hM⟩ := hF
    obtain ⟨x, ⟨k0, hk0, hx0⟩, hx⟩ := dep s r B l
    obtain ⟨k, hk, hxk, hlow⟩ := least_ne hx0
    have h1 : sumI (fun k' => x k' * (d * M k' (c k))) r = 0 := by
      have h2 : sumI (fun k' => x k' * (d * M k' (c k))) r = sumI (fun k' => sumI (fun t => x k' * (B k' t * C t (c k))) s) r :=
        sumI_congr fun k' hk' => by rw [hM k' (by omega) (c k) (hc k (by omega)), sumI_mul]
      rw [h2, sumI_swap]
      refine sumI_zero fun t ht => ?_
      rw [sumI_congr (g := fun k' => x k' * B k' t * C t (c k)) fun k' _ => (Int.mul_assoc _ _ _).symm, sumI_mulr, hx t ht, Int.zero_mul]
    rw [sumI_one (k := k) (by omega) fun k' hk' hne => by
      rcases Nat.lt_or_ge k' k with a | a
      · rw [hlow k' a, Int.zero_mul]
      · rw [hz k (by omega) k' (by omega) (by omega), Int.mul_zero, Int.mul_zero]] at h1
    exact Int.mul_ne_zero hxk (Int.mul_ne_zero hd0 (hd k (by omega))) h1
  · exact l
/-- the rank -/
def IsRank (M : Nat → Nat → Int) (n m r : Nat) : Prop := Fac M n m r ∧ ∀ s, Fac M n m s → r ≤ s
theorem IsRank.one {M : Nat → Nat → Int} {n m r r' : Nat} (h : IsRank M n m r) (h' : IsRank M n m r') : r = r' := Nat.le_antisymm (h.2 _ h'.1) (h'.2 _ h.1)
theorem IsRank.turn {M : Nat → Nat → Int} {n m r : Nat} (h : IsRank M n m r) : IsRank (fun j i => M i j) m n r := ⟨h.1.turn, fun s hs => h.2 s hs.turn⟩
/-- row by row: of the columns before c, r have led -/
structure Ech (A M : Nat → Nat → Int) (n m r c : Nat) : Prop where
  le : r ≤ n
  cm : c ≤ m
  same : ∀ s, Fac M n m s ↔ Fac A n m s
  led : ∃ cs : Nat → Nat, ∀ k, k < r → cs k < c ∧ M k (cs k) ≠ 0 ∧ ∀ k', k < k' → k' < n → M k' (cs k) = 0
  low : ∀ i, r ≤ i → i < n → ∀ j, j < c → M i j = 0
theorem Ech.start (A : Nat → Nat → Int) (n m : Nat) : Ech A A n m 0 0 := ⟨Nat.zero_le _, Nat.zero_le _, fun s => Iff.rfl, ⟨fun _ => 0, fun k hk => absurd hk (Nat.not_lt_zero _)⟩, fun _ _ _ j hj => absurd hj (Nat.not_lt_zero _)⟩
theorem Ech.next {A M : Nat → Nat → Int} {n m r c : Nat} (h : Ech A M n m r c) (hc : c < m) (hz : ∀ i, r ≤ i → i < n → M i c = 0) : Ech A M n m r (c + 1) := by
  obtain ⟨cs, hcs⟩ := h.led
  refine ⟨h.le, hc, h.same, ⟨cs, fun k hk => ⟨by have := (hcs k hk).1; omega, (hcs k hk).2⟩⟩, fun i hi hin j hj => ?_⟩
  rcases Nat.lt_or_ge j c with l | l
  · exact h.low i hi hin j l
  · obtain rfl : j = c := by omega
    exact hz i hi hin
/-- rows r and r + p change places -/
def swp (r q i : Nat) : Nat := if i = r then q else if i = q then r else i
theorem swp_lt {r q i n : Nat} (hr : r < n) (hq : q < n) (hi : i < n) : swp r q i < n := by unfold swp; split <;> (try split) <;> omega
theorem swp_swp (r q i : Nat) : swp r q (swp r q i) = i := by
  unfold swp
  by_cases h1 : i = r
  · rw [if_pos h1]
    by_cases h2 : q = r
    · rw [if_pos h2, h1]; exact h2
    · rw [if_neg h2, if_pos rfl, h1]
  · rw [if_neg h1]
    by_cases h2 : i = q
    · rw [if_pos h2, if_pos rfl, h2]
    · rw [if_neg h2, if_neg h1, if_neg h2]
theorem Ech.step {A M M1 M2 : Nat → Nat → Int} {n m r c q : Nat} (h : Ech A M n m r c) (hc : c < m) (hq : r ≤ q) (hqn : q < n) (hp : M q c ≠ 0)
    (e1 : ∀ i, i < n → ∀ j, j < m → M1 i j = M (swp r q i) j)
    (e2 : ∀ i, i < n → ∀ j, j < m → M2 i j = if r < i then M1 i j * M1 r c - M1 r j * M1 i c else M1 i j) : Ech A M2 n m (r + 1) (c + 1) := by
  obtain ⟨cs, hcs⟩ := h.led
  have hr : r < n := by omega
  have hsr : swp r q r = q := if_pos rfl
  have hpiv : M1 r c ≠ 0 := by rw [e1 r hr c hc, hsr]; exact hp
  have hlow : ∀ k, k < r → swp r q k = k := fun k hk => by unfold swp; rw [if_neg (by omega), if_neg (by omega)]
  have hhigh : ∀ k, r ≤ k → k < n → r ≤ swp r q k ∧ swp r q k < n := fun k h1 h2 => ⟨by unfold swp; split <;> (try split) <;> omega, swp_lt hr hqn h2⟩
  have hcol : ∀ k', r ≤ k' → k' < n → ∀ j, j < m → (∀ i, r ≤ i → i < n → M i j = 0) → M2 k' j = 0 := fun k' h1 h2 j hj hz => by
    rw [e2 k' h2 j hj, e1 k' h2 j hj, e1 r hr j hj, hsr, hz _ (hhigh k' h1 h2).1 (hhigh k' h1 h2).2, hz q hq hqn, Int.zero_mul, Int.zero_mul]
    split <;> rfl
  have hcz : ∀ i, r < i → i < n → M2 i c = 0 := fun i h1 h2 => by
    rw [e2 i h2 c hc, if_pos h1, Int.mul_comm, Int.sub_self]
  refine ⟨hr, hc, fun s => ?_, ⟨fun k => if k = r then c else cs k, fun k hk => ?_⟩, fun i hi hin j hj => ?_⟩
  · rw [← h.same s]
    constructor
    · intro hF
      have h1 := hF.unelim hr (M1 r c) hpiv (fun i => M1 i c) e2
      exact h1.swap (swp r q) (fun i hi => swp_lt hr hqn hi) fun i hi j hj => by rw [e1 _ (swp_lt hr hqn hi) j hj, swp_swp]
    · intro hF
      exact (hF.swap (swp r q) (fun i hi => swp_lt hr hqn hi) e1).elim hr (M1 r c) (fun i => M1 i c) e2
  · by_cases e : k = r
    · subst e
      simp only [if_pos]
      refine ⟨by omega, by rw [e2 k hr c hc, if_neg (Nat.lt_irrefl k)]; exact hpiv, fun k' h1 h2 => hcz k' h1 h2⟩
    · simp only [if_neg e]
      obtain ⟨h1, h2, h3⟩ := hcs k (by omega)
      refine ⟨by omega, ?_, fun k' h4 h5 => ?_⟩
      · rw [e2 k (by omega) _ (by omega), if_neg (by omega), e1 k (by omega) _ (by omega), hlow k (by omega)]; exact h2
      · rcases Nat.lt_or_ge k' r with l | l
        · rw [e2 k' h5 _ (by omega), if_neg (by omega), e1 k' h5 _ (by omega), hlow k' l]; exact h3 k' h4 h5
        · exact hcol k' l h5 _ (by omega) fun i hi hin => h3 i (by omega) hin
  · rcases Nat.lt_or_ge j c with l | l
    · exact hcol i (by omega) hin j (by omega) fun i' h1 h2 => h.low i' h1 h2 j l
    · obtain rfl : j = c := by omega
      exact hcz i (by omega) hin
theorem Ech.done {A M : Nat → Nat → Int} {n m r c : Nat} (h : Ech A M n m r c) (he : c = m ∨ r = n) : IsRank A n m r := by
  obtain ⟨cs, hcs⟩ := h.led
  have hcm := h.cm
  have hrn := h.le
  refine ⟨(h.same r).1 (fac_low fun i hi hin j hj => ?_), fun s hs => ?_⟩
  · rcases he with e | e
    · exact h.low i hi hin j (by omega)
    · omega
  · exact tri_le cs hrn (fun k hk => by have := (hcs k hk).1; omega) (fun k hk => (hcs k hk).2.1) (fun k hk => (hcs k hk).2.2) ((h.same s).2 hs)
end Go.Proofs.Ytnfibchffbdmpaa
