/- The greatest choice of a square, by sets of columns that are left: plain laws. No condition. -/
import Derived.Test.YtenlnkcmabphfaaLib
namespace Go.Proofs.Ytenlnkcmabphfaa
open Go
set_option linter.unusedVariables false
set_option linter.unusedSimpArgs false
def btP (s j : Nat) : Bool := s / 2 ^ j % 2 == 1
def clP (s j : Nat) : Nat := if s / 2 ^ j % 2 = 1 then s - 2 ^ j else s
def cnP (s : Nat) : Nat := s % 2 + s / 2 % 2 + s / 4 % 2 + s / 8 % 2 + s / 16 % 2 + s / 32 % 2
theorem cl_bt : ∀ s, s < 64 → ∀ j, j < 6 → ∀ i, i < 6 → btP (clP s j) i = (btP s i && i != j) := by decide +kernel
theorem cl_cn : ∀ s, s < 64 → ∀ j, j < 6 → btP s j = true → cnP (clP s j) + 1 = cnP s ∧ clP s j < s := by decide +kernel
theorem cn_zero : ∀ s, s < 64 → cnP s = 0 → s = 0 := by decide +kernel
theorem full_bt : ∀ n, n ≤ 6 → (∀ j, j < 6 → btP (2 ^ n - 1) j = decide (j < n)) ∧ cnP (2 ^ n - 1) = n ∧ 2 ^ n ≤ 64 ∧ 1 ≤ 2 ^ n := by decide +kernel
theorem bt_some : ∀ n, n ≤ 6 → ∀ s, s < 2 ^ n → cnP s ≤ n ∧ (s ≠ 0 → ∃ j, j < n ∧ btP s j = true) := by decide +kernel
theorem cn_pos : ∀ s, s < 64 → s ≠ 0 → 1 ≤ cnP s := by decide +kernel
/-- the greatest of those that may be, and a start -/
def mxP (p : Nat → Bool) (v : Nat → Int) (z : Int) : Nat → Int
  | 0 => z
  | k + 1 => if p k = true then max (mxP p v z k) (v k) else mxP p v z k
theorem mxP_congr {p : Nat → Bool} {v u : Nat → Int} {z : Int} : ∀ {k : Nat}, (∀ j, j < k → p j = true → v j = u j) → mxP p v z k = mxP p u z k
  | 0, _ => rfl
  | k + 1, h => by
    have ih := mxP_congr (p := p) (v := v) (u := u) (z := z) (k := k) fun j hj => h j (by omega)
    simp only [mxP]
    split
    · rename_i hp; rw [ih, h k (by omega) hp]
    · exact ih
theorem mxP_ge {p : Nat → Bool} {v : Nat → Int} {z : Int} : ∀ {k : Nat}, z ≤ mxP p v z k ∧ ∀ j, j < k → p j = true → v j ≤ mxP p v z k
  | 0 => ⟨Int.le_refl _, fun _ h => absurd h (Nat.not_lt_zero _)⟩
  | k + 1 => by
    have ih := mxP_ge (p := p) (v := v) (z := z) (k := k)
    simp only [mxP]
    split
    · rename_i hp
      refine ⟨by have := ih.1; omega, fun j hj h => ?_⟩
      by_cases e : j = k
      · subst e; omega
      · have := ih.2 j (by omega) h; omega
    · rename_i hp
      refine ⟨ih.1, fun j hj h => ?_⟩
      by_cases e : j = k
      · subst e; exact absurd h hp
      · exact ih.2 j (by omega) h
theorem mxP_le {p : Nat → Bool} {v : Nat → Int} {z u : Int} : ∀ {k : Nat}, z ≤ u → (∀ j, j < k → p j = true → v j ≤ u) → mxP p v z k ≤ u
  | 0, h, _ => h
  | k + 1, h, g => by
    have ih := mxP_le (p := p) (v := v) (k := k) h fun j hj => g j (by omega)
    simp only [mxP]
    split
    · rename_i hp; have := g k (by omega) hp; omega
    · exact ih
theorem mxP_mem {p : Nat → Bool} {v : Nat → Int} {z : Int} : ∀ {k : Nat}, mxP p v z k = z ∨ ∃ j, j < k ∧ p j = true ∧ mxP p v z k = v j
  | 0 => .inl rfl
  | k + 1 => by
    have ih := mxP_mem (p := p) (v := v) (z := z) (k := k)
    simp only [mxP]
    split
    · rename_i hp
      by_cases hc : mxP p v z k ≤ v k
      · exact .inr ⟨k, by omega, hp, by omega⟩
      · rcases ih with e | ⟨j, hj, h1, h2⟩
        · exact .inl (by omega)
        · exact .inr ⟨j, by omega, h1, by omega⟩
    · rcases ih with e | ⟨j, hj, h1, h2⟩
      · exact .inl e
      · exact .inr ⟨j, by omega, h1, h2⟩
/-- of the last rows, as many as columns in a set -/
def bF (M : Nat → Nat → Int) (n : Nat) : Nat → Nat → Int
  | 0, _ => 0
  | f + 1, s => if s = 0 then 0 else mxP (btP s) (fun j => M (n - cnP s) j + bF M n f (clP s j)) (-(n : Int) * 20) n
theorem bF_zero (M : Nat → Nat → Int) (n : Nat) : ∀ f, bF M n f 0 = 0
  | 0 => rfl
  | f + 1 => if_pos rfl
theorem bF_same (M : Nat → Nat → Int) {n : Nat} (hn : n ≤ 6) : ∀ f g s, s < 64 → s ≤ f → s ≤ g → bF M n f s = bF M n g s
  | 0, g, s, _, h, _ => by obtain rfl : s = 0 := by omega
                           rw [bF_zero, bF_zero]
  | f + 1, 0, s, _, _, h => by obtain rfl : s = 0 := by omega
                               rw [bF_zero, bF_zero]
  | f + 1, g + 1, s, h64, h1, h2 => by
    simp only [bF]
    split
    · rfl
    · refine mxP_congr fun j hj hp => ?_
      have := (cl_cn s h64 j (by omega) hp).2
      rw [bF_same M hn f g (clP s j) (by omega) (by omega) (by omega)]
def bst (M : Nat → Nat → Int) (n s : Nat) : Int := bF M n s s
def cand (M : Nat → Nat → Int) (n s j : Nat) : Int := M (n - cnP s) j + bst M n (clP s j)
theorem bst_zero (M : Nat → Nat → Int) (n : Nat) : bst M n 0 = 0 := rfl
theorem bst_mx (M : Nat → Nat → Int) {n s : Nat} (hn : n ≤ 6) (h64 : s < 64) (h0 : s ≠ 0) : bst M n s = mxP (btP s) (cand M n s) (-(n : Int) * 20) n := by
  unfold bst
  obtain ⟨t, rfl⟩ : ∃ t, s = t + 1 := ⟨s - 1, by omega⟩
  simp only [bF]
  rw [if_neg h0]
  refine mxP_congr fun j hj hp => ?_
  have := (cl_cn (t + 1) h64 j (by omega) hp).2
  unfold cand bst
  rw [bF_same M hn t (clP (t + 1) j) (clP (t + 1) j) (by omega) (by omega) (Nat.le_refl _)]
def InP (M : Nat → Nat → Int) (n : Nat) : Prop := ∀ i, i < n → ∀ j, j < n → -20 ≤ M i j ∧ M i j ≤ 20
theorem bst_bd {M : Nat → Nat → Int} {n : Nat} (hn : n ≤ 6) (hM : InP M n) : ∀ c s, s < 2 ^ n → cnP s = c → -(20 * (c : Int)) ≤ bst M n s ∧ bst M n s ≤ 20 * (c : Int)
  | 0, s, hs, hc => by
    have h64 : s < 64 := by have := (full_bt n hn).2.2.1; omega
    obtain rfl := cn_zero s h64 hc
    rw [bst_zero]; omega
  | c + 1, s, hs, hc => by
    have h64 : s < 64 := by have := (full_bt n hn).2.2.1; omega
    have h0 : s ≠ 0 := fun e => by rw [e, show cnP 0 = 0 from rfl] at hc; omega
    obtain ⟨hcn, hex⟩ := bt_some n hn s hs
    obtain ⟨j, hj, hb⟩ := hex h0
    have hcd : ∀ j, j < n → btP s j = true → -(20 * ((c + 1 : Nat) : Int)) ≤ cand M n s j ∧ cand M n s j ≤ 20 * ((c + 1 : Nat) : Int) := fun j hj hb => by
      have h1 := cl_cn s h64 j (by omega) hb
      have h2 := bst_bd hn hM c (clP s j) (by omega) (by omega)
      have h3 := hM (n - cnP s) (by omega) j hj
      unfold cand
      omega
    rw [bst_mx M hn h64 h0]
    have h1 := (mxP_ge (p := btP s) (v := cand M n s) (z := -(n : Int) * 20) (k := n)).2 j hj hb
    have h2 := (hcd j hj hb).1
    refine ⟨by omega, mxP_le (by omega) fun j hj hb => (hcd j hj hb).2⟩
theorem cand_bd {M : Nat → Nat → Int} {n : Nat} (hn : n ≤ 6) (hM : InP M n) {s j : Nat} (hs : s < 2 ^ n) (hj : j < n) (hb : btP s j = true) : -(20 * (n : Int)) ≤ cand M n s j ∧ cand M n s j ≤ 20 * (n : Int) := by
  have h64 : s < 64 := by have := (full_bt n hn).2.2.1; omega
  have h1 := cl_cn s h64 j (by omega) hb
  have hcn := (bt_some n hn s hs).1
  have h2 := bst_bd hn hM (cnP (clP s j)) (clP s j) (by omega) rfl
  have h3 := hM (n - cnP s) (by omega) j hj
  unfold cand
  omega
theorem bst_ge {M : Nat → Nat → Int} {n : Nat} (hn : n ≤ 6) {s j : Nat} (hs : s < 2 ^ n) (hj : j < n) (hb : btP s j = true) : cand M n s j ≤ bst M n s := by
  have h64 : s < 64 := by have := (full_bt n hn).2.2.1; omega
  have h0 : s ≠ 0 := fun e => by rw [e] at hb; unfold btP at hb; simp at hb
  rw [bst_mx M hn h64 h0]
  exact mxP_ge.2 j hj hb
theorem bst_at {M : Nat → Nat → Int} {n : Nat} (hn : n ≤ 6) (hM : InP M n) {s : Nat} (hs : s < 2 ^ n) (h0 : s ≠ 0) : ∃ j, j < n ∧ btP s j = true ∧ bst M n s = cand M n s j := by
  have h64 : s < 64 := by have := (full_bt n hn).2.2.1; omega
  rcases mxP_mem (p := btP s) (v := cand M n s) (z := -(n : Int) * 20) (k := n) with e | ⟨j, hj, h1, h2⟩
  · obtain ⟨j, hj, hb⟩ := (bt_some n hn s hs).2 h0
    have h1 := (cand_bd hn hM hs hj hb).1
    have h2 := bst_ge (M := M) hn hs hj hb
    rw [← bst_mx M hn h64 h0] at e
    exact ⟨j, hj, hb, by omega⟩
  · exact ⟨j, hj, h1, by rw [bst_mx M hn h64 h0]; exact h2⟩
def tsP (M : Nat → Nat → Int) (n s j : Nat) : Bool := btP s j && bst M n s == cand M n s j
/-- the first one from j on -/
def fsP (p : Nat → Bool) : Nat → Nat → Nat
  | 0, j => j
  | f + 1, j => if p j = true then j else fsP p f (j + 1)
theorem fsP_at {p : Nat → Bool} : ∀ {f j k : Nat}, j ≤ k → k < j + f → (∀ i, j ≤ i → i < k → p i = false) → p k = true → fsP p f j = k
  | 0, j, k, h1, h2, _, _ => by omega
  | f + 1, j, k, h1, h2, h3, h4 => by
    simp only [fsP]
    by_cases e : j = k
    · subst e; rw [if_pos h4]
    · rw [if_neg (by rw [h3 j (Nat.le_refl _) (by omega)]; decide)]
      exact fsP_at (by omega) (by omega) (fun i a b => h3 i (by omega) b) h4
theorem fsP_some {p : Nat → Bool} : ∀ {f j : Nat}, (∃ k, j ≤ k ∧ k < j + f ∧ p k = true) → j ≤ fsP p f j ∧ fsP p f j < j + f ∧ p (fsP p f j) = true
  | 0, j, ⟨k, h1, h2, _⟩ => by omega
  | f + 1, j, ⟨k, h1, h2, h3⟩ => by
    simp only [fsP]
    by_cases e : p j = true
    · rw [if_pos e]; exact ⟨Nat.le_refl _, by omega, e⟩
    · rw [if_neg e]
      have hk : k ≠ j := fun h => e (h ▸ h3)
      have := fsP_some (p := p) (f := f) (j := j + 1) ⟨k, by omega, by omega, h3⟩
      exact ⟨by omega, by omega, this.2.2⟩
theorem fsP_congr {p q : Nat → Bool} : ∀ {f j : Nat}, (∀ i, j ≤ i → i < j + f → p i = q i) → fsP p f j = fsP q f j
  | 0, _, _ => rfl
  | f + 1, j, h => by
    simp only [fsP]
    rw [h j (Nat.le_refl _) (by omega), fsP_congr fun i a b => h i (by omega) (by omega)]
def pkP (M : Nat → Nat → Int) (n s : Nat) : Nat := fsP (tsP M n s) n 0
theorem pk_ok {M : Nat → Nat → Int} {n : Nat} (hn : n ≤ 6) (hM : InP M n) {s : Nat} (hs : s < 2 ^ n) (h0 : s ≠ 0) : pkP M n s < n ∧ btP s (pkP M n s) = true ∧ bst M n s = cand M n s (pkP M n s) := by
  obtain ⟨j, hj, h1, h2⟩ := bst_at hn hM hs h0
  have := fsP_some (p := tsP M n s) (f := n) (j := 0) ⟨j, by omega, by omega, by unfold tsP; rw [h1, h2]; simp⟩
  have h3 := this.2.2
  unfold tsP at h3
  rw [Bool.and_eq_true, beq_iff_eq] at h3
  exact ⟨by unfold pkP; omega, h3.1, h3.2⟩
/-- what is left of the columns -/
def rmP (T : Nat → Nat) (n : Nat) : Nat → Nat
  | 0 => 2 ^ n - 1
  | r + 1 => clP (rmP T n r) (T r)
def OkT (T : Nat → Nat) (n r : Nat) : Prop := ∀ i, i < r → T i < n ∧ ∀ k, k < i → T k ≠ T i
theorem OkT.le {T : Nat → Nat} {n r q : Nat} (h : OkT T n r) (hq : q ≤ r) : OkT T n q := fun i hi => h i (by omega)
theorem rm_ok {T : Nat → Nat} {n : Nat} (hn : n ≤ 6) : ∀ {r}, OkT T n r → r ≤ n → rmP T n r < 2 ^ n ∧ cnP (rmP T n r) + r = n ∧ ∀ j, j < n → (btP (rmP T n r) j = true ↔ ∀ i, i < r → T i ≠ j)
  | 0, _, _ => by
    obtain ⟨h1, h2, h3, h4⟩ := full_bt n hn
    refine ⟨by show 2 ^ n - 1 < 2 ^ n; omega, h2, fun j hj => ?_⟩
    show btP (2 ^ n - 1) j = true ↔ _
    rw [h1 j (by omega), decide_eq_true hj]
    exact ⟨fun _ i hi => absurd hi (Nat.not_lt_zero _), fun _ => rfl⟩
  | r + 1, h, hr => by
    obtain ⟨a1, a2, a3⟩ := rm_ok hn (h.le (Nat.le_succ r)) (by omega)
    have h64 : rmP T n r < 64 := by have := (full_bt n hn).2.2.1; omega
    obtain ⟨t1, t2⟩ := h r (by omega)
    have hb : btP (rmP T n r) (T r) = true := (a3 (T r) t1).2 fun i hi => t2 i hi
    have h1 := cl_cn _ h64 (T r) (by omega) hb
    refine ⟨by simp only [rmP]; omega, by simp only [rmP]; omega, fun j hj => ?_⟩
    simp only [rmP]
    rw [cl_bt _ h64 (T r) (by omega) j (by omega), Bool.and_eq_true, bne_iff_ne, a3 j hj]
    constructor
    · rintro ⟨g1, g2⟩ i hi
      by_cases e : i = r
      · subst e; exact fun e => g2 e.symm
      · exact g1 i (by omega)
    · intro g
      exact ⟨fun i hi => g i (by omega), fun e => g r (by omega) e.symm⟩
def smP (M : Nat → Nat → Int) (T : Nat → Nat) : Nat → Int
  | 0 => 0
  | r + 1 => smP M T r + M r (T r)
theorem sm_bd {M : Nat → Nat → Int} {T : Nat → Nat} {n : Nat} (hM : InP M n) : ∀ {r}, r ≤ n → (∀ i, i < r → T i < n) → -(20 * (r : Int)) ≤ smP M T r ∧ smP M T r ≤ 20 * (r : Int)
  | 0, _, _ => by simp [smP]
  | r + 1, h, g => by
    have h1 := sm_bd hM (r := r) (by omega) fun i hi => g i (by omega)
    have h2 := hM r (by omega) (T r) (g r (by omega))
    simp only [smP]; omega
/-- any other choice has no more -/
theorem sm_le {M : Nat → Nat → Int} {T : Nat → Nat} {n : Nat} (hn : n ≤ 6) : ∀ {r}, OkT T n r → r ≤ n → smP M T r + bst M n (rmP T n r) ≤ bst M n (2 ^ n - 1)
  | 0, _, _ => by simp [smP, rmP]
  | r + 1, h, hr => by
    have h1 := sm_le (M := M) hn (h.le (Nat.le_succ r)) (by omega)
    obtain ⟨a1, a2, a3⟩ := rm_ok hn (h.le (Nat.le_succ r)) (by omega)
    obtain ⟨t1, t2⟩ := h r (by omega)
    have h2 := bst_ge (M := M) hn a1 t1 ((a3 (T r) t1).2 fun i hi => t2 i hi)
    unfold cand at h2
    rw [show n - cnP (rmP T n r) = r by omega] at h2
    simp only [smP, rmP]; omega
theorem sm_end {M : Nat → Nat → Int} {T : Nat → Nat} {n : Nat} (hn : n ≤ 6) (h : OkT T n n) : smP M T n ≤ bst M n (2 ^ n - 1) := by
  have h1 := sm_le (M := M) hn h (Nat.le_refl _)
  obtain ⟨a1, a2, _⟩ := rm_ok hn h (Nat.le_refl _)
  rw [cn_zero (rmP T n n) (by have := (full_bt n hn).2.2.1; omega) (by omega), bst_zero] at h1
  omega
/-- one is left while not all are taken -/
theorem rm_some {T : Nat → Nat} {n r : Nat} (hn : n ≤ 6) (h : OkT T n r) (hr : r < n) : ∃ j, j < n ∧ ∀ i, i < r → T i ≠ j := by
  obtain ⟨a1, a2, a3⟩ := rm_ok hn h (by omega)
  obtain ⟨j, hj, hb⟩ := (bt_some n hn _ a1).2 fun e => by rw [e] at a2; have : cnP 0 = 0 := by decide
                                                          omega
  exact ⟨j, hj, (a3 j hj).1 hb⟩
/-- the choice told -/
def gP (M : Nat → Nat → Int) (n : Nat) : Nat → Nat
  | 0 => 2 ^ n - 1
  | r + 1 => clP (gP M n r) (pkP M n (gP M n r))
def lP (M : Nat → Nat → Int) (n r : Nat) : Nat := pkP M n (gP M n r)
theorem gP_rm (M : Nat → Nat → Int) (n : Nat) : ∀ r, gP M n r = rmP (lP M n) n r
  | 0 => rfl
  | r + 1 => by simp only [gP, rmP]; rw [← gP_rm M n r]; rfl
theorem lP_ok {M : Nat → Nat → Int} {n : Nat} (hn : n ≤ 6) (hM : InP M n) : ∀ {r}, r ≤ n → OkT (lP M n) n r ∧ smP M (lP M n) r + bst M n (gP M n r) = bst M n (2 ^ n - 1)
  | 0, _ => ⟨fun i hi => absurd hi (Nat.not_lt_zero _), by simp [smP, gP]⟩
  | r + 1, hr => by
    obtain ⟨h1, h2⟩ := lP_ok hn hM (r := r) (by omega)
    obtain ⟨a1, a2, a3⟩ := rm_ok hn h1 (by omega)
    rw [← gP_rm] at a1 a2 a3
    obtain ⟨k1, k2, k3⟩ := pk_ok hn hM a1 fun e => by rw [e] at a2; have : cnP 0 = 0 := by decide
                                                      omega
    refine ⟨fun i hi => ?_, ?_⟩
    · by_cases e : i = r
      · subst e; exact ⟨k1, (a3 _ k1).1 k2⟩
      · exact h1 i (by omega)
    · unfold cand at k3
      rw [show n - cnP (gP M n r) = r by omega] at k3
      have e1 : lP M n r = pkP M n (gP M n r) := rfl
      simp only [smP, gP]
      rw [e1]; omega
theorem lP_all {M : Nat → Nat → Int} {n : Nat} (hn : n ≤ 6) (hM : InP M n) : OkT (lP M n) n n ∧ smP M (lP M n) n = bst M n (2 ^ n - 1) := by
  obtain ⟨h1, h2⟩ := lP_ok hn hM (Nat.le_refl n)
  obtain ⟨a1, a2, _⟩ := rm_ok hn h1 (Nat.le_refl _)
  rw [gP_rm, cn_zero (rmP (lP M n) n n) (by have := (full_bt n hn).2.2.1; omega) (by omega), bst_zero] at h2
  exact ⟨h1, by omega⟩
/-- with so much more in all of one row -/
theorem bst_sh {M N : Nat → Nat → Int} {n R : Nat} {x : Int} (hn : n ≤ 6) (hR : R < n) (hM : InP M n) (hN : InP N n) (e : ∀ i, i < n → ∀ j, j < n → N i j = M i j + if i = R then x else 0) : ∀ c s, s < 2 ^ n → cnP s = c → bst N n s = bst M n s + (if n - cnP s ≤ R then x else 0) ∧ ∀ j, j < n → btP s j = true → cand N n s j = cand M n s j + if n - cnP s ≤ R then x else 0
  | 0, s, hs, hc => by
    have h64 : s < 64 := by have := (full_bt n hn).2.2.1; omega
    obtain rfl := cn_zero s h64 hc
    rw [bst_zero, bst_zero, if_neg (by omega)]
    exact ⟨by omega, fun j hj hb => by unfold btP at hb; simp at hb⟩
  | c + 1, s, hs, hc => by
    have h64 : s < 64 := by have := (full_bt n hn).2.2.1; omega
    have h0 : s ≠ 0 := fun e => by rw [e, show cnP 0 = 0 from rfl] at hc; omega
    have hcn := (bt_some n hn s hs).1
    have hcd : ∀ j, j < n → btP s j = true → cand N n s j = cand M n s j + if n - cnP s ≤ R then x else 0 := fun j hj hb => by
      have h1 := cl_cn s h64 j (by omega) hb
      have h2 := (bst_sh hn hR hM hN e c (clP s j) (by omega) (by omega)).1
      have h3 := e (n - cnP s) (by omega) j hj
      unfold cand
      rw [h2, h3]
      by_cases c1 : n - cnP s = R
      · rw [if_pos c1, if_neg (by omega), if_pos (by omega)]; omega
      · by_cases c2 : n - cnP s ≤ R
        · rw [if_neg c1, if_pos (by omega), if_pos c2]; omega
        · rw [if_neg c1, if_neg (by omega), if_neg c2]; omega
    refine ⟨?_, hcd⟩
    obtain ⟨j, hj, hb, e1⟩ := bst_at hn hM hs h0
    obtain ⟨k, hk, hb2, e2⟩ := bst_at hn hN hs h0
    have g1 := bst_ge (M := N) hn hs hj hb
    have g2 := bst_ge (M := M) hn hs hk hb2
    have g3 := hcd j hj hb
    have g4 := hcd k hk hb2
    omega
theorem pk_sh {M N : Nat → Nat → Int} {n R : Nat} {x : Int} (hn : n ≤ 6) (hR : R < n) (hM : InP M n) (hN : InP N n) (e : ∀ i, i < n → ∀ j, j < n → N i j = M i j + if i = R then x else 0) {s : Nat} (hs : s < 2 ^ n) : pkP N n s = pkP M n s := by
  refine fsP_congr fun j _ hj => ?_
  unfold tsP
  cases hb : btP s j
  · rfl
  · obtain ⟨h1, h2⟩ := bst_sh hn hR hM hN e _ s hs rfl
    have h3 := h2 j (by omega) hb
    rw [h1, h3, Bool.true_and, Bool.true_and, Bool.eq_iff_iff, beq_iff_eq, beq_iff_eq]
    omega
theorem lP_sh {M N : Nat → Nat → Int} {n R : Nat} {x : Int} (hn : n ≤ 6) (hR : R < n) (hM : InP M n) (hN : InP N n) (e : ∀ i, i < n → ∀ j, j < n → N i j = M i j + if i = R then x else 0) : ∀ r, r ≤ n → gP N n r = gP M n r
  | 0, _ => rfl
  | r + 1, hr => by
    obtain ⟨h1, _⟩ := lP_ok hn hM (r := r) (by omega)
    obtain ⟨a1, _, _⟩ := rm_ok hn h1 (by omega)
    rw [← gP_rm] at a1
    simp only [gP]
    rw [lP_sh hn hR hM hN e r (by omega), pk_sh hn hR hM hN e a1]
theorem most_sh {M N : Nat → Nat → Int} {n R : Nat} {x : Int} (hn : n ≤ 6) (hR : R < n) (hM : InP M n) (hN : InP N n) (e : ∀ i, i < n → ∀ j, j < n → N i j = M i j + if i = R then x else 0) : bst N n (2 ^ n - 1) = bst M n (2 ^ n - 1) + x ∧ ∀ r, r < n → lP N n r = lP M n r := by
  obtain ⟨f1, f2, f3, f4⟩ := full_bt n hn
  obtain ⟨h1, _⟩ := bst_sh hn hR hM hN e n (2 ^ n - 1) (by omega) f2
  refine ⟨by rw [h1, if_pos (by omega)], fun r hr => ?_⟩
  obtain ⟨k1, _⟩ := lP_ok hn hM (r := r) (by omega)
  obtain ⟨a1, _, _⟩ := rm_ok hn k1 (by omega)
  rw [← gP_rm] at a1
  unfold lP
  rw [lP_sh hn hR hM hN e r (by omega), pk_sh hn hR hM hN e a1]
end Go.Proofs.Ytenlnkcmabphfaa
