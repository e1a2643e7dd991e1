/- Plain numbers: changes of five places; they have an order of at most six, the same as that of the other product. No condition. -/
namespace Go.Proofs.Ytmhicimjoidonaa
/-- a change of five places -/
def perm (F : Nat → Int) : Prop := (∀ i, i < 5 → 0 ≤ F i ∧ F i ≤ 4) ∧ ∀ j, j < 5 → ∀ i, i < j → F i ≠ F j
instance (F : Nat → Int) : Decidable (perm F) := by unfold perm; infer_instance
/-- one change, and another one -/
def cmp (F G : Nat → Int) : Nat → Int := fun i => G (F i).toNat
/-- the identity -/
def idF : Nat → Int := fun i => i
/-- done k + 1 times -/
def pw (F : Nat → Int) : Nat → Nat → Int
  | 0 => F
  | k + 1 => cmp (pw F k) F
theorem cmp_bd {F G : Nat → Int} (hF : ∀ i, i < 5 → 0 ≤ F i ∧ F i ≤ 4) (hG : ∀ i, i < 5 → 0 ≤ G i ∧ G i ≤ 4) : ∀ i, i < 5 → 0 ≤ cmp F G i ∧ cmp F G i ≤ 4 := fun i hi => by
  have := hF i hi
  exact hG _ (by omega)
theorem pw_bd {F : Nat → Int} (hF : ∀ i, i < 5 → 0 ≤ F i ∧ F i ≤ 4) (k : Nat) : ∀ i, i < 5 → 0 ≤ pw F k i ∧ pw F k i ≤ 4 := by
  induction k with
  | zero => exact hF
  | succ k ih => exact cmp_bd ih hF
/-- the order less one: the first k at which nothing has changed -/
def Ord (F : Nat → Int) (o : Nat) : Prop := (∀ i, i < 5 → pw F o i = idF i) ∧ (∀ k, k < o → ¬ ∀ i, i < 5 → pw F k i = idF i)

theorem perm.inj {F : Nat → Int} (h : perm F) {i j : Nat} (hi : i < 5) (hj : j < 5) (hne : i ≠ j) : F i ≠ F j := by
  rcases Nat.lt_or_gt_of_ne hne with l | l
  · exact h.2 j hj i l
  · exact fun e => h.2 i hi j l e.symm
theorem perm_cmp {F G : Nat → Int} (hF : perm F) (hG : perm G) : perm (cmp F G) := by
  refine ⟨cmp_bd hF.1 hG.1, fun j hj i hi => ?_⟩
  have h1 := hF.1 i (by omega)
  have h2 := hF.1 j hj
  have h3 := hF.2 j hj i hi
  exact hG.inj (by omega) (by omega) (by omega)
/-- how often x stands among the first k -/
def cnt (F : Nat → Int) (x : Int) : Nat → Int
  | 0 => 0
  | k + 1 => cnt F x k + if F k = x then 1 else 0
theorem cnt_nonneg (F : Nat → Int) (x : Int) (k : Nat) : 0 ≤ cnt F x k ∧ cnt F x k ≤ k := by
  induction k with
  | zero => simp [cnt]
  | succ k ih => simp only [cnt]; split <;> omega
theorem cnt_mono (F : Nat → Int) (x : Int) {j k : Nat} (h : j ≤ k) : cnt F x j ≤ cnt F x k := by
  induction k with
  | zero => obtain rfl : j = 0 := by omega
            omega
  | succ k ih =>
    by_cases e : j = k + 1
    · subst e; omega
    · have := ih (by omega)
      simp only [cnt]; split <;> omega
theorem cnt_pos {F : Nat → Int} {x : Int} {k i : Nat} (hi : i < k) (h : F i = x) : 1 ≤ cnt F x k := by
  have h1 := cnt_mono F x (show i + 1 ≤ k by omega)
  have h2 := cnt_nonneg F x i
  simp only [cnt, h, if_true] at h1
  omega
theorem cnt_two {F : Nat → Int} {x : Int} {k i j : Nat} (hi : i < j) (hj : j < k) (h : F i = x) (h' : F j = x) : 2 ≤ cnt F x k := by
  have h1 := cnt_mono F x (show j + 1 ≤ k by omega)
  have h2 := cnt_pos hi h
  simp only [cnt, h', if_true] at h1
  omega
theorem cnt_ex {F : Nat → Int} {x : Int} {k : Nat} (h : 1 ≤ cnt F x k) : ∃ i, i < k ∧ F i = x := by
  induction k with
  | zero => simp [cnt] at h
  | succ k ih =>
    by_cases e : F k = x
    · exact ⟨k, by omega, e⟩
    · simp only [cnt, e, if_false] at h
      obtain ⟨i, hi, hx⟩ := ih (by omega)
      exact ⟨i, by omega, hx⟩
theorem cnt_le_one {F : Nat → Int} {x : Int} {k : Nat} (h : ∀ j, j < k → ∀ i, i < j → F i ≠ F j) : cnt F x k ≤ 1 := by
  induction k with
  | zero => simp [cnt]
  | succ k ih =>
    have := ih fun j hj i hi => h j (by omega) i hi
    simp only [cnt]
    by_cases e : F k = x
    · rw [if_pos e]
      by_cases e2 : 1 ≤ cnt F x k
      · obtain ⟨i, hi, hx⟩ := cnt_ex e2
        exact absurd (hx.trans e.symm) (h k (by omega) i hi)
      · omega
    · rw [if_neg e]; omega
theorem cnt_sum {F : Nat → Int} {k : Nat} (h : ∀ i, i < k → 0 ≤ F i ∧ F i ≤ 4) : cnt F 0 k + cnt F 1 k + cnt F 2 k + cnt F 3 k + cnt F 4 k = k := by
  induction k with
  | zero => simp [cnt]
  | succ k ih =>
    have := ih fun i hi => h i (by omega)
    have hk := h k (by omega)
    simp only [cnt]
    split <;> split <;> split <;> split <;> split <;> omega
theorem cnt_sum_le (F : Nat → Int) (k : Nat) : cnt F 0 k + cnt F 1 k + cnt F 2 k + cnt F 3 k + cnt F 4 k ≤ k := by
  induction k with
  | zero => simp [cnt]
  | succ k ih =>
    simp only [cnt]
    split <;> split <;> split <;> split <;> split <;> omega
theorem cnt_sum_out {F : Nat → Int} {k i : Nat} (hi : i < k) (h : ¬ (0 ≤ F i ∧ F i ≤ 4)) : cnt F 0 k + cnt F 1 k + cnt F 2 k + cnt F 3 k + cnt F 4 k + 1 ≤ k := by
  induction k with
  | zero => omega
  | succ k ih =>
    by_cases e : i = k
    · subst e
      have := cnt_sum_le F i
      simp only [cnt]
      split <;> split <;> split <;> split <;> split <;> omega
    · have := ih (by omega)
      simp only [cnt]
      split <;> split <;> split <;> split <;> split <;> omega
theorem perm_cnt {F : Nat → Int} : perm F ↔ ∀ x : Nat, x < 5 → cnt F x 5 = 1 := by
  constructor
  · intro h x hx
    have hs := cnt_sum h.1
    have h0 := cnt_le_one (x := 0) h.2
    have h1 := cnt_le_one (x := 1) h.2
    have h2 := cnt_le_one (x := 2) h.2
    have h3 := cnt_le_one (x := 3) h.2
    have h4 := cnt_le_one (x := 4) h.2
    match x, hx with
    | 0, _ => show cnt F 0 5 = 1; omega
    | 1, _ => show cnt F 1 5 = 1; omega
    | 2, _ => show cnt F 2 5 = 1; omega
    | 3, _ => show cnt F 3 5 = 1; omega
    | 4, _ => show cnt F 4 5 = 1; omega
  · intro h
    have h0 : cnt F 0 5 = 1 := h 0 (by omega)
    have h1 : cnt F 1 5 = 1 := h 1 (by omega)
    have h2 : cnt F 2 5 = 1 := h 2 (by omega)
    have h3 : cnt F 3 5 = 1 := h 3 (by omega)
    have h4 : cnt F 4 5 = 1 := h 4 (by omega)
    have hr : ∀ i, i < 5 → 0 ≤ F i ∧ F i ≤ 4 := fun i hi => by
      by_cases e : 0 ≤ F i ∧ F i ≤ 4
      · exact e
      · have := cnt_sum_out hi e; omega
    refine ⟨hr, fun j hj i hi e => ?_⟩
    have hrj := hr j hj
    have h2' := cnt_two hi hj e rfl
    have := h (F j).toNat (by omega)
    rw [show (((F j).toNat : Nat) : Int) = F j by omega] at this
    omega
theorem perm_onto {F : Nat → Int} (h : perm F) {x : Nat} (hx : x < 5) : ∃ i, i < 5 ∧ F i = x := cnt_ex (by have := perm_cnt.1 h x hx; omega)
/-- the first number with a property -/
theorem first_of {P : Nat → Prop} : ∀ k, P k → ∃ o, o ≤ k ∧ P o ∧ ∀ j, j < o → ¬ P j := by
  intro k
  induction k using Nat.strongRecOn with
  | ind k ih =>
    intro hk
    by_cases h : ∃ j, j < k ∧ P j
    · obtain ⟨j, hj, hp⟩ := h
      obtain ⟨o, ho, h1, h2⟩ := ih j hj hp
      exact ⟨o, by omega, h1, h2⟩
    · exact ⟨k, Nat.le_refl _, hk, fun j hj hp => h ⟨j, hj, hp⟩⟩
/-- all changes, by numbers -/
def enc (n i : Nat) : Nat := n / 5 ^ i % 5
def stp (n : Nat) : Nat → Nat → Nat
  | 0, i => enc n i
  | k + 1, i => enc n (stp n k i)
def chk (n : Nat) : Bool := !((List.range 5).all fun j => (List.range j).all fun i => enc n i != enc n j) || (List.range 6).any fun k => (List.range 5).all fun i => stp n k i == i
theorem chk_all : (List.range 3125).all chk = true := by decide +kernel
theorem order_ex {F : Nat → Int} (h : perm F) : ∃ k, k ≤ 5 ∧ ∀ i, i < 5 → pw F k i = idF i := by
  have r0 := h.1 0 (by omega)
  have r1 := h.1 1 (by omega)
  have r2 := h.1 2 (by omega)
  have r3 := h.1 3 (by omega)
  have r4 := h.1 4 (by omega)
  obtain ⟨n, hn⟩ : ∃ n : Nat, n = (F 0).toNat + 5 * (F 1).toNat + 25 * (F 2).toNat + 125 * (F 3).toNat + 625 * (F 4).toNat := ⟨_, rfl⟩
  have hlt : n < 3125 := by omega
  have henc : ∀ i, i < 5 → (enc n i : Int) = F i := fun i hi => by
    match i, hi with
    | 0, _ => simp only [enc]; omega
    | 1, _ => simp only [enc]; omega
    | 2, _ => simp only [enc]; omega
    | 3, _ => simp only [enc]; omega
    | 4, _ => simp only [enc]; omega
  have hlt5 : ∀ i, enc n i < 5 := fun i => Nat.mod_lt _ (by omega)
  have hst : ∀ k i, i < 5 → (stp n k i : Int) = pw F k i ∧ stp n k i < 5 := by
    intro k
    induction k with
    | zero => intro i hi; exact ⟨henc i hi, hlt5 i⟩
    | succ k ih =>
      intro i hi
      obtain ⟨h1, h2⟩ := ih i hi
      refine ⟨?_, hlt5 _⟩
      show ((enc n (stp n k i) : Nat) : Int) = F (pw F k i).toNat
      rw [henc _ h2, ← h1, Int.toNat_natCast]
  have hc := List.all_eq_true.1 chk_all n (by simpa using hlt)
  unfold chk at hc
  have hd : ((List.range 5).all fun j => (List.range j).all fun i => enc n i != enc n j) = true := by
    rw [List.all_eq_true]
    intro j hj
    rw [List.all_eq_true]
    intro i hi
    have hj' : j < 5 := by simpa using hj
    have hi' : i < j := by simpa using hi
    rw [bne_iff_ne]
    intro e
    have := h.2 j hj' i hi'
    rw [← henc i (by omega), ← henc j hj', e] at this
    exact this rfl
  rw [hd] at hc
  simp only [Bool.not_true, Bool.false_or, List.any_eq_true, List.all_eq_true, List.mem_range, beq_iff_eq] at hc
  obtain ⟨k, hk, hall⟩ := hc
  exact ⟨k, by omega, fun i hi => by rw [← (hst k i hi).1, hall i hi]; rfl⟩
theorem Ord_ex {F : Nat → Int} (h : perm F) : ∃ o, o ≤ 5 ∧ Ord F o := by
  obtain ⟨k, hk, hid⟩ := order_ex h
  obtain ⟨o, ho, h1, h2⟩ := first_of (P := fun k => ∀ i, i < 5 → pw F k i = idF i) k hid
  exact ⟨o, by omega, h1, h2⟩
/-- one and another one: a, then the other product's power, is the power, then a -/
theorem pw_slide (a b : Nat → Int) (k : Nat) : ∀ i, i < 5 → pw (cmp b a) k (a i).toNat = a (pw (cmp a b) k i).toNat := by
  induction k with
  | zero => intro i hi; rfl
  | succ k ih =>
    intro i hi
    show cmp b a (pw (cmp b a) k (a i).toNat).toNat = a (cmp a b (pw (cmp a b) k i).toNat).toNat
    rw [ih i hi]
    rfl
theorem pw_turn {a b : Nat → Int} (ha : perm a) {k : Nat} (h : ∀ i, i < 5 → pw (cmp a b) k i = idF i) : ∀ i, i < 5 → pw (cmp b a) k i = idF i := by
  intro y hy
  obtain ⟨i, hi, hx⟩ := perm_onto ha hy
  have := pw_slide a b k i hi
  rw [h i hi, hx, Int.toNat_natCast] at this
  rw [this]
  show a (Int.toNat (i : Int)) = _
  rw [Int.toNat_natCast, hx]; rfl
theorem Ord_turn {a b : Nat → Int} (ha : perm a) (hb : perm b) {o : Nat} (h : Ord (cmp a b) o) : Ord (cmp b a) o :=
  ⟨pw_turn ha h.1, fun k hk hh => h.2 k hk (pw_turn hb hh)⟩
end Go.Proofs.Ytmhicimjoidonaa
