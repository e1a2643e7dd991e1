/- The plain law of the signed sum column by column, without fractions (Bareiss). No condition. -/
import Derived.Test.YtenlnkcmabphfaaDetLaw
namespace Go.Proofs.Ytenlnkcmabphfaa
set_option linter.unusedVariables false
theorem dt_last (e : Int) : ∀ (n : Nat) (A : Nat → Nat → Int), (∀ b, b < n → A n b = 0) → dt e (n + 1) A = dt e n A * A n n
  | 0, A, _ => by
    show 0 + e ^ 0 * (A 0 0 * 1) = 1 * A 0 0
    rw [Int.pow_zero]; omega
  | n + 1, A, h => by
    rw [dt_succ]
    show sumI _ (n + 1) + e ^ (n + 1) * (A (n + 1) 0 * _) = _
    rw [h 0 (by omega), Int.zero_mul, Int.mul_zero, Int.add_zero, dt_succ, ← sumI_mulr]
    refine sumI_congr fun i hi => ?_
    have e1 : skp i n = n + 1 := skp_ge (by omega)
    have h1 := dt_last e n (fun a b => A (skp i a) (b + 1)) fun b hb => by
      show A (skp i n) (b + 1) = 0
      rw [e1]; exact h _ (by omega)
    rw [h1]
    show _ = _ * A (n + 1) (n + 1)
    simp only [e1]
    grind
theorem dt_eqrow {n : Nat} {A : Nat → Nat → Int} {p q : Nat} (hp : p < n) (hq : q < n) (hne : p ≠ q) (h : ∀ j, j < n → A p j = A q j) : dt (-1) n A = 0 := by
  have h1 := dt_swp (-1) (by decide) A hp hq hne
  have h2 : dt (-1) n (fun i j => A (if i = p then q else if i = q then p else i) j) = dt (-1) n A := dt_congr _ fun i hi j hj => by
    by_cases a : i = p
    · rw [if_pos a, a]; exact (h j hj).symm
    · rw [if_neg a]
      by_cases b : i = q
      · rw [if_pos b, b]; exact h j hj
      · rw [if_neg b]
  omega
/-- some of the rows above are added to a row -/
theorem dt_rowop {n r : Nat} {A : Nat → Nat → Int} (x : Int) (l : Nat → Int) (hr : r < n) : ∀ (c : Nat) (B : Nat → Nat → Int), c ≤ r → (∀ j, j < n → B r j = x * A r j + sumI (fun t => l t * A t j) c) → (∀ i, i < n → i ≠ r → ∀ j, j < n → B i j = A i j) → dt (-1) n B = x * dt (-1) n A
  | 0, B, _, h, hs => dt_scale _ x r hr (fun j hj => by rw [h j hj]; exact Int.add_zero _) hs
  | c + 1, B, hc, h, hs => by
    have h1 := dt_rowop x l hr c (fun i j => if i = r then x * A r j + sumI (fun t => l t * A t j) c else A i j) (by omega) (fun j hj => if_pos rfl) fun i hi hne j hj => if_neg hne
    have h2 : dt (-1) n (fun i j => if i = r then l c * A c j else A i j) = 0 := by
      have h3 := dt_scale (-1) (l c) (A := fun i j => if i = r then l c * A c j else A i j) (B := fun i j => if i = r then A c j else A i j) r hr (fun j hj => by simp) fun i hi hne j hj => by simp [hne]
      rw [h3, dt_eqrow (p := c) (q := r) (by omega) hr (by omega) fun j hj => by
        have : c ≠ r := by omega
        simp [this], Int.mul_zero]
    have h3 := dt_add (-1) (A := B) (B := fun i j => if i = r then x * A r j + sumI (fun t => l t * A t j) c else A i j) (C := fun i j => if i = r then l c * A c j else A i j) r hr (fun j hj => by
      simp only [if_pos]
      rw [h j hj]
      exact (Int.add_assoc _ _ _).symm) fun i hi hne j hj => by simp only [if_neg hne]; exact ⟨hs i hi hne j hj, hs i hi hne j hj⟩
    rw [h3, h1, h2, Int.add_zero]
theorem dt_lowzero (e : Int) : ∀ (c n : Nat) (M : Nat → Nat → Int), c < n → (∀ i, c ≤ i → i < n → ∀ j, j ≤ c → M i j = 0) → dt e n M = 0
  | c, 0, M, hc, _ => absurd hc (Nat.not_lt_zero _)
  | 0, n + 1, M, hc, h => by
    rw [dt_succ]
    exact sumI_zero fun i hi => by rw [h i (Nat.zero_le _) hi 0 (Nat.le_refl _), Int.zero_mul, Int.mul_zero]
  | c + 1, n + 1, M, hc, h => by
    rw [dt_succ]
    refine sumI_zero fun i hi => ?_
    rcases Nat.lt_or_ge i (c + 1) with l | l
    · rw [dt_lowzero e c n (fun a b => M (skp i a) (b + 1)) (by omega) fun a ha han b hb => by
        show M (skp i a) (b + 1) = 0
        rw [skp_ge (by omega)]
        exact h _ (by omega) (by omega) _ (by omega), Int.mul_zero, Int.mul_zero]
    · rw [h i l hi 0 (by omega), Int.zero_mul, Int.mul_zero]
/-- the first c columns of row i are none -/
def vcB (a : Nat → Nat → Int) (c i j : Nat) : Int := if j < c then 0 else a i j
/-- a is made of A: row by row, c columns done -/
structure Inv (A : Nat → Nat → Int) (n c : Nat) (a : Nat → Nat → Int) (last : Int) : Prop where
  lead : last = dt (-1) c A
  ne : last ≠ 0
  row : ∀ i, c ≤ i → i < n → ∃ (D : Int) (l : Nat → Int), D ≠ 0 ∧ ∀ j, j < n → D * vcB a c i j = D * last * A i j + sumI (fun t => l t * A t j) c
/-- rows before c and row i, columns before c and column j -/
def mnr (A : Nat → Nat → Int) (c i j : Nat) : Nat → Nat → Int := fun x y => A (if x < c then x else i) (if y < c then y else j)
theorem mnr_core (A : Nat → Nat → Int) (c i j : Nat) : dt (-1) c (mnr A c i j) = dt (-1) c A := dt_congr _ fun x hx y hy => by unfold mnr; rw [if_pos hx, if_pos hy]
theorem mul_cancel {x y z : Int} (hx : x ≠ 0) (h : x * y = x * z) : y = z := Int.eq_of_mul_eq_mul_left hx h
theorem Inv.minor {A a : Nat → Nat → Int} {n c : Nat} {last : Int} (h : Inv A n c a last) {i j : Nat} (hi : c ≤ i) (hin : i < n) (hj : c ≤ j) (hjn : j < n) : a i j = dt (-1) (c + 1) (mnr A c i j) := by
  obtain ⟨D, l, hD, hrow⟩ := h.row i hi hin
  have h1 := dt_rowop (n := c + 1) (r := c) (A := mnr A c i j) (D * last) l (by omega) c (fun x y => if x = c then D * vcB a c i (if y < c then y else j) else mnr A c i j x y) (Nat.le_refl _)
    (fun y hy => by
      simp only [if_pos]
      have hyn : (if y < c then y else j) < n := by split <;> omega
      rw [hrow _ hyn]
      have e1 : mnr A c i j c y = A i (if y < c then y else j) := by unfold mnr; rw [if_neg (Nat.lt_irrefl c)]
      rw [e1]
      congr 1
      exact sumI_congr fun t ht => by unfold mnr; rw [if_pos ht]) fun x hx hne y hy => if_neg hne
  have h2 := dt_last (-1) c (fun x y => if x = c then D * vcB a c i (if y < c then y else j) else mnr A c i j x y) fun b hb => by
    simp only [if_pos, if_pos hb]
    unfold vcB
    rw [if_pos hb, Int.mul_zero]
  have h3 : dt (-1) c (fun x y => if x = c then D * vcB a c i (if y < c then y else j) else mnr A c i j x y) = last := by
    rw [h.lead, ← mnr_core A c i j]
    exact dt_congr _ fun x hx y hy => if_neg (by omega)
  rw [h2, h3] at h1
  simp only [if_pos, if_neg (Nat.lt_irrefl c)] at h1
  have h4 : vcB a c i j = a i j := if_neg (by omega)
  rw [h4] at h1
  exact mul_cancel (Int.mul_ne_zero hD h.ne) (by rw [← h1]; grind)
theorem Inv.piv {A a : Nat → Nat → Int} {n c : Nat} {last : Int} (h : Inv A n c a last) (hc : c < n) : a c c = dt (-1) (c + 1) A := by
  rw [h.minor (Nat.le_refl _) hc (Nat.le_refl _) hc]
  exact dt_congr _ fun x hx y hy => by
    unfold mnr
    rw [show (if x < c then x else c) = x by split <;> omega, show (if y < c then y else c) = y by split <;> omega]
theorem Inv.comb {A a : Nat → Nat → Int} {n c : Nat} {last : Int} (h : Inv A n c a last) {i : Nat} (hi : c < i) (hin : i < n) :
    ∃ (D : Int) (l : Nat → Int), D ≠ 0 ∧ ∀ j, j < n → D * (vcB a c i j * a c c - a i c * vcB a c c j) = D * last * a c c * A i j + sumI (fun t => l t * A t j) (c + 1) := by
  obtain ⟨D1, l1, hD1, h1⟩ := h.row i (by omega) hin
  obtain ⟨D2, l2, hD2, h2⟩ := h.row c (Nat.le_refl _) (by omega)
  refine ⟨D1 * D2, fun t => if t < c then a c c * D2 * l1 t - a i c * D1 * l2 t else - (a i c * D1 * D2 * last), Int.mul_ne_zero hD1 hD2, fun j hj => ?_⟩
  have e1 : D1 * D2 * (vcB a c i j * a c c - a i c * vcB a c c j) = a c c * D2 * (D1 * vcB a c i j) - a i c * D1 * (D2 * vcB a c c j) := by grind
  rw [e1, h1 j hj, h2 j hj]
  show _ = _ + (sumI (fun t => (if t < c then a c c * D2 * l1 t - a i c * D1 * l2 t else - (a i c * D1 * D2 * last)) * A t j) c + (if c < c then a c c * D2 * l1 c - a i c * D1 * l2 c else - (a i c * D1 * D2 * last)) * A c j)
  rw [if_neg (Nat.lt_irrefl c)]
  have e2 : sumI (fun t => (if t < c then a c c * D2 * l1 t - a i c * D1 * l2 t else - (a i c * D1 * D2 * last)) * A t j) c = a c c * D2 * sumI (fun t => l1 t * A t j) c - a i c * D1 * sumI (fun t => l2 t * A t j) c := by
    rw [show a c c * D2 * sumI (fun t => l1 t * A t j) c - a i c * D1 * sumI (fun t => l2 t * A t j) c = a c c * D2 * sumI (fun t => l1 t * A t j) c + (- (a i c * D1)) * sumI (fun t => l2 t * A t j) c by grind, ← sumI_mul, ← sumI_mul, ← sumI_add]
    refine sumI_congr fun t ht => ?_
    rw [if_pos ht]
    grind
  rw [e2]
  grind
theorem Inv.div {A a : Nat → Nat → Int} {n c : Nat} {last : Int} (h : Inv A n c a last) (hp : a c c ≠ 0) {i j : Nat} (hi : c < i) (hin : i < n) (hj : c < j) (hjn : j < n) : a i j * a c c - a i c * a c j = last * dt (-1) (c + 2) (mnr A (c + 1) i j) := by
  obtain ⟨D, l, hD, hrow⟩ := h.comb hi hin
  have h1 := dt_rowop (n := c + 2) (r := c + 1) (A := mnr A (c + 1) i j) (D * last * a c c) l (by omega) (c + 1) (fun x y => if x = c + 1 then D * (vcB a c i (if y < c + 1 then y else j) * a c c - a i c * vcB a c c (if y < c + 1 then y else j)) else mnr A (c + 1) i j x y) (Nat.le_refl _)
    (fun y hy => by
      simp only [if_pos]
      have hyn : (if y < c + 1 then y else j) < n := by split <;> omega
      rw [hrow _ hyn]
      have e1 : mnr A (c + 1) i j (c + 1) y = A i (if y < c + 1 then y else j) := by unfold mnr; rw [if_neg (Nat.lt_irrefl (c + 1))]
      rw [e1]
      congr 1
      exact sumI_congr fun t ht => by unfold mnr; rw [if_pos ht]) fun x hx hne y hy => if_neg hne
  have h2 := dt_last (-1) (c + 1) (fun x y => if x = c + 1 then D * (vcB a c i (if y < c + 1 then y else j) * a c c - a i c * vcB a c c (if y < c + 1 then y else j)) else mnr A (c + 1) i j x y) fun b hb => by
    simp only [if_pos, if_pos hb]
    unfold vcB
    by_cases l : b < c
    · rw [if_pos l, if_pos l, Int.zero_mul, Int.mul_zero]; simp
    · obtain rfl : b = c := by omega
      rw [if_neg l, if_neg l, Int.sub_self, Int.mul_zero]
  have h3 : dt (-1) (c + 1) (fun x y => if x = c + 1 then D * (vcB a c i (if y < c + 1 then y else j) * a c c - a i c * vcB a c c (if y < c + 1 then y else j)) else mnr A (c + 1) i j x y) = a c c := by
    rw [h.piv (by omega), ← mnr_core A (c + 1) i j]
    exact dt_congr _ fun x hx y hy => if_neg (by omega)
  rw [h2, h3] at h1
  simp only [if_pos, if_neg (Nat.lt_irrefl (c + 1))] at h1
  have h4 : vcB a c i j = a i j := if_neg (by omega)
  have h5 : vcB a c c j = a c j := if_neg (by omega)
  rw [h4, h5] at h1
  exact mul_cancel (Int.mul_ne_zero hD hp) (by rw [show D * a c c * (a i j * a c c - a i c * a c j) = a c c * (D * (a i j * a c c - a i c * a c j)) by grind, h1]; grind)
theorem Inv.next {A a a2 : Nat → Nat → Int} {n c : Nat} {last : Int} (h : Inv A n c a last) (hc : c < n) (hp : a c c ≠ 0) (h2 : ∀ i, c < i → i < n → ∀ j, c < j → j < n → a i j * a c c - a i c * a c j = last * a2 i j) : Inv A n (c + 1) a2 (a c c) := by
  refine ⟨h.piv hc, hp, fun i hi hin => ?_⟩
  obtain ⟨D, l, hD, hrow⟩ := h.comb (i := i) (by omega) hin
  refine ⟨D * last, l, Int.mul_ne_zero hD h.ne, fun j hj => ?_⟩
  rw [← hrow j hj]
  unfold vcB
  rcases Nat.lt_trichotomy j c with k | k | k
  · rw [if_pos (by omega), if_pos k, if_pos k, Int.zero_mul, Int.mul_zero, Int.mul_zero]; simp
  · subst k
    rw [if_pos (by omega), if_neg (Nat.lt_irrefl j), if_neg (Nat.lt_irrefl j), Int.sub_self, Int.mul_zero, Int.mul_zero]
  · rw [if_neg (by omega), if_neg (by omega), if_neg (by omega), h2 i (by omega) hin j k hj]
    grind
theorem Inv.zero {A a : Nat → Nat → Int} {n c : Nat} {last : Int} (h : Inv A n c a last) (hc : c < n) (hz : ∀ i, c ≤ i → i < n → a i c = 0) : dt (-1) n A = 0 := by
  have key : ∀ k, c + k ≤ n → ∃ (X : Int) (M : Nat → Nat → Int), X ≠ 0 ∧ dt (-1) n M = X * dt (-1) n A ∧ (∀ i, c ≤ i → i < c + k → ∀ j, j ≤ c → M i j = 0) ∧ ∀ i, i < n → (i < c ∨ c + k ≤ i) → ∀ j, j < n → M i j = A i j := by
    intro k
    induction k with
    | zero => exact fun _ => ⟨1, A, by decide, by rw [Int.one_mul], fun i h1 h2 => by omega, fun i _ _ j _ => rfl⟩
    | succ k ih =>
      intro hk
      obtain ⟨X, M, hX, hM, h1, h2⟩ := ih (by omega)
      obtain ⟨D, l, hD, hrow⟩ := h.row (c + k) (by omega) (by omega)
      have h3 := dt_rowop (n := n) (r := c + k) (A := M) (D * last) l (by omega) c (fun x y => if x = c + k then D * vcB a c (c + k) y else M x y) (by omega) (fun y hy => by
        simp only [if_pos]
        rw [hrow y hy, h2 (c + k) (by omega) (by omega) y hy]
        congr 1
        exact sumI_congr fun t ht => by rw [h2 t (by omega) (by omega) y hy]) fun x hx hne y hy => if_neg hne
      refine ⟨D * last * X, fun x y => if x = c + k then D * vcB a c (c + k) y else M x y, Int.mul_ne_zero (Int.mul_ne_zero hD h.ne) hX, by rw [h3, hM]; grind, fun i ha hb j hj => ?_, fun i ha hb j hj => ?_⟩
      · by_cases e : i = c + k
        · simp only [if_pos e]
          unfold vcB
          rcases Nat.lt_or_ge j c with q | q
          · rw [if_pos q, Int.mul_zero]
          · obtain rfl : j = c := by omega
            rw [if_neg (by omega), hz _ (by omega) (by omega), Int.mul_zero]
        · simp only [if_neg e]
          exact h1 i ha (by omega) j hj
      · have e : i ≠ c + k := by omega
        simp only [if_neg e]
        exact h2 i ha (by omega) j hj
  obtain ⟨X, M, hX, hM, h1, _⟩ := key (n - c) (by omega)
  have h3 := dt_lowzero (-1) c n M hc fun i ha hb j hj => h1 i ha (by omega) j hj
  rw [hM] at h3
  rcases Int.mul_eq_zero.1 h3 with k | k
  · exact absurd k hX
  · exact k
/-- c columns are done, with rows exchanged; s is the sign -/
structure Bar (A : Nat → Nat → Int) (M : Int) (n c : Nat) (a : Nat → Nat → Int) (s last : Int) : Prop where
  sg : s = 1 ∨ s = -1
  made : ∃ A', Inv A' n c a last ∧ dt (-1) n A = s * dt (-1) n A' ∧ ∀ i, i < n → ∀ j, j < n → -M ≤ A' i j ∧ A' i j ≤ M
theorem Bar.start {A : Nat → Nat → Int} {M : Int} {n : Nat} (h : ∀ i, i < n → ∀ j, j < n → -M ≤ A i j ∧ A i j ≤ M) : Bar A M n 0 A 1 1 :=
  ⟨.inl rfl, A, ⟨rfl, by decide, fun i _ _ => ⟨1, fun _ => 0, by decide, fun j _ => by unfold vcB; rw [if_neg (Nat.not_lt_zero _)]; show _ = 1 * 1 * A i j + 0; omega⟩⟩, by rw [Int.one_mul], h⟩
theorem Bar.bd {A a : Nat → Nat → Int} {M : Int} {n c : Nat} {s last : Int} (h : Bar A M n c a s last) {i j : Nat} (hi : c ≤ i) (hin : i < n) (hj : c ≤ j) (hjn : j < n) : -bdD M (c + 1) ≤ a i j ∧ a i j ≤ bdD M (c + 1) := by
  obtain ⟨A', hI, _, hb⟩ := h.made
  rw [hI.minor hi hin hj hjn]
  exact dt_bd _ M (.inr rfl) fun x hx y hy => hb _ (by split <;> omega) _ (by split <;> omega)
theorem Bar.last_bd {A a : Nat → Nat → Int} {M : Int} {n c : Nat} {s last : Int} (h : Bar A M n c a s last) (hc : c ≤ n) : (-bdD M c ≤ last ∧ last ≤ bdD M c) ∧ last ≠ 0 := by
  obtain ⟨A', hI, _, hb⟩ := h.made
  refine ⟨?_, hI.ne⟩
  rw [hI.lead]
  exact dt_bd _ M (.inr rfl) fun x hx y hy => hb _ (by omega) _ (by omega)
theorem Bar.zero {A a : Nat → Nat → Int} {M : Int} {n c : Nat} {s last : Int} (h : Bar A M n c a s last) (hc : c < n) (hz : ∀ i, c ≤ i → i < n → a i c = 0) : dt (-1) n A = 0 := by
  obtain ⟨A', hI, hA, hb⟩ := h.made
  rw [hA, hI.zero hc hz, Int.mul_zero]
theorem Bar.done {A a : Nat → Nat → Int} {M : Int} {n : Nat} {s last : Int} (h : Bar A M n n a s last) : dt (-1) n A = s * last := by
  obtain ⟨A', hI, hA, hb⟩ := h.made
  rw [hA, hI.lead]
/-- rows c and q change places -/
def swB (c q i : Nat) : Nat := if i = c then q else if i = q then c else i
theorem Bar.swap {A a a1 : Nat → Nat → Int} {M : Int} {n c q : Nat} {s last : Int} (h : Bar A M n c a s last) (hq : c < q) (hqn : q < n) (h1 : ∀ i, c ≤ i → i < n → ∀ j, j < n → a1 i j = a (swB c q i) j) : Bar A M n c a1 (-s) last := by
  obtain ⟨A', hI, hA, hb⟩ := h.made
  have hlt : ∀ i, i < n → swB c q i < n := fun i hi => by unfold swB; split <;> (try split) <;> omega
  refine ⟨by rcases h.sg with k | k <;> rw [k] <;> decide, fun i j => A' (swB c q i) j, ⟨?_, hI.ne, fun i hi hin => ?_⟩, ?_, fun i hi j hj => hb _ (hlt i hi) j hj⟩
  · rw [hI.lead]
    exact dt_congr _ fun i hi j hj => by
      rw [show swB c q i = i by unfold swB; rw [if_neg (by omega), if_neg (by omega)]]
  · obtain ⟨D, l, hD, hrow⟩ := hI.row (swB c q i) (by unfold swB; split <;> (try split) <;> omega) (hlt i hin)
    refine ⟨D, l, hD, fun j hj => ?_⟩
    have e1 : vcB a1 c i j = vcB a c (swB c q i) j := by unfold vcB; rw [h1 i hi hin j hj]
    rw [e1, hrow j hj]
    congr 1
    exact sumI_congr fun t ht => by rw [show swB c q t = t by unfold swB; rw [if_neg (by omega), if_neg (by omega)]]
  · have h2 := dt_swp (-1) (by decide) A' (p := c) (q := q) (by omega) hqn (by omega)
    have h3 : dt (-1) n (fun i j => A' (swB c q i) j) = -1 * dt (-1) n A' := h2
    rw [h3, hA]; grind
theorem Bar.div {A a : Nat → Nat → Int} {M : Int} {n c : Nat} {s last : Int} (h : Bar A M n c a s last) (hp : a c c ≠ 0) : ∃ m : Nat → Nat → Int, ∀ i, c < i → i < n → ∀ j, c < j → j < n → a i j * a c c - a i c * a c j = last * m i j := by
  obtain ⟨A', hI, hA, hb⟩ := h.made
  exact ⟨_, fun i hi hin j hj hjn => hI.div hp hi hin hj hjn⟩
theorem Bar.next {A a a2 : Nat → Nat → Int} {M : Int} {n c : Nat} {s last : Int} (h : Bar A M n c a s last) (hc : c < n) (hp : a c c ≠ 0) (h2 : ∀ i, c < i → i < n → ∀ j, c < j → j < n → a i j * a c c - a i c * a c j = last * a2 i j) : Bar A M n (c + 1) a2 s (a c c) := by
  obtain ⟨A', hI, hA, hb⟩ := h.made
  exact ⟨h.sg, A', hI.next hc hp h2, hA, hb⟩
end Go.Proofs.Ytenlnkcmabphfaa
