/- What Rects tells: no less than places that fool; for both values together no more than parts. No condition. -/
import Derived.Test.YtnfibchffbdmpaaRectLaw
import Derived.Test.YtnfibchffbdmpaaTalkFool
namespace Go.Proofs.Ytnfibchffbdmpaa
set_option linter.unusedVariables false
set_option linter.unusedSimpArgs false
set_option synthInstance.maxHeartbeats 400000
set_option synthInstance.maxSize 1024
theorem cntP_mono (p : Nat → Bool) {a : Nat} : ∀ {b}, a ≤ b → cntP p a ≤ cntP p b
  | 0, h => by rw [show a = 0 by omega]; exact Nat.le_refl _
  | b + 1, h => by
    show cntP p a ≤ cntP p b + (if p b = true then 1 else 0)
    by_cases e : a = b + 1
    · rw [e]; exact Nat.le_refl _
    · have := cntP_mono p (show a ≤ b by omega); omega
theorem rects_at {P m n : Nat} {t : Nat} (ht : t < (rectsQ P m n (2 ^ n - 1)).length) : ∃ s, 1 ≤ s ∧ s ≤ 2 ^ n - 1 ∧ colQ P m s n ≠ 0 ∧ (rectsQ P m n (2 ^ n - 1)).getD t 0 = rcQ (colQ P m s n) m s n := by
  have h : (rectsQ P m n (2 ^ n - 1)).getD t 0 ∈ rectsQ P m n (2 ^ n - 1) := by
    rw [List.getD_eq_getElem?_getD, List.getElem?_eq_getElem ht]
    exact List.getElem_mem ht
  obtain ⟨s, h1, h2, h3, h4⟩ := rects_mem.1 h
  exact ⟨s, h1, h2, h3, h4⟩
/-- places that fool are no more than rects -/
theorem fool_rects {f : Nat → Nat → Bool} {n m : Nat} (hn : 1 ≤ n ∧ n ≤ 4) (hm : 1 ≤ m ∧ m ≤ 4) {v : Bool} {P : Nat → Nat × Nat} {len : Nat} (h : FoolOk f n m v P len) : len ≤ reQ (plQ f v m n) m n := by
  obtain ⟨W, hW⟩ : ∃ W, W = plQ f v m n := ⟨_, rfl⟩
  obtain ⟨L, hL⟩ : ∃ L, L = rectsQ (plQ f v m n) m n (2 ^ n - 1) := ⟨_, rfl⟩
  have hdis : ∀ i k, i < k → k < len → m * (P i).1 + (P i).2 ≠ m * (P k).1 + (P k).2 := fun i k hik hk e => by
    obtain ⟨i1, i2, i3⟩ := h.1 i (by omega)
    obtain ⟨k1, k2, k3⟩ := h.1 k hk
    obtain ⟨a, b⟩ := place_one i2 k2 e
    rcases h.2 i k hik hk with q | q
    · exact q (by rw [← b]; exact i3)
    · exact q (by rw [← a]; exact i3)
  have hbit : ∀ i, i < len → hbT W (m * (P i).1 + (P i).2) = true := fun i hi => by
    obtain ⟨i1, i2, i3⟩ := h.1 i hi
    rw [hb_tb, hW]
    exact (pl_at i1 i2).2 i3
  have h1 : ∀ b, cntP (fun i => decide (i < len) && decide (m * (P i).1 + (P i).2 < b)) len ≤ cntP (hbT W) b := by
    intro b
    induction b with
    | zero => rw [cntP_none fun i hi => by simp]; exact Nat.zero_le _
    | succ b ih =>
      refine Nat.le_trans (cntP_add (q := fun i => decide (i < len) && decide (m * (P i).1 + (P i).2 < b)) (r := fun i => decide (i < len) && decide (m * (P i).1 + (P i).2 = b)) (fun i e => ?_) len) (Nat.add_le_add ih ?_)
      · rw [Bool.and_eq_true, decide_eq_true_eq, decide_eq_true_eq] at e
        by_cases k : m * (P i).1 + (P i).2 = b
        · exact .inr (by simp [e.1, k])
        · exact .inl (by simp [e.1]; omega)
      · by_cases hb : hbT W b = true
        · rw [if_pos hb]
          refine cntP_one fun i k hik hk ⟨a1, a2⟩ => ?_
          rw [Bool.and_eq_true, decide_eq_true_eq, decide_eq_true_eq] at a1 a2
          exact hdis i k hik hk (a1.2.trans a2.2.symm)
        · rw [if_neg hb, cntP_none fun i hi => by
            by_cases k : m * (P i).1 + (P i).2 = b
            · exact absurd (k ▸ hbit i hi) hb
            · simp [k]]
          exact Nat.le_refl _
  have hidx : ∀ i, i < len → m * (P i).1 + (P i).2 < 16 := fun i hi => by
    obtain ⟨i1, i2, _⟩ := h.1 i hi
    exact mi_le hm.2 hn.2 i1 i2
  unfold reQ
  rw [← hL]
  have hlen : L.length ≤ 15 := by
    rw [hL]
    have a := rects_len (plQ f v m n) m n (2 ^ n - 1)
    have b : 2 ^ n ≤ 2 ^ 4 := Nat.pow_le_pow_right (by decide) hn.2
    omega
  rcases best_mem (plQ f v m n) L (2 ^ L.length) with e | ⟨p, hp, hpk, e⟩
  · rw [e, pop_cnt, ← hW]
    have := h1 16
    rw [cntP_all fun i hi => by simp [hi, hidx i hi]] at this
    exact this
  · rw [e, pop_cnt]
    have h2 : ∀ t, t ≤ L.length → cntP (fun i => decide (i < len) && (pickQ L p t).testBit (m * (P i).1 + (P i).2)) len ≤ cntP (hbT p) t := by
      intro t
      induction t with
      | zero => intro _; rw [cntP_none fun i hi => by simp [pickQ, orF]]; exact Nat.zero_le _
      | succ t ih =>
        intro ht
        refine Nat.le_trans (cntP_add (q := fun i => decide (i < len) && (pickQ L p t).testBit (m * (P i).1 + (P i).2)) (r := fun i => decide (i < len) && (hbT p t && (L.getD t 0).testBit (m * (P i).1 + (P i).2))) (fun i a => ?_) len) (Nat.add_le_add (ih (by omega)) ?_)
        · rw [Bool.and_eq_true, decide_eq_true_eq] at a
          obtain ⟨t', ht', b1, b2⟩ := pick_bit.1 a.2
          by_cases k : t' = t
          · exact .inr (by rw [k] at b1 b2; rw [a.1 |> decide_eq_true, b1, b2]; rfl)
          · have : (pickQ L p t).testBit (m * (P i).1 + (P i).2) = true := pick_bit.2 ⟨t', by omega, b1, b2⟩
            exact .inl (by rw [a.1 |> decide_eq_true, this]; rfl)
        · by_cases hb : hbT p t = true
          · rw [if_pos hb]
            refine cntP_one fun i k hik hk ⟨a1, a2⟩ => ?_
            rw [Bool.and_eq_true, Bool.and_eq_true] at a1 a2
            obtain ⟨s, _, _, _, hs⟩ := rects_at (P := plQ f v m n) (m := m) (n := n) (t := t) (by rw [← hL]; omega)
            rw [← hL] at hs
            rw [hs] at a1 a2
            obtain ⟨i1, hi1, j1, hj1, e1, c1, d1⟩ := rect_bit.1 a1.2.2
            obtain ⟨i2, hi2, j2, hj2, e2, c2, d2⟩ := rect_bit.1 a2.2.2
            obtain ⟨p1, p2, _⟩ := h.1 i (by omega)
            obtain ⟨q1, q2, _⟩ := h.1 k hk
            obtain ⟨x1, y1⟩ := place_one p2 hj1 e1
            obtain ⟨x2, y2⟩ := place_one q2 hj2 e2
            rcases h.2 i k hik hk with z | z
            · exact z (by rw [x1, y2]; exact d2 i1 hi1 c1)
            · exact z (by rw [x2, y1]; exact d1 i2 hi2 c2)
          · rw [if_neg hb, cntP_none fun i hi => by simp [hb]]
            exact Nat.le_refl _
    have h3 := h2 L.length (Nat.le_refl _)
    rw [hpk, cntP_all fun i hi => by
      have := hbit i hi
      rw [hb_tb, hW] at this
      simp [hi, this]] at h3
    exact Nat.le_trans h3 (cntP_mono _ (by omega))
theorem sub_le : ∀ r : Nat, r < 16 → ∀ s : Nat, s < 16 → s &&& r = s → s ≤ r ∧ r ^^^ s ≤ r := by decide +kernel
theorem or_hb (a b i : Nat) : hbT (a ||| b) i = (hbT a i || hbT b i) := by rw [hb_tb, hb_tb, hb_tb, Nat.testBit_or]
theorem pick_or {L : List Nat} {p q k b : Nat} (h : (pickQ L p k).testBit b = true ∨ (pickQ L q k).testBit b = true) : (pickQ L (p ||| q) k).testBit b = true := by
  rcases h with h | h
  · obtain ⟨t, ht, a, b⟩ := pick_bit.1 h
    exact pick_bit.2 ⟨t, ht, by rw [or_hb, a]; rfl, b⟩
  · obtain ⟨t, ht, a, b⟩ := pick_bit.1 h
    exact pick_bit.2 ⟨t, ht, by rw [or_hb, a, Bool.or_true], b⟩
def LQ (f : Nat → Nat → Bool) (v : Bool) (m n : Nat) : List Nat := rectsQ (plQ f v m n) m n (2 ^ n - 1)
def cvQ (f : Nat → Nat → Bool) (v : Bool) (m n p i j : Nat) : Prop := (pickQ (LQ f v m n) p (LQ f v m n).length).testBit (m * i + j) = true
/-- a part of one value lies in a rect -/
theorem part_rect {f : Nat → Nat → Bool} {n m r c : Nat} {v : Bool} (hr : r ≤ 2 ^ n - 1) (hex : ∃ i, i < n ∧ ∃ j, j < m ∧ hbT r i = true ∧ hbT c j = true) (hv : ∀ i, i < n → ∀ j, j < m → hbT r i = true → hbT c j = true → f i j = v) :
    ∃ t, t < (LQ f v m n).length ∧ ∀ i, i < n → ∀ j, j < m → hbT r i = true → hbT c j = true → cvQ f v m n (2 ^ t) i j := by
  obtain ⟨i0, hi0, j0, hj0, a0, b0⟩ := hex
  have hcol : (colQ (plQ f v m n) m r n).testBit j0 = true := col_bit.2 ⟨hj0, fun i hi a => (pl_at hi hj0).2 (hv i hi j0 hj0 a b0)⟩
  have hc0 : colQ (plQ f v m n) m r n ≠ 0 := fun e => by rw [e] at hcol; simp at hcol
  have hr1 : 1 ≤ r := by
    rcases Nat.eq_zero_or_pos r with e | e
    · rw [e, hb_tb] at a0; simp at a0
    · exact e
  have hmem : rcQ (colQ (plQ f v m n) m r n) m r n ∈ LQ f v m n := rects_mem.2 ⟨r, hr1, hr, hc0, rfl⟩
  obtain ⟨t, ht, het⟩ := List.getElem_of_mem hmem
  refine ⟨t, ht, fun i hi j hj a b => ?_⟩
  refine pick_bit.2 ⟨t, ht, by rw [hb_tb, Nat.testBit_two_pow]; simp, ?_⟩
  rw [List.getD_eq_getElem?_getD, List.getElem?_eq_getElem ht]
  show ((LQ f v m n)[t]).testBit (m * i + j) = true
  rw [het]
  exact rect_bit.2 ⟨i, hi, j, hj, rfl, a, fun i' hi' a' => hv i' hi' j hj a' b⟩
theorem parts_rects {R : Nat → SB} {n m : Nat} (hn : n ≤ 4) (hm : m ≤ 4) {r c : Nat} {T : List (Nat × Nat)} (t : TreeP (alT R n m) r c T) : r ≤ 2 ^ n - 1 →
    ∃ pT pF, pT < 2 ^ (LQ (tbB R) true m n).length ∧ pF < 2 ^ (LQ (tbB R) false m n).length ∧ popN 16 pT + popN 16 pF ≤ T.length ∧
      ∀ i, i < n → ∀ j, j < m → hbT r i = true → hbT c j = true → (tbB R i j = true → cvQ (tbB R) true m n pT i j) ∧ (tbB R i j = false → cvQ (tbB R) false m n pF i j) := by
  induction t with
  | @leaf r c r0 c0 hr hc ha =>
    intro hrl
    by_cases hex : ∃ i, i < n ∧ ∃ j, j < m ∧ hbT r i = true ∧ hbT c j = true
    · obtain ⟨i0, hi0, j0, hj0, a0, b0⟩ := hex
      have hall : ∀ i, i < n → ∀ j, j < m → hbT r i = true → hbT c j = true → tbB R i j = tbB R i0 j0 := fun i hi j hj a b => al_same ha hi hj hi0 hj0 a b a0 b0
      cases hv : tbB R i0 j0 with
      | true =>
        rw [hv] at hall
        obtain ⟨t, ht, hcv⟩ := part_rect hrl ⟨i0, hi0, j0, hj0, a0, b0⟩ hall
        refine ⟨2 ^ t, 0, Nat.pow_lt_pow_right (by decide) ht, Nat.two_pow_pos _, ?_, fun i hi j hj a b => ⟨fun _ => hcv i hi j hj a b, fun e => ?_⟩⟩
        · rw [pop_zero]; exact pop_pow 16 t
        · rw [hall i hi j hj a b] at e; cases e
      | false =>
        rw [hv] at hall
        obtain ⟨t, ht, hcv⟩ := part_rect hrl ⟨i0, hi0, j0, hj0, a0, b0⟩ hall
        refine ⟨0, 2 ^ t, Nat.two_pow_pos _, Nat.pow_lt_pow_right (by decide) ht, ?_, fun i hi j hj a b => ⟨fun e => ?_, fun _ => hcv i hi j hj a b⟩⟩
        · rw [pop_zero, Nat.zero_add]; exact pop_pow 16 t
        · rw [hall i hi j hj a b] at e; cases e
    · exact ⟨0, 0, Nat.two_pow_pos _, Nat.two_pow_pos _, by rw [pop_zero]; exact Nat.zero_le _, fun i hi j hj a b => absurd ⟨i, hi, j, hj, a, b⟩ hex⟩
  | @rows r c s L1 L2 hr hs sl t1 t2 ih1 ih2 =>
    intro hrl
    have hsl := sub_le r hr s hs sl
    obtain ⟨p1, q1, a1, a2, a3, a4⟩ := ih1 (by omega)
    obtain ⟨p2, q2, b1, b2, b3, b4⟩ := ih2 (by omega)
    refine ⟨p1 ||| p2, q1 ||| q2, Nat.or_lt_two_pow a1 b1, Nat.or_lt_two_pow a2 b2, ?_, fun i hi j hj a b => ?_⟩
    · have e1 := pop_or 16 p1 p2
      have e2 := pop_or 16 q1 q2
      rw [List.length_append]; omega
    · rcases (xor_bit r hr s hs sl i (by omega)).1 a with k | k
      · exact ⟨fun e => pick_or (.inl ((a4 i hi j hj k b).1 e)), fun e => pick_or (.inl ((a4 i hi j hj k b).2 e))⟩
      · exact ⟨fun e => pick_or (.inr ((b4 i hi j hj k b).1 e)), fun e => pick_or (.inr ((b4 i hi j hj k b).2 e))⟩
  | @cols r c s L1 L2 hc hs sl t1 t2 ih1 ih2 =>
    intro hrl
    obtain ⟨p1, q1, a1, a2, a3, a4⟩ := ih1 hrl
    obtain ⟨p2, q2, b1, b2, b3, b4⟩ := ih2 hrl
    refine ⟨p1 ||| p2, q1 ||| q2, Nat.or_lt_two_pow a1 b1, Nat.or_lt_two_pow a2 b2, ?_, fun i hi j hj a b => ?_⟩
    · have e1 := pop_or 16 p1 p2
      have e2 := pop_or 16 q1 q2
      rw [List.length_append]; omega
    · rcases (xor_bit c hc s hs sl j (by omega)).1 b with k | k
      · exact ⟨fun e => pick_or (.inl ((a4 i hi j hj a k).1 e)), fun e => pick_or (.inl ((a4 i hi j hj a k).2 e))⟩
      · exact ⟨fun e => pick_or (.inr ((b4 i hi j hj a k).1 e)), fun e => pick_or (.inr ((b4 i hi j hj a k).2 e))⟩
theorem re_le {f : Nat → Nat → Bool} {n m : Nat} {v : Bool} {p : Nat} (hp : p < 2 ^ (LQ f v m n).length) (h : ∀ i, i < n → ∀ j, j < m → f i j = v → cvQ f v m n p i j) : reQ (plQ f v m n) m n ≤ popN 16 p := by
  refine best_le2 _ _ _ _ hp (Nat.eq_of_testBit_eq fun b => bool_of_iff ?_)
  constructor
  · intro hb
    obtain ⟨t, ht, _, h2⟩ := pick_bit.1 hb
    obtain ⟨s, _, _, _, hs⟩ := rects_at ht
    rw [hs] at h2
    obtain ⟨i, hi, j, hj, e, a, d⟩ := rect_bit.1 h2
    exact pl_bit.2 ⟨i, hi, j, hj, d i hi a, e⟩
  · intro hb
    obtain ⟨i, hi, j, hj, e, rfl⟩ := pl_bit.1 hb
    exact h i hi j hj e
/-- both values together -/
theorem rect_sum {R : Nat → SB} {n m : Nat} (hn : 1 ≤ n ∧ n ≤ 4) (hm : 1 ≤ m ∧ m ≤ 4) : reQ (plQ (tbB R) true m n) m n + reQ (plQ (tbB R) false m n) m n ≤ 2 ^ LeT n m R := by
  have f1 := pc_full n hn.2 hn.1
  have f2 := pc_full m hm.2 hm.1
  obtain ⟨L, t, hl⟩ := say_tree (R := R) (n := n) (m := m) hn.2 hm.2 _ (2 ^ n - 1) (2 ^ m - 1) (Nat.le_refl _) f1.2 f2.2 (by omega) (by omega)
  obtain ⟨pT, pF, a1, a2, a3, a4⟩ := parts_rects hn.2 hm.2 t (Nat.le_refl _)
  have b1 := re_le a1 fun i hi j hj e => (a4 i hi j hj (full_bit n hn.2 i hi) (full_bit m hm.2 j hj)).1 e
  have b2 := re_le a2 fun i hi j hj e => (a4 i hi j hj (full_bit n hn.2 i hi) (full_bit m hm.2 j hj)).2 e
  have hl' : L.length ≤ 2 ^ LeT n m R := hl
  omega
theorem rect_pos {R : Nat → SB} {n m : Nat} (hn : 1 ≤ n ∧ n ≤ 4) (hm : 1 ≤ m ∧ m ≤ 4) : 1 ≤ reQ (plQ (tbB R) true m n) m n + reQ (plQ (tbB R) false m n) m n := by
  have h : ∀ v, tbB R 0 0 = v → 1 ≤ reQ (plQ (tbB R) v m n) m n := fun v e => fool_rects hn hm (P := fun _ => (0, 0)) (len := 1) ⟨fun i _ => ⟨by show 0 < n; omega, by show 0 < m; omega, e⟩, fun i k hik hk => by omega⟩
  cases e : tbB R 0 0 with
  | true => have := h true e; omega
  | false => have := h false e; omega
end Go.Proofs.Ytnfibchffbdmpaa
