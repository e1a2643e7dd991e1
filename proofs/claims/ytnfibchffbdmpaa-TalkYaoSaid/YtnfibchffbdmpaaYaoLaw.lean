/- Yao's bounds: as much must be said as places that fool, or the rank, ask; and little more than the rows ask. No condition. -/
import Derived.Test.YtnfibchffbdmpaaTreeLaw
import Derived.Test.YtnfibchffbdmpaaTalkFool
import Derived.Test.YtnfibchffbdmpaaTalkRows
namespace Go.Proofs.Ytnfibchffbdmpaa
set_option linter.unusedVariables false
set_option synthInstance.maxHeartbeats 400000
set_option synthInstance.maxSize 1024
/-- places that fool are no more than parts -/
theorem fool_parts {R : Nat → SB} {n m : Nat} (hn : n ≤ 4) (hm : m ≤ 4) {v : Bool} {P : Nat → Nat × Nat} {len : Nat} (h : FoolOk (tbB R) n m v P len) {r c : Nat} {L : List (Nat × Nat)} (t : TreeP (alT R n m) r c L) :
    cntP (fun i => decide (i < len) && hbT r (P i).1 && hbT c (P i).2) len ≤ L.length := by
  induction t with
  | leaf r0 c0 hr hc ha =>
    refine cntP_one fun i j hij hj ⟨e1, e2⟩ => ?_
    rw [Bool.and_eq_true, Bool.and_eq_true] at e1 e2
    obtain ⟨i1, i2, i3⟩ := h.1 i (by omega)
    obtain ⟨j1, j2, j3⟩ := h.1 j hj
    rcases h.2 i j hij hj with k | k
    · exact k (by rw [← i3]; exact al_same ha i1 j2 i1 i2 e1.1.2 e2.2 e1.1.2 e1.2)
    · exact k (by rw [← i3]; exact al_same ha j1 i2 i1 i2 e2.1.2 e1.2 e1.1.2 e1.2)
  | @rows r c s L1 L2 hr hs sl t1 t2 ih1 ih2 =>
    rw [List.length_append]
    refine Nat.le_trans (cntP_add (q := fun i => decide (i < len) && hbT s (P i).1 && hbT c (P i).2) (r := fun i => decide (i < len) && hbT (r ^^^ s) (P i).1 && hbT c (P i).2) (fun i e => ?_) len) (Nat.add_le_add ih1 ih2)
    rw [Bool.and_eq_true, Bool.and_eq_true, decide_eq_true_eq] at e
    obtain ⟨i1, i2, i3⟩ := h.1 i e.1.1
    rcases (xor_bit r hr s hs sl (P i).1 (by omega)).1 e.1.2 with k | k
    · exact .inl (by simp [k, e.1.1, e.2])
    · exact .inr (by simp [k, e.1.1, e.2])
  | @cols r c s L1 L2 hc hs sl t1 t2 ih1 ih2 =>
    rw [List.length_append]
    refine Nat.le_trans (cntP_add (q := fun i => decide (i < len) && hbT r (P i).1 && hbT s (P i).2) (r := fun i => decide (i < len) && hbT r (P i).1 && hbT (c ^^^ s) (P i).2) (fun i e => ?_) len) (Nat.add_le_add ih1 ih2)
    rw [Bool.and_eq_true, Bool.and_eq_true, decide_eq_true_eq] at e
    obtain ⟨i1, i2, i3⟩ := h.1 i e.1.1
    rcases (xor_bit c hc s hs sl (P i).2 (by omega)).1 e.2 with k | k
    · exact .inl (by simp [k, e.1.1, e.1.2])
    · exact .inr (by simp [k, e.1.1, e.1.2])
theorem fool_le {R : Nat → SB} {n m : Nat} (hn : 1 ≤ n ∧ n ≤ 4) (hm : 1 ≤ m ∧ m ≤ 4) {v : Bool} {P : Nat → Nat × Nat} {len : Nat} (h : FoolOk (tbB R) n m v P len) : len ≤ 2 ^ LeT n m R := by
  have f1 := pc_full n hn.2 hn.1
  have f2 := pc_full m hm.2 hm.1
  obtain ⟨L, t, hl⟩ := say_tree (R := R) (n := n) (m := m) hn.2 hm.2 _ (2 ^ n - 1) (2 ^ m - 1) (Nat.le_refl _) f1.2 f2.2 (by omega) (by omega)
  have h1 := fool_parts hn.2 hm.2 h t
  rw [cntP_all fun i hi => by
    obtain ⟨i1, i2, _⟩ := h.1 i hi
    simp [hi, full_bit n hn.2 _ i1, full_bit m hm.2 _ i2]] at h1
  exact Nat.le_trans h1 hl
/-- the table's numbers in a part -/
def mkI (R : Nat → SB) (r c i j : Nat) : Int := if hbT r i = true ∧ hbT c j = true then tbI R i j else 0
theorem fac_add {M1 M2 M : Nat → Nat → Int} {n m s1 s2 : Nat} (h1 : Fac M1 n m s1) (h2 : Fac M2 n m s2) (e : ∀ i, i < n → ∀ j, j < m → M i j = M1 i j + M2 i j) : Fac M n m (s1 + s2) := by
  obtain ⟨d1, B1, C1, hd1, e1⟩ := h1
  obtain ⟨d2, B2, C2, hd2, e2⟩ := h2
  refine ⟨d1 * d2, fun i k => if k < s1 then d2 * B1 i k else d1 * B2 i (k - s1), fun k j => if k < s1 then C1 k j else C2 (k - s1) j, Int.mul_ne_zero hd1 hd2, fun i hi j hj => ?_⟩
  rw [sumI_split, sumI_congr (n := s1) (g := fun k => d2 * (B1 i k * C1 k j)) (fun k hk => by simp only [if_pos hk]; grind), sumI_congr (n := s2) (g := fun k => d1 * (B2 i k * C2 k j)) (fun k hk => by
    have : ¬ s1 + k < s1 := by omega
    simp only [if_neg this, Nat.add_sub_cancel_left]; grind), sumI_mul, sumI_mul, ← e1 i hi j hj, ← e2 i hi j hj, e i hi j hj]
  grind
theorem rank_parts {R : Nat → SB} {n m : Nat} (hn : n ≤ 4) (hm : m ≤ 4) {r c : Nat} {L : List (Nat × Nat)} (t : TreeP (alT R n m) r c L) : Fac (mkI R r c) n m L.length := by
  induction t with
  | @leaf r c r0 c0 hr hc ha =>
    by_cases hex : ∃ i, i < n ∧ ∃ j, j < m ∧ hbT r i = true ∧ hbT c j = true ∧ tbB R i j = true
    · obtain ⟨i0, hi0, j0, hj0, a1, a2, a3⟩ := hex
      refine ⟨1, fun i _ => if hbT r i = true then 1 else 0, fun _ j => if hbT c j = true then 1 else 0, by decide, fun i hi j hj => ?_⟩
      show 1 * mkI R r c i j = 0 + (if hbT r i = true then (1 : Int) else 0) * (if hbT c j = true then (1 : Int) else 0)
      unfold mkI
      by_cases b1 : hbT r i = true
      · by_cases b2 : hbT c j = true
        · rw [if_pos ⟨b1, b2⟩, if_pos b1, if_pos b2]
          have : tbB R i j = true := by rw [al_same ha hi hj hi0 hj0 b1 b2 a1 a2]; exact a3
          have h2 : tbI R i j = 1 := if_pos this
          rw [h2]; rfl
        · rw [if_neg (fun h => b2 h.2), if_neg b2]; omega
      · rw [if_neg (fun h => b1 h.1), if_neg b1]; omega
    · refine ⟨1, fun _ _ => 0, fun _ _ => 0, by decide, fun i hi j hj => ?_⟩
      show 1 * mkI R r c i j = 0 + 0 * 0
      unfold mkI
      by_cases b : hbT r i = true ∧ hbT c j = true
      · rw [if_pos b]
        have h2 : tbI R i j = 0 := if_neg fun e => hex ⟨i, hi, j, hj, b.1, b.2, e⟩
        rw [h2]; rfl
      · rw [if_neg b]; rfl
  | @rows r c s L1 L2 hr hs sl t1 t2 ih1 ih2 =>
    rw [List.length_append]
    refine fac_add ih1 ih2 fun i hi j hj => ?_
    obtain ⟨_, x2, x3⟩ := xor_bit r hr s hs sl i (by omega)
    unfold mkI
    rw [x2]
    cases e1 : hbT r i <;> cases e2 : hbT s i <;> cases e3 : hbT c j <;> first | (exfalso; rw [e1] at x3; exact absurd (x3 e2) (by decide)) | simp
  | @cols r c s L1 L2 hc hs sl t1 t2 ih1 ih2 =>
    rw [List.length_append]
    refine fac_add ih1 ih2 fun i hi j hj => ?_
    obtain ⟨_, x2, x3⟩ := xor_bit c hc s hs sl j (by omega)
    unfold mkI
    rw [x2]
    cases e1 : hbT c j <;> cases e2 : hbT s j <;> cases e3 : hbT r i <;> first | (exfalso; rw [e1] at x3; exact absurd (x3 e2) (by decide)) | simp
theorem rank_le {R : Nat → SB} {n m q : Nat} (hn : 1 ≤ n ∧ n ≤ 4) (hm : 1 ≤ m ∧ m ≤ 4) (h : IsRank (tbI R) n m q) : q ≤ 2 ^ LeT n m R := by
  have f1 := pc_full n hn.2 hn.1
  have f2 := pc_full m hm.2 hm.1
  obtain ⟨L, t, hl⟩ := say_tree (R := R) (n := n) (m := m) hn.2 hm.2 _ (2 ^ n - 1) (2 ^ m - 1) (Nat.le_refl _) f1.2 f2.2 (by omega) (by omega)
  have h1 := (rank_parts hn.2 hm.2 t).congr (M' := tbI R) fun i hi j hj => by
    unfold mkI
    rw [if_pos ⟨full_bit n hn.2 i hi, full_bit m hm.2 j hj⟩]
  exact Nat.le_trans (h.2 _ h1) hl
/-- the rows that differ stand for all -/
theorem reps (R : Nat → SB) (m : Nat) : ∀ k, ∃ (e x : Nat → Nat), (∀ i, i < k → e i < cntR R m k ∧ ∀ j, j < m → (R i).f j = (R (x (e i))).f j) ∧ ∀ q, q < cntR R m k → x q < k
  | 0 => ⟨fun _ => 0, fun _ => 0, fun i hi => absurd hi (Nat.not_lt_zero _), fun q hq => absurd hq (Nat.not_lt_zero _)⟩
  | k + 1 => by
    obtain ⟨e, x, h1, h2⟩ := reps R m k
    by_cases ho : oldR R m k = true
    · have hc : cntR R m (k + 1) = cntR R m k := if_pos ho
      obtain ⟨i0, hi0, he⟩ := anyB_iff.1 (show anyB (fun i => eqB (R i).f (R k).f m) k = true from ho)
      have he' := of_decide_eq_true he
      rw [hc]
      refine ⟨fun i => if i = k then e i0 else e i, x, fun i hi => ?_, fun q hq => by have := h2 q hq; omega⟩
      by_cases hk : i = k
      · simp only [if_pos hk]
        exact ⟨(h1 i0 hi0).1, fun j hj => by rw [hk, ← he' j hj]; exact (h1 i0 hi0).2 j hj⟩
      · simp only [if_neg hk]
        exact h1 i (by omega)
    · have hc : cntR R m (k + 1) = cntR R m k + 1 := if_neg ho
      rw [hc]
      refine ⟨fun i => if i = k then cntR R m k else e i, fun q => if q = cntR R m k then k else x q, fun i hi => ?_, fun q hq => ?_⟩
      · by_cases hk : i = k
        · simp only [if_pos, hk]
          exact ⟨by omega, fun j _ => trivial⟩
        · simp only [if_neg hk]
          obtain ⟨a1, a2⟩ := h1 i (by omega)
          have : e i ≠ cntR R m k := by omega
          simp only [if_neg this]
          exact ⟨by omega, a2⟩
      · by_cases hk : q = cntR R m k
        · simp only [if_pos hk]; omega
        · simp only [if_neg hk]
          have := h2 q (by omega)
          omega
theorem rank_rows {R : Nat → SB} {n m q : Nat} (h : IsRank (tbI R) n m q) : q ≤ cntR R m n := by
  obtain ⟨e, x, h1, _⟩ := reps R m n
  refine h.2 _ ⟨1, fun i k => if k = e i then 1 else 0, fun k j => tbI R (x k) j, by decide, fun i hi j hj => ?_⟩
  rw [sumI_one (k := e i) (h1 i hi).1 fun k _ hne => by simp only [if_neg hne, Int.zero_mul]]
  simp only [if_pos, Int.one_mul]
  unfold tbI
  rw [(h1 i hi).2 j hj]
theorem cntR_pos {R : Nat → SB} {m : Nat} : ∀ {k}, 1 ≤ k → 1 ≤ cntR R m k
  | 1, _ => by
    have : oldR R m 0 = false := anyB_no fun i hi => absurd hi (Nat.not_lt_zero _)
    show 1 ≤ (if oldR R m 0 = true then cntR R m 0 else cntR R m 0 + 1)
    rw [this]; exact Nat.le_refl _
  | k + 2, _ => by
    have := cntR_pos (R := R) (m := m) (k := k + 1) (by omega)
    show 1 ≤ (if oldR R m (k + 1) = true then cntR R m (k + 1) else cntR R m (k + 1) + 1)
    split <;> omega
end Go.Proofs.Ytnfibchffbdmpaa
