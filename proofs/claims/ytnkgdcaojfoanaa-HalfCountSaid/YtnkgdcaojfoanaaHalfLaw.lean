/- Ways in a graph: who can be come to in so many steps, and how far it is. No condition. -/
import Derived.Test.YtnkgdcaojfoanaaContI
import Derived.Test.YtnkgdcaojfoanaaRowsOf
namespace Go.Proofs.Ytnkgdcaojfoanaa
set_option linter.unusedVariables false
set_option linter.unusedSimpArgs false
/-- is there an edge from i to j -/
def edg (R : Nat → SI) (i j : Nat) : Bool := hasI (R i).f (R i).n (j : Int)
theorem edg_iff {R : Nat → SI} {i j : Nat} : edg R i j = true ↔ ∃ q, q < (R i).n ∧ (R i).f q = (j : Int) := hasI_iff
theorem anyB_iff {p : Nat → Bool} {m : Nat} : anyB p m = true ↔ ∃ i, i < m ∧ p i = true := by unfold anyB; exact decide_eq_true_iff
/-- one comes from i to j in no more than k steps -/
def wy (R : Nat → SI) (n : Nat) : Nat → Nat → Nat → Bool
  | 0, i, j => i == j
  | k + 1, i, j => wy R n k i j || anyB (fun m => edg R i m && wy R n k m j) n
section
variable {R : Nat → SI} {n : Nat}
theorem wy_succ {k i j : Nat} : wy R n (k + 1) i j = true ↔ wy R n k i j = true ∨ ∃ m, m < n ∧ edg R i m = true ∧ wy R n k m j = true := by
  simp only [wy]
  rw [Bool.or_eq_true, anyB_iff]
  simp only [Bool.and_eq_true]
theorem wy_mono1 {k i j : Nat} (h : wy R n k i j = true) : wy R n (k + 1) i j = true := wy_succ.2 (.inl h)
theorem wy_mono {i j : Nat} : ∀ {l k : Nat}, k ≤ l → wy R n k i j = true → wy R n l i j = true
  | 0, k, h, hk => by rw [show k = 0 by omega] at hk; exact hk
  | l + 1, k, h, hk => by
    by_cases e : k = l + 1
    · rw [← e]; exact hk
    · exact wy_mono1 (wy_mono (l := l) (by omega) hk)
theorem wy_add {j b : Nat} : ∀ {a i : Nat}, i < n → (wy R n (a + b) i j = true ↔ ∃ m, m < n ∧ wy R n a i m = true ∧ wy R n b m j = true)
  | 0, i, hi => by
    rw [Nat.zero_add]
    constructor
    · intro h; exact ⟨i, hi, by simp [wy], h⟩
    · rintro ⟨m, _, h1, h2⟩
      rw [show i = m from eq_of_beq h1]; exact h2
  | a + 1, i, hi => by
    rw [show a + 1 + b = (a + b) + 1 by omega, wy_succ]
    constructor
    · rintro (h | ⟨p, hp, he, h⟩)
      · obtain ⟨m, hm, h1, h2⟩ := (wy_add hi).1 h
        exact ⟨m, hm, wy_mono1 h1, h2⟩
      · obtain ⟨m, hm, h1, h2⟩ := (wy_add hp).1 h
        exact ⟨m, hm, wy_succ.2 (.inr ⟨p, hp, he, h1⟩), h2⟩
    · rintro ⟨m, hm, h1, h2⟩
      rcases wy_succ.1 h1 with h | ⟨p, hp, he, h⟩
      · exact .inl ((wy_add hi).2 ⟨m, hm, h, h2⟩)
      · exact .inr ⟨p, hp, he, (wy_add hp).2 ⟨m, hm, h, h2⟩⟩
theorem wy_one {i j : Nat} (hj : j < n) : wy R n 1 i j = true ↔ i = j ∨ edg R i j = true := by
  rw [wy_succ]
  constructor
  · rintro (h | ⟨m, _, he, h⟩)
    · exact .inl (eq_of_beq h)
    · rw [eq_of_beq (show (m == j) = true from h)] at he; exact .inr he
  · rintro (h | h)
    · exact .inl (by rw [h]; exact beq_self_eq_true _)
    · exact .inr ⟨j, hj, h, beq_self_eq_true _⟩
theorem wy_last {k i j : Nat} (hi : i < n) (hj : j < n) : wy R n (k + 1) i j = true ↔ wy R n k i j = true ∨ ∃ m, m < n ∧ wy R n k i m = true ∧ edg R m j = true := by
  rw [wy_add hi]
  constructor
  · rintro ⟨m, hm, h1, h2⟩
    rcases (wy_one hj).1 h2 with h | h
    · rw [h] at h1; exact .inl h1
    · exact .inr ⟨m, hm, h1, h⟩
  · rintro (h | ⟨m, hm, h1, h2⟩)
    · exact ⟨j, hj, h, (wy_one hj).2 (.inl rfl)⟩
    · exact ⟨m, hm, h1, (wy_one hj).2 (.inr h2)⟩
end
/-- how many -/
def cntN (p : Nat → Bool) : Nat → Nat
  | 0 => 0
  | k + 1 => cntN p k + (p k).toNat
theorem bn1 (b : Bool) : b.toNat ≤ 1 := by cases b <;> decide
theorem cntN_le (p : Nat → Bool) : ∀ k, cntN p k ≤ k
  | 0 => Nat.le_refl _
  | k + 1 => by have := cntN_le p k; have := bn1 (p k); simp only [cntN]; omega
theorem cntN_congr {p q : Nat → Bool} : ∀ {k : Nat}, (∀ i, i < k → p i = q i) → cntN p k = cntN q k
  | 0, _ => rfl
  | k + 1, h => by simp only [cntN]; rw [cntN_congr fun i hi => h i (by omega), h k (by omega)]
theorem cntN_mono {p q : Nat → Bool} : ∀ {k : Nat}, (∀ i, i < k → p i = true → q i = true) → cntN p k ≤ cntN q k ∧ (cntN p k = cntN q k → ∀ i, i < k → p i = q i)
  | 0, _ => ⟨Nat.le_refl _, fun _ i hi => absurd hi (Nat.not_lt_zero _)⟩
  | k + 1, h => by
    have ih := cntN_mono (k := k) fun i hi => h i (by omega)
    have hb : (p k).toNat ≤ (q k).toNat ∧ ((p k).toNat = (q k).toNat → p k = q k) := by
      have := h k (by omega)
      revert this
      cases p k <;> cases q k <;> simp
    simp only [cntN]
    refine ⟨by omega, fun e i hi => ?_⟩
    by_cases ei : i = k
    · rw [ei]; exact hb.2 (by omega)
    · exact ih.2 (by omega) i (by omega)
theorem cntN_pos {p : Nat → Bool} : ∀ {k i : Nat}, i < k → p i = true → 0 < cntN p k
  | 0, _, h, _ => absurd h (Nat.not_lt_zero _)
  | k + 1, i, h, hp => by
    simp only [cntN]
    by_cases e : i = k
    · rw [e] at hp; rw [hp]; exact Nat.succ_pos _
    · have := cntN_pos (k := k) (i := i) (by omega) hp; omega
theorem cntN_one {i : Nat} : ∀ {k : Nat}, cntN (fun j => i == j) k = if i < k then 1 else 0
  | 0 => rfl
  | k + 1 => by
    simp only [cntN]
    rw [cntN_one (k := k)]
    by_cases e : i = k
    · subst e; rw [if_neg (by omega), if_pos (by omega), beq_self_eq_true]; rfl
    · rw [show (i == k) = false from beq_eq_false_iff_ne.2 e]
      by_cases h : i < k
      · rw [if_pos h, if_pos (by omega)]; rfl
      · rw [if_neg h, if_neg (by omega)]; rfl
/-- sets that grow, and stay once they have stayed -/
structure Grows (f : Nat → Nat → Bool) (n : Nat) : Prop where
  mono : ∀ k i, i < n → f k i = true → f (k + 1) i = true
  stay : ∀ k, (∀ i, i < n → f (k + 1) i = f k i) → ∀ i, i < n → f (k + 2) i = f (k + 1) i
  one : 0 < cntN (f 0) n
section
variable {f : Nat → Nat → Bool} {n : Nat}
theorem Grows.cnt (h : Grows f n) (k : Nat) : cntN (f k) n ≤ cntN (f (k + 1)) n ∧ (cntN (f k) n = cntN (f (k + 1)) n → ∀ i, i < n → f (k + 1) i = f k i) :=
  ⟨(cntN_mono fun i hi => h.mono k i hi).1, fun e i hi => ((cntN_mono fun i hi => h.mono k i hi).2 e i hi).symm⟩
theorem Grows.stays (h : Grows f n) {k : Nat} (e : ∀ i, i < n → f (k + 1) i = f k i) : ∀ d i, i < n → f (k + d) i = f k i ∧ f (k + d + 1) i = f (k + d) i
  | 0, i, hi => ⟨rfl, e i hi⟩
  | d + 1, i, hi => by
    have ih := h.stays e d
    exact ⟨(ih i hi).2.trans (ih i hi).1, h.stay (k + d) (fun i hi => (ih i hi).2) i hi⟩
theorem Grows.many (h : Grows f n) : ∀ K, (∀ k, k < K → ¬ ∀ i, i < n → f (k + 1) i = f k i) → K + 1 ≤ cntN (f K) n
  | 0, _ => h.one
  | K + 1, hn => by
    have ih := h.many K fun k hk => hn k (by omega)
    have hc := h.cnt K
    have : cntN (f K) n ≠ cntN (f (K + 1)) n := fun e => hn K (by omega) (hc.2 e)
    omega
theorem Grows.last (h : Grows f n) : ∃ K, K < n ∧ ∀ i, i < n → f (K + 1) i = f K i := by
  refine Classical.byContradiction fun hc => ?_
  have := h.many n fun k hk e => hc ⟨k, hk, e⟩
  have := cntN_le (f n) n
  omega
theorem Grows.all (h : Grows f n) (l : Nat) (hl : n - 1 ≤ l) (i : Nat) (hi : i < n) : f l i = f (n - 1) i := by
  obtain ⟨K, hK, e⟩ := h.last
  have h1 := (h.stays e (n - 1 - K) i hi).1
  have h2 := (h.stays e (l - K) i hi).1
  rw [show K + (n - 1 - K) = n - 1 by omega] at h1
  rw [show K + (l - K) = l by omega] at h2
  rw [h1, h2]
theorem Grows.late (h : Grows f n) (l : Nat) (i : Nat) (hi : i < n) (hf : f l i = true) : f (n - 1) i = true := by
  by_cases hl : n - 1 ≤ l
  · rw [← h.all l hl i hi]; exact hf
  · have hm : ∀ d, f (l + d) i = true := fun d => by
      induction d with
      | zero => exact hf
      | succ d ih => exact h.mono _ i hi ih
    have := hm (n - 1 - l)
    rw [show l + (n - 1 - l) = n - 1 by omega] at this
    exact this
theorem Grows.law (h : Grows f n) (k : Nat) (e : cntN (f k) n = cntN (f (k + 1)) n) : cntN (f (k + 2)) n = cntN (f (k + 1)) n :=
  cntN_congr fun i hi => h.stay k ((h.cnt k).2 e) i hi
end
theorem wy_to {R : Nat → SI} {n j : Nat} (hj : j < n) : Grows (fun k i => wy R n k i j) n where
  mono := fun k i _ h => wy_mono1 h
  stay := fun k e i hi => by
    rw [Bool.eq_iff_iff]
    refine ⟨fun h => ?_, fun h => wy_mono1 h⟩
    rcases wy_succ.1 h with h | ⟨m, hm, he, h⟩
    · exact h
    · exact wy_succ.2 (.inr ⟨m, hm, he, by rw [← e m hm]; exact h⟩)
  one := cntN_pos hj (by show (j == j) = true; simp)
theorem wy_from {R : Nat → SI} {n i : Nat} (hi : i < n) : Grows (fun k j => wy R n k i j) n where
  mono := fun k j _ h => wy_mono1 h
  stay := fun k e j hj => by
    rw [Bool.eq_iff_iff]
    refine ⟨fun h => ?_, fun h => wy_mono1 h⟩
    rcases (wy_last hi hj).1 h with h | ⟨m, hm, h, he⟩
    · exact h
    · exact (wy_last hi hj).2 (.inr ⟨m, hm, by rw [← e m hm]; exact h, he⟩)
  one := cntN_pos hi (by show (i == i) = true; simp)
/-- what is told of i is how far it is, if that is no more than k -/
def FarI (R : Nat → SI) (n t : Nat) (out : Nat → Int) (k i : Nat) : Prop :=
  (out i = -1 ∧ wy R n k i t = false) ∨ ∃ d : Nat, d ≤ k ∧ out i = (d : Int) ∧ wy R n d i t = true ∧ (d = 0 ∨ wy R n (d - 1) i t = false)
def updO (out : Nat → Int) (p : Nat) (v : Int) : Nat → Int := fun i => if i = p then v else out i
/-- does one of the next say k -/
def saysK (R : Nat → SI) (out : Nat → Int) (k p : Nat) : Bool := anyB (fun q => out ((R p).f q).toNat == (k : Int)) (R p).n
section
variable {R : Nat → SI} {n t : Nat} {out : Nat → Int}
theorem FarI.zero (ht : t < n) (i : Nat) : FarI R n t (updO (fun _ => -1) t 0) 0 i := by
  by_cases e : i = t
  · exact .inr ⟨0, Nat.le_refl _, by unfold updO; rw [if_pos e]; rfl, by rw [e]; simp [wy], .inl rfl⟩
  · exact .inl ⟨by unfold updO; rw [if_neg e], by simp only [wy]; rw [beq_eq_false_iff_ne]; exact e⟩
theorem FarI.le {k i : Nat} (h : FarI R n t out k i) (hp : 0 ≤ out i) : FarI R n t out (k + 1) i := by
  rcases h with ⟨h, _⟩ | ⟨d, h1, h2⟩
  · omega
  · exact .inr ⟨d, by omega, h2⟩
theorem FarI.congr {out' : Nat → Int} {k i : Nat} (h : FarI R n t out k i) (e : out' i = out i) : FarI R n t out' k i := by
  unfold FarI; rw [e]; exact h
theorem FarI.eq {k l m : Nat} (h : FarI R n t out l m) (hl : k ≤ l) (h1 : wy R n k m t = true) (h2 : k = 0 ∨ wy R n (k - 1) m t = false) : out m = (k : Int) := by
  rcases h with ⟨_, h⟩ | ⟨d, hd, h3, h4, h5⟩
  · rw [wy_mono hl h1] at h; cases h
  · have : d = k := by
      rcases Nat.lt_trichotomy d k with h | h | h
      · rcases h2 with e | e
        · omega
        · rw [wy_mono (by omega) h4] at e; cases e
      · exact h
      · rcases h5 with e | e
        · omega
        · rw [wy_mono (by omega) h1] at e; cases e
    rw [h3, this]
theorem FarI.says {k l m : Nat} (h : FarI R n t out l m) (e : out m = (k : Int)) : wy R n k m t = true := by
  rcases h with ⟨h, _⟩ | ⟨d, hd, h3, h4, h5⟩
  · omega
  · have : d = k := by omega
    rw [← this]; exact h4
theorem far_step {k p : Nat} (hp : p < n) (hin : ∀ q, q < (R p).n → 0 ≤ (R p).f q ∧ (R p).f q < (n : Int)) (h : ∀ i, i < n → FarI R n t out (if i < p then k + 1 else k) i) :
    ∀ i, i < n → FarI R n t (if out p < 0 ∧ saysK R out k p = true then updO out p ((k + 1 : Nat) : Int) else out) (if i < p + 1 then k + 1 else k) i := by
  intro i hi
  have hpp := h p hp
  rw [if_neg (by omega)] at hpp
  have hoth : i ≠ p → FarI R n t out (if i < p + 1 then k + 1 else k) i := fun e => by
    have := h i hi
    by_cases hl : i < p
    · rw [if_pos hl] at this; rw [if_pos (by omega)]; exact this
    · rw [if_neg hl] at this; rw [if_neg (by omega)]; exact this
  by_cases hc : out p < 0 ∧ saysK R out k p = true
  · rw [if_pos hc]
    by_cases e : i = p
    · subst e
      rw [if_pos (by omega)]
      obtain ⟨hneg, hs⟩ := hc
      have hnw : wy R n k i t = false := by
        rcases hpp with h | ⟨d, _, h, _⟩
        · exact h.2
        · omega
      obtain ⟨q, hq, hk⟩ := anyB_iff.1 hs
      have hb := hin q hq
      obtain ⟨m, hm⟩ : ∃ m : Nat, (R i).f q = (m : Int) := Int.eq_ofNat_of_zero_le hb.1
      rw [hm, Int.toNat_natCast] at hk
      have hw := (h m (by omega)).says (eq_of_beq hk)
      exact .inr ⟨k + 1, Nat.le_refl _, by unfold updO; rw [if_pos rfl], wy_succ.2 (.inr ⟨m, by omega, edg_iff.2 ⟨q, hq, hm⟩, hw⟩), .inr hnw⟩
    · exact (hoth e).congr (by unfold updO; rw [if_neg e])
  · rw [if_neg hc]
    by_cases e : i = p
    · subst e
      rw [if_pos (by omega)]
      by_cases hneg : out i < 0
      · rcases hpp with ⟨h1, h2⟩ | ⟨d, _, h1, _⟩
        · refine .inl ⟨h1, ?_⟩
          cases hw : wy R n (k + 1) i t
          · rfl
          · rcases wy_succ.1 hw with e | ⟨m, hm, he, hwm⟩
            · rw [e] at h2; cases h2
            · refine absurd ⟨hneg, ?_⟩ hc
              obtain ⟨q, hq, hqm⟩ := edg_iff.1 he
              refine anyB_iff.2 ⟨q, hq, ?_⟩
              rw [hqm, Int.toNat_natCast]
              have hk0 : k = 0 ∨ wy R n (k - 1) m t = false := by
                rcases Nat.eq_zero_or_pos k with e | e
                · exact .inl e
                · refine .inr ?_
                  cases hx : wy R n (k - 1) m t
                  · rfl
                  · have : wy R n k i t = true := by
                      rw [show k = (k - 1) + 1 by omega]
                      exact wy_succ.2 (.inr ⟨m, hm, he, hx⟩)
                    rw [this] at h2; cases h2
              have := (h m hm).eq (k := k) (by split <;> omega) hwm hk0
              rw [this]; exact beq_self_eq_true _
        · omega
      · exact hpp.le (by omega)
    · exact hoth e
/-- all told: how far it is from each -/
def FarOk (R : Nat → SI) (n t : Nat) (out : Nat → Int) : Prop := ∀ i, i < n → FarI R n t out n i
theorem FarOk.neg (h : FarOk R n t out) {i : Nat} (hi : i < n) (hn : out i < 0) : wy R n n i t = false := by
  rcases h i hi with h | ⟨d, _, h, _⟩
  · exact h.2
  · omega
theorem FarOk.get (h : FarOk R n t out) {i : Nat} (hi : i < n) (hn : 0 ≤ out i) : ∃ d : Nat, d ≤ n ∧ out i = (d : Int) ∧ wy R n d i t = true ∧ (d = 0 ∨ wy R n (d - 1) i t = false) := by
  rcases h i hi with h | h
  · omega
  · exact h
theorem FarOk.self (h : FarOk R n t out) (ht : t < n) : out t = 0 := (h t ht).eq (k := 0) (Nat.zero_le _) (by simp [wy]) (.inl rfl)
theorem FarOk.zero (h : FarOk R n t out) {i : Nat} (hi : i < n) (e : out i = 0) : i = t := eq_of_beq (show (i == t) = true from (h i hi).says (k := 0) e)
/-- one that is not there yet has a next one that is nearer by one -/
theorem FarOk.next (h : FarOk R n t out) {i d : Nat} (hi : i < n) (e : out i = ((d + 1 : Nat) : Int)) : ∃ m, m < n ∧ edg R i m = true ∧ out m = (d : Int) := by
  obtain ⟨d', hd, h1, h2, h3⟩ := h.get hi (by omega)
  obtain rfl : d' = d + 1 := by omega
  have h3 : wy R n d i t = false := by
    rcases h3 with h | h
    · omega
    · exact h
  rcases wy_succ.1 h2 with e | ⟨m, hm, he, hw⟩
  · rw [e] at h3; cases h3
  · refine ⟨m, hm, he, (h m hm).eq (by omega) hw ?_⟩
    rcases Nat.eq_zero_or_pos d with e | e
    · exact .inl e
    · refine .inr ?_
      cases hx : wy R n (d - 1) m t
      · rfl
      · have : wy R n d i t = true := by
          rw [show d = (d - 1) + 1 by omega]
          exact wy_succ.2 (.inr ⟨m, hm, he, hx⟩)
        rw [this] at h3; cases h3
/-- no more than s steps, just if it is no farther -/
theorem FarOk.le (h : FarOk R n t out) {i s : Nat} (hi : i < n) (ht : t < n) : wy R n s i t = true ↔ 0 ≤ out i ∧ out i ≤ (s : Int) := by
  constructor
  · intro hw
    have hn : wy R n n i t = true := wy_mono (by omega) ((wy_to ht).late s i hi hw)
    rcases h i hi with ⟨_, h⟩ | ⟨d, hd, h1, h2, h3⟩
    · rw [hn] at h; cases h
    · refine ⟨by omega, ?_⟩
      rcases h3 with e | e
      · omega
      · by_cases hs : d ≤ s
        · omega
        · rw [wy_mono (by omega) hw] at e; cases e
  · rintro ⟨h0, h1⟩
    obtain ⟨d, hd, h2, h3, _⟩ := h.get hi h0
    exact wy_mono (by omega) h3
end
/-- how often it is asked at most -/
def askM : Nat → Nat
  | 0 => 1
  | 1 => 1
  | 2 => 17
  | 3 => 145
  | 4 => 273
  | 5 => 1297
  | 6 => 2321
  | 7 => 3345
  | _ => 4369
theorem askM_half {s : Nat} (h1 : 2 ≤ s) (h2 : s ≤ 8) : 1 + 8 * (askM ((s + 1) / 2) + askM (s / 2)) ≤ askM s := by
  have : s = 2 ∨ s = 3 ∨ s = 4 ∨ s = 5 ∨ s = 6 ∨ s = 7 ∨ s = 8 := by omega
  rcases this with rfl | rfl | rfl | rfl | rfl | rfl | rfl <;> decide
theorem askM_le (s : Nat) : askM s ≤ 4369 := by unfold askM; split <;> omega
theorem wy_half {R : Nat → SI} {n i j s : Nat} (hi : i < n) (hs : 2 ≤ s) : wy R n s i j = true ↔ ∃ m, m < n ∧ wy R n ((s + 1) / 2) i m = true ∧ wy R n (s / 2) m j = true := by
  have := wy_add (R := R) (n := n) (j := j) (b := s / 2) (a := (s + 1) / 2) hi
  rw [show (s + 1) / 2 + s / 2 = s by omega] at this
  exact this
end Go.Proofs.Ytnkgdcaojfoanaa
