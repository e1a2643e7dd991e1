/- The isolation lemma over digits as weights. Conditions: as each theorem states. -/
import Derived.Test.YtmnleblbandghaaSums
import Derived.Test.YtmnleblbandghaaLoneLeast
namespace Go.Proofs.Ytmnleblbandghaa
set_option linter.unusedVariables false
def soloB (u : Nat → Int) (m : Nat) : Bool := (List.range m).any fun s => (List.range m).all fun t => t == s || decide (u s < u t)
theorem soloB_iff {u : Nat → Int} {m : Nat} : soloB u m = true ↔ ∃ s, s < m ∧ ∀ t, t < m → t ≠ s → u s < u t := by
  unfold soloB
  simp only [List.any_eq_true, List.mem_range, List.all_eq_true, Bool.or_eq_true, beq_iff_eq, decide_eq_true_eq]
  exact ⟨fun ⟨s, hs, h⟩ => ⟨s, hs, fun t ht hne => (h t ht).resolve_left hne⟩, fun ⟨s, hs, h⟩ => ⟨s, hs, fun t ht => Classical.byCases (fun e : t = s => .inl e) (fun e => .inr (h t ht e))⟩⟩
theorem sumN_ge2 {f : Nat → Nat} {s t : Nat} (hne : s ≠ t) : ∀ {n : Nat}, s < n → t < n → f s + f t ≤ sumN f n
  | 0, h, _ => absurd h (Nat.not_lt_zero _)
  | n + 1, hs, ht => by
    have one : ∀ {r n : Nat}, r < n → f r ≤ sumN f n := fun {r n} => by
      induction n with
      | zero => intro h; exact absurd h (Nat.not_lt_zero _)
      | succ n ih =>
        intro h
        show f r ≤ sumN f n + f n
        by_cases e : r = n
        · subst e; omega
        · have := ih (by omega); omega
    show f s + f t ≤ sumN f n + f n
    by_cases e1 : s = n
    · have := one (r := t) (n := n) (by omega)
      subst e1; omega
    · by_cases e2 : t = n
      · have := one (r := s) (n := n) (by omega)
        subst e2; omega
      · have := sumN_ge2 (f := f) hne (n := n) (by omega) (by omega); omega
theorem cntE_sum (u : Nat → Int) (B : Int) : ∀ k, cntE u B k = sumN (fun i => if u i = B then 1 else 0) k
  | 0 => rfl
  | k + 1 => by show cntE u B k + _ = sumN _ k + _; rw [cntE_sum u B k]
/-- one of least sum alone -/
theorem lst_solo {u S G : Nat → Int} {m cn : Nat} {B : Int} (h : Lst u S m B cn G) (h1 : 1 ≤ cn) : (cn == 1) = soloB u m := by
  rw [Bool.eq_iff_iff, beq_iff_eq, soloB_iff]
  have hc := h.cnt
  rw [cntE_sum] at hc
  constructor
  · intro e
    obtain ⟨s, hs, _, hu⟩ := h.of 0 (by omega)
    refine ⟨s, hs, fun t ht hne => ?_⟩
    have h2 := h.le t ht
    by_cases e2 : u t = B
    · have h3 := sumN_ge2 (f := fun i => if u i = B then 1 else 0) (Ne.symm hne) hs ht
      simp only [hu, e2, if_true] at h3
      omega
    · omega
  · rintro ⟨s, hs, hlt⟩
    obtain ⟨i, hi, _, hu⟩ := h.of 0 (by omega)
    have his : i = s := by
      by_cases e : i = s
      · exact e
      · have := hlt i hi e
        have := h.le s hs
        omega
    subst his
    rw [hc, sumN_congr (g := fun t => if t = i then 1 else 0) (fun t ht => by
      by_cases e : t = i
      · rw [if_pos e, e, if_pos hu]
      · rw [if_neg e, if_neg (by have := hlt t ht e; omega)]), sumN_one, if_pos hi]
/-! ### at most one value of each digit -/
theorem sum_le_one {f : Nat → Nat} : ∀ {n : Nat}, (∀ e, e < n → f e ≤ 1) → (∀ e e', e < n → e' < n → 0 < f e → 0 < f e' → e = e') → sumN f n ≤ 1
  | 0, _, _ => Nat.zero_le _
  | n + 1, h1, h2 => by
    have ih := sum_le_one (n := n) (fun e he => h1 e (by omega)) (fun e e' he he' => h2 e e' (by omega) (by omega))
    show sumN f n + f n ≤ 1
    by_cases e : f n = 0
    · omega
    · have : sumN f n = 0 := by
        rw [sumN_congr (g := fun _ => 0) (fun i hi => by
          rcases Nat.eq_zero_or_pos (f i) with h | h
          · exact h
          · have := h2 i n (by omega) (by omega) h (by omega); omega), sumN_zero]
      have := h1 n (by omega)
      omega
theorem dg_mid {b lo e hi i : Nat} (hb : 1 ≤ b) (hl : lo < b ^ i) (he : e < b) : dg b (lo + b ^ i * (e + b * hi)) i = e := by
  unfold dg
  have hp : 0 < b ^ i := Nat.pow_pos hb
  rw [Nat.add_mul_div_left _ _ hp, Nat.div_eq_of_lt hl, Nat.zero_add, Nat.add_mul_mod_self_left, Nat.mod_eq_of_lt he]
theorem dg_up {b lo e hi i j : Nat} (hb : 1 ≤ b) (hl : lo < b ^ i) (he : e < b) (hj : i < j) : dg b (lo + b ^ i * (e + b * hi)) j = hi / b ^ (j - i - 1) % b := by
  unfold dg
  have hp : 0 < b ^ i := Nat.pow_pos hb
  rw [show b ^ j = b ^ i * (b * b ^ (j - i - 1)) by rw [← Nat.mul_assoc, ← Nat.pow_succ, ← Nat.pow_add]; congr 1; omega,
    ← Nat.div_div_eq_div_mul, Nat.add_mul_div_left _ _ hp, Nat.div_eq_of_lt hl, Nat.zero_add, ← Nat.div_div_eq_div_mul, Nat.add_mul_div_left _ _ (by omega), Nat.div_eq_of_lt he, Nat.zero_add]
theorem count_digit {b N i : Nat} (hb : 1 ≤ b) (hi : i < N) (f : Nat → Nat) (h1 : ∀ d, f d ≤ 1) (h2 : ∀ d d', (∀ j, j ≠ i → dg b d j = dg b d' j) → 0 < f d → 0 < f d' → dg b d i = dg b d' i) :
    b * sumN f (b ^ N) ≤ b ^ N := by
  have hN : b ^ N = b ^ i * (b * b ^ (N - i - 1)) := by rw [← Nat.mul_assoc, ← Nat.pow_succ, ← Nat.pow_add]; congr 1; omega
  rw [hN, sumN_split, sumN_split]
  have h3 : sumN (fun hi => sumN (fun e => sumN (fun lo => f (lo + b ^ i * (e + b * hi))) (b ^ i)) b) (b ^ (N - i - 1)) ≤ sumN (fun _ => sumN (fun _ => 1) (b ^ i)) (b ^ (N - i - 1)) := by
    refine sumN_le fun hi' _ => ?_
    rw [sumN_comm]
    refine sumN_le fun lo hlo => ?_
    refine sum_le_one (fun _ _ => h1 _) (fun e e' he he' p p' => ?_)
    have := h2 _ _ (fun j hj => by
      by_cases hji : j < i
      · rw [dg_low hb hji, dg_low hb hji]
      · rw [dg_up hb hlo he (by omega), dg_up hb hlo he' (by omega)]) p p'
    rwa [dg_mid hb hlo he, dg_mid hb hlo he'] at this
  refine Nat.le_trans (Nat.mul_le_mul_left b h3) ?_
  rw [sumN_const, sumN_const, Nat.mul_one]
  rw [show b ^ i * (b * b ^ (N - i - 1)) = b * (b ^ (N - i - 1) * b ^ i) by simp only [Nat.mul_comm, Nat.mul_left_comm]]
  exact Nat.le_refl _
/-! ### sums of weights -/
def wtD (b d : Nat) (t : Nat) : Int := (dg b d t : Int) + 1
/-- without the thing i -/
def rest (x : Int) (W : Nat → Int) (i : Nat) : Nat → Int
  | 0 => 0
  | t + 1 => rest x W i t + if t = i then 0 else x / 2 ^ t % 2 * W t
theorem swt_rest (x : Int) (W : Nat → Int) (i : Nat) : ∀ t, swt x W t = rest x W i t + if i < t then x / 2 ^ i % 2 * W i else 0
  | 0 => rfl
  | t + 1 => by
    show swt x W t + x / 2 ^ t % 2 * W t = rest x W i t + (if t = i then 0 else x / 2 ^ t % 2 * W t) + _
    rw [swt_rest x W i t]
    by_cases e : t = i
    · subst e
      rw [if_neg (Nat.lt_irrefl _), if_pos rfl, if_pos (by omega)]
    · rw [if_neg e]
      by_cases h : i < t
      · rw [if_pos h, if_pos (by omega)]; omega
      · rw [if_neg h, if_neg (by omega)]; omega
theorem rest_congr {x : Int} {W W' : Nat → Int} {i : Nat} (h : ∀ j, j ≠ i → W j = W' j) : ∀ t, rest x W i t = rest x W' i t
  | 0 => rfl
  | t + 1 => by
    show rest x W i t + _ = rest x W' i t + _
    rw [rest_congr h t]
    by_cases e : t = i
    · rw [if_pos e, if_pos e]
    · rw [if_neg e, if_neg e, h t e]
/-- a lightest set with the thing i, and one without it -/
def Tie (S W : Nat → Int) (N m i : Nat) : Prop := ∃ p q, p < m ∧ q < m ∧ S p / 2 ^ i % 2 = 1 ∧ S q / 2 ^ i % 2 = 0 ∧ swt (S p) W N = swt (S q) W N ∧ ∀ r, r < m → swt (S p) W N ≤ swt (S r) W N
theorem tie_le {S W W' : Nat → Int} {N m i : Nat} (hi : i < N) (hw : ∀ j, j ≠ i → W j = W' j) (h : Tie S W N m i) (h' : Tie S W' N m i) : ¬ W i < W' i := by
  obtain ⟨p, q, hp, hq, bp, bq, he, hmin⟩ := h
  obtain ⟨p', q', hp', hq', bp', bq', he', hmin'⟩ := h'
  intro hlt
  have a1 := swt_rest (S p') W' i N
  have a2 := swt_rest (S p') W i N
  have a3 := swt_rest (S q) W i N
  have a4 := swt_rest (S q) W' i N
  have a5 := swt_rest (S q') W i N
  have a6 := swt_rest (S q') W' i N
  rw [if_pos hi] at a1 a2 a3 a4 a5 a6
  rw [bp'] at a1 a2
  rw [bq] at a3 a4
  rw [bq'] at a5 a6
  rw [rest_congr (x := S p') hw] at a2
  rw [rest_congr (x := S q) hw] at a3
  rw [rest_congr (x := S q') hw] at a5
  have c1 := hmin' q hq
  have c2 := hmin q' hq'
  have c3 := hmin p' hp'
  omega
theorem tie_eq {S : Nat → Int} {b N m i d d' : Nat} (hi : i < N) (h : ∀ j, j ≠ i → dg b d j = dg b d' j) (t : Tie S (wtD b d) N m i) (t' : Tie S (wtD b d') N m i) : dg b d i = dg b d' i := by
  have hw : ∀ j, j ≠ i → wtD b d j = wtD b d' j := fun j hj => by unfold wtD; rw [h j hj]
  have h1 := tie_le hi hw t t'
  have h2 := tie_le hi (fun j hj => (hw j hj).symm) t' t
  unfold wtD at h1 h2
  omega
theorem least_ex (u : Nat → Int) : ∀ {m : Nat}, 0 < m → ∃ s, s < m ∧ ∀ r, r < m → u s ≤ u r
  | 0, h => absurd h (Nat.lt_irrefl _)
  | 1, _ => ⟨0, by omega, fun r hr => by obtain rfl : r = 0 := by omega
                                         exact Int.le_refl _⟩
  | m + 2, _ => by
    obtain ⟨s, hs, h⟩ := least_ex u (m := m + 1) (by omega)
    by_cases e : u s ≤ u (m + 1)
    · exact ⟨s, by omega, fun r hr => by
        by_cases e2 : r = m + 1
        · rw [e2]; exact e
        · exact h r (by omega)⟩
    · exact ⟨m + 1, by omega, fun r hr => by
        by_cases e2 : r = m + 1
        · rw [e2]; exact Int.le_refl _
        · have := h r (by omega); omega⟩
theorem bits_differ {N : Nat} : ∀ {x y : Nat}, x < 2 ^ N → y < 2 ^ N → (∀ i, i < N → x / 2 ^ i % 2 = y / 2 ^ i % 2) → x = y := fun {x y} hx hy h => by
  refine Nat.eq_of_testBit_eq fun i => ?_
  by_cases hi : i < N
  · rw [Nat.testBit_eq_decide_div_mod_eq, Nat.testBit_eq_decide_div_mod_eq, h i hi]
  · have hp : 2 ^ N ≤ 2 ^ i := Nat.pow_le_pow_right (by omega) (by omega)
    rw [Nat.testBit_lt_two_pow (by omega), Nat.testBit_lt_two_pow (by omega)]
/-- where no set is the lightest alone there is a tie at some thing -/
theorem tie_of {S W : Nat → Int} {N m : Nat} (hm : 0 < m) (hS : ∀ i, i < m → 0 ≤ S i ∧ S i < 2 ^ N) (hd : ∀ i j, i < m → j < m → i ≠ j → S i ≠ S j) (h : soloB (fun i => swt (S i) W N) m = false) : ∃ i, i < N ∧ Tie S W N m i := by
  obtain ⟨s, hs, hmin⟩ := least_ex (fun i => swt (S i) W N) hm
  have hno : ¬ ∀ t, t < m → t ≠ s → swt (S s) W N < swt (S t) W N := fun hh => by
    have := soloB_iff.2 ⟨s, hs, hh⟩
    rw [h] at this; cases this
  have : ∃ t, t < m ∧ t ≠ s ∧ swt (S t) W N = swt (S s) W N := Classical.byContradiction fun hn => hno fun t ht hne => by
    have h1 : swt (S s) W N ≤ swt (S t) W N := hmin t ht
    have h2 : swt (S t) W N ≠ swt (S s) W N := fun e => hn ⟨t, ht, hne, e⟩
    omega
  obtain ⟨t, ht, hne, he⟩ := this
  have hex : ∃ i, i < N ∧ S s / 2 ^ i % 2 ≠ S t / 2 ^ i % 2 := Classical.byContradiction fun hn => by
    have hx : ∀ i, i < N → (S s).toNat / 2 ^ i % 2 = (S t).toNat / 2 ^ i % 2 := fun i hi => by
      have h1 : S s / 2 ^ i % 2 = S t / 2 ^ i % 2 := Classical.byContradiction fun h2 => hn ⟨i, hi, h2⟩
      have e1 : S s = ((S s).toNat : Int) := by have := (hS s hs).1; omega
      have e2 : S t = ((S t).toNat : Int) := by have := (hS t ht).1; omega
      rw [e1, e2] at h1
      have e3 : ∀ x : Nat, (x : Int) / 2 ^ i % 2 = ((x / 2 ^ i % 2 : Nat) : Int) := fun x => by simp
      rw [e3, e3] at h1
      omega
    have e4 : ((2 ^ N : Nat) : Int) = (2 : Int) ^ N := by push_cast; rfl
    have h3 := bits_differ (N := N) (x := (S s).toNat) (y := (S t).toNat) (by have := hS s hs; omega) (by have := hS t ht; omega) hx
    exact hd s t hs ht (fun e => hne e.symm) (by have := (hS s hs).1; have := (hS t ht).1; omega)
  obtain ⟨i, hi, hb⟩ := hex
  refine ⟨i, hi, ?_⟩
  have b1 : S s / 2 ^ i % 2 = 0 ∨ S s / 2 ^ i % 2 = 1 := bit2 _ _
  have b2 : S t / 2 ^ i % 2 = 0 ∨ S t / 2 ^ i % 2 = 1 := bit2 _ _
  rcases b1 with b1 | b1
  · rcases b2 with b2 | b2
    · omega
    · exact ⟨t, s, ht, hs, b2, b1, he, fun r hr => by rw [he]; exact hmin r hr⟩
  · rcases b2 with b2 | b2
    · exact ⟨s, t, hs, ht, b1, b2, he.symm, fun r hr => hmin r hr⟩
    · omega
open Classical in
theorem isol_law {S : Nat → Int} {b N m : Nat} (hb : 1 ≤ b) (hm : 0 < m) (hS : ∀ i, i < m → 0 ≤ S i ∧ S i < 2 ^ N) (hd : ∀ i j, i < m → j < m → i ≠ j → S i ≠ S j) :
    b * b ^ N ≤ b * sumN (fun d => if soloB (fun i => swt (S i) (wtD b d) N) m then 1 else 0) (b ^ N) + N * b ^ N := by
  have h1 : sumN (fun _ => 1) (b ^ N) ≤ sumN (fun d => (if soloB (fun i => swt (S i) (wtD b d) N) m then 1 else 0) + sumN (fun i => if Tie S (wtD b d) N m i then 1 else 0) N) (b ^ N) := by
    refine sumN_le fun d _ => ?_
    cases hs : soloB (fun i => swt (S i) (wtD b d) N) m
    · obtain ⟨i, hi, ht⟩ := tie_of hm hS hd hs
      have : sumN (fun j => if j = i then 1 else 0) N ≤ sumN (fun i => if Tie S (wtD b d) N m i then 1 else 0) N := sumN_le fun j _ => by
        by_cases e : j = i
        · rw [if_pos e, e, if_pos ht]; exact Nat.le_refl _
        · rw [if_neg e]; exact Nat.zero_le _
      rw [sumN_one, if_pos hi] at this
      omega
    · simp
  rw [sumN_const, Nat.mul_one, sumN_add, sumN_comm] at h1
  have h2 : b * sumN (fun i => sumN (fun d => if Tie S (wtD b d) N m i then 1 else 0) (b ^ N)) N ≤ N * b ^ N := by
    rw [← sumN_mul, ← sumN_const]
    refine sumN_le fun i hi => count_digit hb hi _ (fun d => by split <;> omega) (fun d d' h p p' => ?_)
    have t : Tie S (wtD b d) N m i := Classical.byContradiction fun hn => by rw [if_neg hn] at p; omega
    have t' : Tie S (wtD b d') N m i := Classical.byContradiction fun hn => by rw [if_neg hn] at p'; omega
    exact tie_eq hi h t t'
  have h3 := Nat.mul_le_mul_left b h1
  rw [Nat.mul_add] at h3
  omega
end Go.Proofs.Ytmnleblbandghaa
