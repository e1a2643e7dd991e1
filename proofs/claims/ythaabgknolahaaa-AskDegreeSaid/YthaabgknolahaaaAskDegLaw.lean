/- The plain law of a table's degree. Conditions: as each theorem states. -/
import Derived.Test.YthaabgknolahaaaAskChainLaw
import Derived.Test.YthaabgknolahaaaAskDeg
namespace Go.Proofs.Ythaabgknolahaaa
set_option linter.unusedVariables false
set_option linter.unusedSimpArgs false
set_option synthInstance.maxHeartbeats 4000000
set_option synthInstance.maxSize 40000
set_option maxHeartbeats 1000000
theorem e_sc : ∀ y : Nat, y < 16 → ∀ i : Nat, i < 4 → ∀ j : Nat, j < 4 → i ≠ j → setB (setB y j) i = setB (setB y i) j ∧ setB (clrB y j) i = clrB (setB y i) j ∧ clrB (setB y j) i = setB (clrB y i) j ∧ clrB (clrB y j) i = clrB (clrB y i) j := by decide +kernel
theorem e_ss : ∀ y : Nat, y < 16 → ∀ i : Nat, i < 4 → setB (setB y i) i = setB y i ∧ setB (clrB y i) i = setB y i ∧ clrB (setB y i) i = clrB y i ∧ clrB (clrB y i) i = clrB y i ∧ setB y i < 16 ∧ clrB y i < 16 := by decide +kernel
theorem e_hx : ∀ S : Nat, S < 16 → ∀ i : Nat, i < 4 → ∀ j : Nat, j < 4 → hasBit (S ^^^ 2 ^ j) i = if i = j then !hasBit S i else hasBit S i := by decide +kernel
theorem e_yes : ∀ x : Nat, x < 16 → ∀ i : Nat, i < 4 → hasBit x i = true → setB x i = x ∧ clrB x i = x ^^^ 2 ^ i := by decide +kernel
theorem e_no : ∀ x : Nat, x < 16 → ∀ i : Nat, i < 4 → hasBit x i = false → clrB x i = x ∧ setB x i = x ^^^ 2 ^ i := by decide +kernel
theorem e_low : ∀ S : Nat, S < 16 → ∀ i : Nat, i < 4 → (hasBit S i = true → S &&& (2 ^ (i + 1) - 1) ≠ 0) ∧ (hasBit S i = false → S &&& (2 ^ (i + 1) - 1) = S &&& (2 ^ i - 1)) := by decide +kernel
theorem e_dis : ∀ S : Nat, S < 16 → ∀ k : Nat, k < 16 → ∀ i : Nat, i < 4 → S &&& k = 0 → hasBit S i = true → hasBit k i = false := by decide +kernel
theorem e_pull : ∀ S : Nat, S < 16 → ∀ k : Nat, k < 16 → ∀ i : Nat, i < 4 → S &&& k = 0 → (hasBit S i = true → (S ^^^ 2 ^ i) &&& setB k i = 0 ∧ popc (S ^^^ 2 ^ i) + 1 = popc S ∧ S ^^^ 2 ^ i < 16) ∧ (hasBit S i = false → S &&& setB k i = 0) := by decide +kernel
theorem e_xlt : ∀ n : Nat, n < 5 → ∀ x : Nat, x < 16 → ∀ i : Nat, i < 4 → x < 2 ^ n → i < n → x ^^^ 2 ^ i < 2 ^ n := by decide +kernel
theorem e_high : ∀ n : Nat, n < 5 → ∀ x : Nat, x < 16 → ∀ i : Nat, i < 4 → x < 2 ^ n → hasBit x i = true → i < n := by decide +kernel
theorem e_red : ∀ t : Nat, t < 16 → ∀ i : Nat, i < 4 → hasBit t i = true → t ^^^ 2 ^ i < t := by decide +kernel
theorem e_set : ∀ S : Nat, S < 16 → ∀ l : Nat, l < 4 → hasBit S l = false → hasBit (setB S l) l = true ∧ setB S l ^^^ 2 ^ l = S ∧ popc (setB S l) = popc S + 1 ∧ setB S l < 16 := by decide +kernel
theorem e_clr : ∀ y : Nat, y < 16 → ∀ l : Nat, l < 4 → hasBit y l = true → clrB y l < y := by decide +kernel
theorem e_pop1 : ∀ x : Nat, x < 16 → (x ≠ 0 → 1 ≤ popc x) ∧ popc x ≤ 4 := by decide +kernel
theorem e_two : ∀ i : Nat, i < 4 → ∀ j : Nat, j < 4 → i ≠ j → popc (2 ^ i ||| 2 ^ j) = 2 ∧ 2 ^ i ||| 2 ^ j < 16 ∧ hasBit (2 ^ i ||| 2 ^ j) j = true ∧ (2 ^ i ||| 2 ^ j) ^^^ 2 ^ j = 2 ^ i ∧ hasBit (2 ^ i) i = true ∧ 2 ^ i ^^^ 2 ^ i = 0 ∧ 2 ^ i < 16 ∧ popc (2 ^ i) = 1 ∧ 2 ^ j < 16 := by decide +kernel
theorem e_big : ∀ S : Nat, S < 16 → ∀ i : Nat, i < 4 → 2 ≤ popc S → (hasBit S 0 = true ∧ 0 ≠ i) ∨ (hasBit S 1 = true ∧ 1 ≠ i) ∨ (hasBit S 2 = true ∧ 2 ≠ i) ∨ (hasBit S 3 = true ∧ 3 ≠ i) := by decide +kernel
theorem e_zero : ∀ k : Nat, k < 16 → ∀ i : Nat, i < 4 → ∀ j : Nat, j < 4 → k &&& 2 ^ i = 0 → hasBit k j = true → j ≠ i ∧ (k ^^^ 2 ^ j) &&& 2 ^ i = 0 := by decide +kernel
theorem e_s0 : ∀ i : Nat, i < 4 → setB 0 i = 2 ^ i ∧ hasBit 0 i = false ∧ popc (2 ^ i) = 1 := by decide +kernel
/-- the sum over the bits of S below i -/
def dvF (F : Nat → Bool) : Nat → Nat → Nat → Int
  | 0, _, y => if F y = true then 1 else 0
  | i + 1, S, y => if hasBit S i = true then dvF F i S (setB y i) - dvF F i S (clrB y i) else dvF F i S y
theorem dv_congr {F : Nat → Bool} : ∀ {i S S' y}, (∀ q, q < i → hasBit S q = hasBit S' q) → dvF F i S y = dvF F i S' y
  | 0, _, _, _, _ => rfl
  | i + 1, S, S', y, h => by
    unfold dvF
    rw [h i (by omega), dv_congr (y := setB y i) fun q hq => h q (by omega), dv_congr (y := clrB y i) fun q hq => h q (by omega), dv_congr (y := y) fun q hq => h q (by omega)]
theorem df_dv {F : Nat → Bool} : ∀ i, i ≤ 4 → ∀ x, x < 16 → dfF F i x = dvF F i x x
  | 0, _, _, _ => rfl
  | i + 1, h, x, hx => by
    unfold dfF dvF
    cases hb : hasBit x i with
    | true =>
      rw [if_pos rfl, if_pos rfl]
      obtain ⟨a, b⟩ := e_yes x hx i (by omega) hb
      have hlt := e_red x hx i (by omega) hb
      rw [a, b, df_dv i (by omega) x hx, df_dv i (by omega) (x ^^^ 2 ^ i) (by omega)]
      rw [dv_congr (S := x ^^^ 2 ^ i) (S' := x) fun q hq => by rw [e_hx x hx q (by omega) i (by omega), if_neg (by omega)]]
    | false =>
      rw [if_neg (by decide), if_neg (by decide)]
      exact df_dv i (by omega) x hx
theorem dv_pull {F : Nat → Bool} {S j : Nat} (hS : S < 16) (hj : hasBit S j = true) : ∀ i, i ≤ 4 → j < i → ∀ y, y < 16 → dvF F i S y = dvF F i (S ^^^ 2 ^ j) (setB y j) - dvF F i (S ^^^ 2 ^ j) (clrB y j)
  | 0, _, h, _, _ => absurd h (Nat.not_lt_zero _)
  | i + 1, h, hji, y, hy => by
    by_cases e : j = i
    · subst e
      rw [show dvF F (j + 1) S y = dvF F j S (setB y j) - dvF F j S (clrB y j) by rw [dvF, if_pos hj]]
      have hf : hasBit (S ^^^ 2 ^ j) j = false := by rw [e_hx S hS j (by omega) j (by omega), if_pos rfl, hj]; rfl
      have hc : ∀ z, dvF F (j + 1) (S ^^^ 2 ^ j) z = dvF F j S z := fun z => by
        rw [dvF, hf, if_neg (by decide)]
        exact dv_congr fun q hq => by rw [e_hx S hS q (by omega) j (by omega), if_neg (by omega)]
      rw [hc, hc]
    · have hbi : hasBit (S ^^^ 2 ^ j) i = hasBit S i := by rw [e_hx S hS i (by omega) j (by omega), if_neg (by omega)]
      obtain ⟨_, _, _, _, s5, s6⟩ := e_ss y hy i (by omega)
      obtain ⟨_, _, _, _, t5, t6⟩ := e_ss y hy j (by omega)
      obtain ⟨k1, k2, k3, k4⟩ := e_sc y hy i (by omega) j (by omega) (by omega)
      cases hb : hasBit S i with
      | true =>
        rw [hb] at hbi
        rw [dvF, dvF, dvF, hb, hbi, if_pos rfl, if_pos rfl, if_pos rfl, dv_pull hS hj i (by omega) (by omega) (setB y i) s5, dv_pull hS hj i (by omega) (by omega) (clrB y i) s6, k1, k2, k3, k4]
        omega
      | false =>
        rw [hb] at hbi
        rw [dvF, dvF, dvF, hb, hbi, if_neg (by decide), if_neg (by decide), if_neg (by decide)]
        exact dv_pull hS hj i (by omega) (by omega) y hy
theorem dv_in {F : Nat → Bool} {S j n : Nat} (hS : S < 16) (hj : hasBit S j = true) (hn : n ≤ 4) (hjn : j < n) {y : Nat} (hy : y < 16) : dvF F n S (clrB y j) = dvF F n S y := by
  obtain ⟨s1, s2, s3, s4, s5, s6⟩ := e_ss y hy j (by omega)
  rw [dv_pull hS hj n hn hjn y hy, dv_pull hS hj n hn hjn (clrB y j) s6, s2, s4]
def bvI (b : Bool) : Int := if b = true then 1 else 0
theorem dv_const {n : Nat} (h4 : n ≤ 4) {F : Nat → Bool} {k S : Nat} {v : Bool} {y0 : Nat} (hS : S < 2 ^ n) (hk : k < 2 ^ n) (hd : S &&& k = 0) (hc : ∀ z, z < 2 ^ n → (y0 ^^^ z) &&& k = 0 → F z = v) : ∀ i, i ≤ n → ∀ y, y < 2 ^ n → (y0 ^^^ y) &&& k = 0 → dvF F i S y = if S &&& (2 ^ i - 1) = 0 then bvI v else 0
  | 0, _, y, hy, e => by
    rw [show S &&& (2 ^ 0 - 1) = 0 from Nat.and_zero _, if_pos rfl]
    unfold dvF bvI
    rw [hc y hy e]
  | i + 1, h, y, hy, e => by
    have hp := (p16 h4).2
    obtain ⟨l1, l2⟩ := e_low S (by omega) i (by omega)
    cases hb : hasBit S i with
    | true =>
      have hki := e_dis S (by omega) k (by omega) i (by omega) hd hb
      obtain ⟨g1, g2, _⟩ := c_ag y (by omega) k (by omega) i (by omega) hki
      obtain ⟨b1, b2⟩ := sets_lt n (by omega) y (by omega) i (by omega) hy (by omega)
      rw [dvF, hb, if_pos rfl, dv_const h4 hS hk hd hc i (by omega) _ b1 (xor_and0 e g2), dv_const h4 hS hk hd hc i (by omega) _ b2 (xor_and0 e g1), if_neg (l1 hb), Int.sub_self]
    | false =>
      rw [dvF, hb, if_neg (by decide), dv_const h4 hS hk hd hc i (by omega) y hy e, l2 hb]
/-- where fewer bits are asked for than S has, its sum is 0 -/
theorem dv_tree {n : Nat} (h4 : n ≤ 4) (F : Nat → Bool) : ∀ g k y0 S y, 2 ^ n ≤ k + g → k < 2 ^ n → y0 < 2 ^ n → S < 2 ^ n → y < 2 ^ n → S &&& k = 0 → (y0 ^^^ y) &&& k = 0 → (lst n F k y0).1 < popc S → dvF F n S y = 0
  | 0, k, _, _, _, h, hk, _, _, _, _, _, _ => absurd h (by omega)
  | g + 1, k, y0, S, y, h, hk, hy0, hS, hy, hd, e, hl => by
    have hp := (p16 h4).2
    cases hs : smW F (2 ^ n) k y0 with
    | true =>
      have hS0 : S ≠ 0 := fun e => by rw [e] at hl; exact absurd hl (Nat.not_lt_zero _)
      rw [dv_const h4 hS hk hd (smW_iff.1 hs) n (Nat.le_refl _) y hy e, (c_full n (by omega) S (by omega) hS).1, if_neg hS0]
    | false =>
      obtain ⟨i, hi, hb, _, hdd⟩ := lst_ok h4 F hk hy0 hs
      obtain ⟨a1, a2, a3⟩ := setB_gt n (by omega) k (by omega) i (by omega) hk hi hb
      obtain ⟨b1, b2⟩ := sets_lt n (by omega) y0 (by omega) i (by omega) hy0 hi
      obtain ⟨b3, b4⟩ := sets_lt n (by omega) y (by omega) i (by omega) hy hi
      obtain ⟨q1, q2⟩ := e_pull S (by omega) k (by omega) i (by omega) hd
      cases hbs : hasBit S i with
      | true =>
        obtain ⟨q3, q4, q5⟩ := q1 hbs
        have hSx := e_xlt n (by omega) S (by omega) i (by omega) hS hi
        have t1 : (setB y0 i ^^^ setB y i) &&& setB k i = 0 := by
          refine st_yes y0 (by omega) (setB y i) (by omega) k (by omega) i (by omega) (xor_and0 e (c_ag y (by omega) k (by omega) i (by omega) hb).2.1) ?_
          exact (by decide +kernel : ∀ y : Nat, y < 16 → ∀ i : Nat, i < 4 → hasBit (setB y i) i = true) y (by omega) i (by omega)
        have t2 : (clrB y0 i ^^^ clrB y i) &&& setB k i = 0 := by
          refine st_no y0 (by omega) (clrB y i) (by omega) k (by omega) i (by omega) (xor_and0 e (c_ag y (by omega) k (by omega) i (by omega) hb).1) ?_
          exact (by decide +kernel : ∀ y : Nat, y < 16 → ∀ i : Nat, i < 4 → hasBit (clrB y i) i = false) y (by omega) i (by omega)
        rw [dv_pull (by omega) hbs n h4 hi y (by omega)]
        rw [dv_tree h4 F g (setB k i) (setB y0 i) (S ^^^ 2 ^ i) (setB y i) (by omega) a2 b1 hSx b3 q3 t1 (by omega)]
        rw [dv_tree h4 F g (setB k i) (clrB y0 i) (S ^^^ 2 ^ i) (clrB y i) (by omega) a2 b2 hSx b4 q3 t2 (by omega)]
        rfl
      | false =>
        cases hby : hasBit y i with
        | true => exact dv_tree h4 F g (setB k i) (setB y0 i) S y (by omega) a2 b1 hS hy (q2 hbs) (st_yes y0 (by omega) y (by omega) k (by omega) i (by omega) e hby) (by omega)
        | false => exact dv_tree h4 F g (setB k i) (clrB y0 i) S y (by omega) a2 b2 hS hy (q2 hbs) (st_no y0 (by omega) y (by omega) k (by omega) i (by omega) e hby) (by omega)
/-- from one word to all, bit by bit -/
theorem flip_all {n : Nat} (h4 : n ≤ 4) {P : Nat → Prop} {x : Nat} (hx : x < 2 ^ n) (h0 : P x) (hst : ∀ z j, z < 2 ^ n → j < n → P z → P (z ^^^ 2 ^ j)) : ∀ g t, t < g → t < 2 ^ n → P (x ^^^ t)
  | 0, _, h, _ => absurd h (Nat.not_lt_zero _)
  | g + 1, t, h, ht => by
    have hp := (p16 h4).2
    by_cases t0 : t = 0
    · rw [t0, Nat.xor_zero]; exact h0
    · obtain ⟨i, hb, hi⟩ : ∃ i, hasBit t i = true ∧ i < n := by
        rcases c_pick n (by omega) t (by omega) ht t0 with e | e | e | e
        · exact ⟨0, e⟩
        · exact ⟨1, e⟩
        · exact ⟨2, e⟩
        · exact ⟨3, e⟩
      have hr := e_red t (by omega) i (by omega) hb
      have ih := flip_all h4 hx h0 hst g (t ^^^ 2 ^ i) (by omega) (by omega)
      have := hst _ i (c_lt n (by omega) x (by omega) (t ^^^ 2 ^ i) (by omega) hx (by omega)).1 hi ih
      rw [Nat.xor_assoc, Nat.xor_assoc, Nat.xor_self, Nat.xor_zero] at this
      exact this
theorem flip_to {n : Nat} (h4 : n ≤ 4) {P : Nat → Prop} {x z : Nat} (hx : x < 2 ^ n) (hz : z < 2 ^ n) (h0 : P x) (hst : ∀ z j, z < 2 ^ n → j < n → P z → P (z ^^^ 2 ^ j)) : P z := by
  have hp := (p16 h4).2
  have := flip_all h4 hx h0 hst 16 (x ^^^ z) (by have := (c_lt n (by omega) x (by omega) z (by omega) hx hz).1; omega) (c_lt n (by omega) x (by omega) z (by omega) hx hz).1
  rwa [c_xx x (by omega) z (by omega)] at this
/-- the table hangs on bit i alone -/
def Only (n : Nat) (F : Nat → Bool) (i : Nat) : Prop := ∀ z j, z < 2 ^ n → j < n → j ≠ i → F (z ^^^ 2 ^ j) = F z
def Cst (n : Nat) (F : Nat → Bool) : Prop := ∀ z, z < 2 ^ n → F z = F 0
theorem cst_or {n : Nat} (h4 : n ≤ 4) (F : Nat → Bool) : Cst n F ∨ ∃ x i, x < 2 ^ n ∧ i < n ∧ F (x ^^^ 2 ^ i) ≠ F x := by
  refine Classical.byContradiction fun hn => ?_
  obtain ⟨h1, h2⟩ := not_or.1 hn
  apply h1
  intro z hz
  refine flip_to h4 (P := fun z => F z = F 0) (x := 0) (by have := (p16 h4).1; omega) hz rfl fun z j hz hj hP => ?_
  refine Classical.byContradiction fun hc => h2 ⟨z, j, hz, hj, fun e => hc (by show F (z ^^^ 2 ^ j) = F 0; rw [e]; exact hP)⟩
theorem only_sm {n : Nat} (h4 : n ≤ 4) {F : Nat → Bool} {i x : Nat} (hi : i < n) (ho : Only n F i) (hx : x < 2 ^ n) : smW F (2 ^ n) (2 ^ i) x = true := by
  have hp := (p16 h4).2
  have : ∀ g t, t < g → t < 2 ^ n → t &&& 2 ^ i = 0 → F (x ^^^ t) = F x := fun g => by
    induction g with
    | zero => exact fun t h => absurd h (Nat.not_lt_zero _)
    | succ g ih =>
      intro t h ht hti
      by_cases t0 : t = 0
      · rw [t0, Nat.xor_zero]
      · obtain ⟨j, hb, hj⟩ : ∃ j, hasBit t j = true ∧ j < n := by
          rcases c_pick n (by omega) t (by omega) ht t0 with e | e | e | e
          · exact ⟨0, e⟩
          · exact ⟨1, e⟩
          · exact ⟨2, e⟩
          · exact ⟨3, e⟩
        obtain ⟨z1, z2⟩ := e_zero t (by omega) i (by omega) j (by omega) hti hb
        have hr := e_red t (by omega) j (by omega) hb
        have h1 := ih (t ^^^ 2 ^ j) (by omega) (by omega) z2
        have h2 := ho (x ^^^ t) j (c_lt n (by omega) x (by omega) t (by omega) hx ht).1 hj z1
        rw [Nat.xor_assoc] at h2
        rw [← h2, h1]
  refine smW_iff.2 fun y hy e => ?_
  have hxy := (c_lt n (by omega) x (by omega) y (by omega) hx hy).1
  have := this 16 (x ^^^ y) (by omega) hxy e
  rwa [c_xx x (by omega) y (by omega)] at this
/-- no sum over a bit that the table doesn't hang on -/
theorem dv_only {n : Nat} (h4 : n ≤ 4) {F : Nat → Bool} {i S j : Nat} (ho : Only n F i) (hS : S < 2 ^ n) (hj : j < n) (hji : j ≠ i) (hb : hasBit S j = true) {y : Nat} (hy : y < 2 ^ n) : dvF F n S y = 0 := by
  have hp := (p16 h4).2
  have hF : ∀ y, y < 2 ^ n → F (setB y j) = F (clrB y j) := fun y hy => by
    cases hby : hasBit y j with
    | true =>
      obtain ⟨a, b⟩ := e_yes y (by omega) j (by omega) hby
      rw [a, b, ho y j hy hj hji]
    | false =>
      obtain ⟨a, b⟩ := e_no y (by omega) j (by omega) hby
      rw [a, b, ho y j hy hj hji]
  have h1 : ∀ i, i ≤ j → ∀ y, y < 2 ^ n → dvF F i S (setB y j) = dvF F i S (clrB y j) := fun i => by
    induction i with
    | zero => intro _ y hy; unfold dvF; rw [hF y hy]
    | succ i ih =>
      intro hij y hy
      obtain ⟨b1, b2⟩ := sets_lt n (by omega) y (by omega) i (by omega) hy (by omega)
      obtain ⟨k1, k2, k3, k4⟩ := e_sc y (by omega) i (by omega) j (by omega) (by omega)
      unfold dvF
      rw [k1, k2, k3, k4, ih (by omega) y hy, ih (by omega) _ b1, ih (by omega) _ b2]
  have h2 : ∀ d, j + 1 + d ≤ n → ∀ y, y < 2 ^ n → dvF F (j + 1 + d) S y = 0 := fun d => by
    induction d with
    | zero =>
      intro _ y hy
      rw [Nat.add_zero, dvF, if_pos hb, h1 j (Nat.le_refl _) y hy, Int.sub_self]
    | succ d ih =>
      intro hd y hy
      obtain ⟨b1, b2⟩ := sets_lt n (by omega) y (by omega) (j + 1 + d) (by omega) hy (by omega)
      rw [show j + 1 + (d + 1) = (j + 1 + d) + 1 by omega, dvF, ih (by omega) _ b1, ih (by omega) _ b2, ih (by omega) _ hy]
      split <;> rfl
  have := h2 (n - (j + 1)) (by omega) y hy
  rwa [show j + 1 + (n - (j + 1)) = n by omega] at this
/-- all sums over t bits and more are 0 when those at 0 are -/
theorem dv_all {n : Nat} (h4 : n ≤ 4) {F : Nat → Bool} {t : Nat} (h : ∀ x, x < 2 ^ n → t ≤ popc x → dfF F n x = 0) : ∀ g y S, y < g → y < 2 ^ n → S < 2 ^ n → t ≤ popc S → dvF F n S y = 0
  | 0, _, _, h, _, _, _ => absurd h (Nat.not_lt_zero _)
  | g + 1, y, S, hg, hy, hS, ht => by
    have hp := (p16 h4).2
    by_cases y0 : y = 0
    · -- the bits of S do not matter
      have hz : ∀ g' z, z < g' → z < 2 ^ n → z &&& S = z → dvF F n S z = dvF F n S 0 := fun g' => by
        induction g' with
        | zero => exact fun z h => absurd h (Nat.not_lt_zero _)
        | succ g' ih =>
          intro z hzg hz hzs
          by_cases z0 : z = 0
          · rw [z0]
          · obtain ⟨l, hb, hl⟩ : ∃ l, hasBit z l = true ∧ l < n := by
              rcases c_pick n (by omega) z (by omega) hz z0 with e | e | e | e
              · exact ⟨0, e⟩
              · exact ⟨1, e⟩
              · exact ⟨2, e⟩
              · exact ⟨3, e⟩
            obtain ⟨m1, m2⟩ := c_min z (by omega) S (by omega) l (by omega) hb hzs
            have hbS : hasBit S l = true := (by decide +kernel : ∀ z : Nat, z < 16 → ∀ S : Nat, S < 16 → ∀ l : Nat, l < 4 → z &&& S = z → hasBit z l = true → hasBit S l = true) z (by omega) S (by omega) l (by omega) hzs hb
            obtain ⟨_, b⟩ := e_yes z (by omega) l (by omega) hb
            rw [← dv_in (by omega) hbS h4 hl (show z < 16 by omega), b]
            exact ih _ (by omega) (by omega) m2
      subst y0
      rw [← hz 16 S (by omega) hS (by rw [Nat.and_self]), ← df_dv n h4 S (by omega)]
      exact h S hS ht
    · obtain ⟨l, hb, hl⟩ : ∃ l, hasBit y l = true ∧ l < n := by
        rcases c_pick n (by omega) y (by omega) hy y0 with e | e | e | e
        · exact ⟨0, e⟩
        · exact ⟨1, e⟩
        · exact ⟨2, e⟩
        · exact ⟨3, e⟩
      have hcl := e_clr y (by omega) l (by omega) hb
      obtain ⟨b1, b2⟩ := sets_lt n (by omega) y (by omega) l (by omega) hy hl
      cases hbS : hasBit S l with
      | true =>
        rw [← dv_in (by omega) hbS h4 hl (show y < 16 by omega)]
        exact dv_all h4 h g (clrB y l) S (by omega) b2 hS ht
      | false =>
        obtain ⟨s1, s2, s3, s4⟩ := e_set S (by omega) l (by omega) hbS
        obtain ⟨a, _⟩ := e_yes y (by omega) l (by omega) hb
        have hSl := (sets_lt n (by omega) S (by omega) l (by omega) hS hl).1
        have p1 := dv_pull (F := F) s4 s1 n h4 hl y (by omega)
        rw [s2, a] at p1
        have p2 := dv_all h4 h g (clrB y l) (setB S l) (by omega) b2 hSl (by omega)
        rw [dv_in s4 s1 h4 hl (show y < 16 by omega)] at p2
        have p3 := dv_all h4 h g (clrB y l) S (by omega) b2 hS ht
        omega
theorem bv_inj {a b : Bool} (h : (if a = true then (1 : Int) else 0) = if b = true then 1 else 0) : a = b := by
  cases a <;> cases b <;> first | rfl | (simp at h)
theorem dv_none {F : Nat → Bool} : ∀ i, i ≤ 4 → ∀ y, dvF F i 0 y = if F y = true then 1 else 0
  | 0, _, _ => rfl
  | i + 1, h, y => by
    rw [dvF, (e_s0 i (by omega)).2.1, if_neg (by decide)]
    exact dv_none i (by omega) y
/-- the sum over one bit -/
theorem dv_one {n : Nat} (h4 : n ≤ 4) (F : Nat → Bool) {i y : Nat} (hi : i < n) (hy : y < 16) : dvF F n (2 ^ i) y = (if F (setB y i) = true then 1 else 0) - (if F (clrB y i) = true then 1 else 0) := by
  have h1 : hasBit (2 ^ i) i = true := (by decide +kernel : ∀ i : Nat, i < 4 → hasBit (2 ^ i) i = true) i (by omega)
  have h2 : 2 ^ i < 16 := (by decide +kernel : ∀ i : Nat, i < 4 → 2 ^ i < 16) i (by omega)
  rw [dv_pull h2 h1 n h4 hi y hy, Nat.xor_self, dv_none n h4, dv_none n h4]
/-- a table with sums over no more than one bit hangs on one bit -/
theorem deg_one {n : Nat} (h4 : n ≤ 4) {F : Nat → Bool} (h : ∀ x, x < 2 ^ n → 2 ≤ popc x → dfF F n x = 0) : Cst n F ∨ ∃ i, i < n ∧ Only n F i := by
  have hp := p16 h4
  rcases cst_or h4 F with hc | ⟨x, i, hx, hi, hne⟩
  · exact .inl hc
  · refine .inr ⟨i, hi, ?_⟩
    -- the difference along i is the same everywhere
    have hst : ∀ z j, z < 2 ^ n → j < n → dvF F n (2 ^ i) (z ^^^ 2 ^ j) = dvF F n (2 ^ i) z := fun z j hz hj => by
      have hzj := e_xlt n (by omega) z (by omega) j (by omega) hz hj
      by_cases e : j = i
      · subst e
        rw [dv_one h4 F hi (by omega), dv_one h4 F hi (by omega)]
        obtain ⟨x1, x2⟩ := (by decide +kernel : ∀ z : Nat, z < 16 → ∀ j : Nat, j < 4 → setB (z ^^^ 2 ^ j) j = setB z j ∧ clrB (z ^^^ 2 ^ j) j = clrB z j) z (by omega) j (by omega)
        rw [x1, x2]
      · obtain ⟨w1, w2, w3, w4, w5, w6, w7, w8, w9⟩ := e_two i (by omega) j (by omega) (by omega)
        have hSn : 2 ^ i ||| 2 ^ j < 2 ^ n := (by decide +kernel : ∀ n : Nat, n < 5 → ∀ i : Nat, i < 4 → ∀ j : Nat, j < 4 → i < n → j < n → 2 ^ i ||| 2 ^ j < 2 ^ n) n (by omega) i (by omega) j (by omega) hi hj
        have h0 := dv_all h4 h 16 z (2 ^ i ||| 2 ^ j) (by omega) hz hSn (by omega)
        rw [dv_pull w2 w3 n h4 hj z (by omega), w4] at h0
        cases hb : hasBit z j with
        | true =>
          obtain ⟨a, b⟩ := e_yes z (by omega) j (by omega) hb
          rw [a, b] at h0; omega
        | false =>
          obtain ⟨a, b⟩ := e_no z (by omega) j (by omega) hb
          rw [a, b] at h0; omega
    have hall : ∀ z, z < 2 ^ n → dvF F n (2 ^ i) z = dvF F n (2 ^ i) x := fun z hz => flip_to h4 (P := fun z => dvF F n (2 ^ i) z = dvF F n (2 ^ i) x) hx hz rfl fun z j hz hj hP => (hst z j hz hj).trans hP
    have hv : ∀ z, z < 2 ^ n → (if F (setB z i) = true then (1 : Int) else 0) - (if F (clrB z i) = true then 1 else 0) = (if F (setB x i) = true then 1 else 0) - (if F (clrB x i) = true then 1 else 0) := fun z hz => by
      rw [← dv_one h4 F hi (by omega), ← dv_one h4 F hi (by omega)]; exact hall z hz
    have hxne : F (setB x i) ≠ F (clrB x i) := by
      cases hb : hasBit x i with
      | true =>
        obtain ⟨a, b⟩ := e_yes x (by omega) i (by omega) hb
        rw [a, b]; exact Ne.symm hne
      | false =>
        obtain ⟨a, b⟩ := e_no x (by omega) i (by omega) hb
        rw [a, b]; exact hne
    have hfix : ∀ z, z < 2 ^ n → F (setB z i) = F (setB x i) ∧ F (clrB z i) = F (clrB x i) := fun z hz => by
      have := hv z hz
      revert this hxne
      generalize F (setB z i) = a; generalize F (clrB z i) = b; generalize F (setB x i) = c; generalize F (clrB x i) = d
      cases a <;> cases b <;> cases c <;> cases d <;> simp
    intro z j hz hj hji
    have hzj := e_xlt n (by omega) z (by omega) j (by omega) hz hj
    have hbb : hasBit (z ^^^ 2 ^ j) i = hasBit z i := by rw [e_hx z (by omega) i (by omega) j (by omega), if_neg (by omega)]
    cases hb : hasBit z i with
    | true =>
      rw [hb] at hbb
      have a1 := (e_yes z (by omega) i (by omega) hb).1
      have a2 := (e_yes _ (show z ^^^ 2 ^ j < 16 by omega) i (by omega) hbb).1
      have b1 := (hfix z hz).1
      have b2 := (hfix _ hzj).1
      rw [a1] at b1; rw [a2] at b2
      rw [b1, b2]
    | false =>
      rw [hb] at hbb
      have a1 := (e_no z (by omega) i (by omega) hb).1
      have a2 := (e_no _ (show z ^^^ 2 ^ j < 16 by omega) i (by omega) hbb).1
      have b1 := (hfix z hz).2
      have b2 := (hfix _ hzj).2
      rw [a1] at b1; rw [a2] at b2
      rw [b1, b2]
theorem sn_pos {F : Nat → Bool} {x i : Nat} (h : F (x ^^^ 2 ^ i) ≠ F x) : ∀ n, i < n → 1 ≤ snF F x n
  | n + 1, hi => by
    unfold snF
    by_cases e : i = n
    · rw [← e, if_neg h]; omega
    · have := sn_pos h n (by omega); omega
theorem sn_two {F : Nat → Bool} {x i j : Nat} (h : F (x ^^^ 2 ^ i) ≠ F x) (h' : F (x ^^^ 2 ^ j) ≠ F x) (hij : i < j) : ∀ n, j < n → 2 ≤ snF F x n
  | n + 1, hj => by
    unfold snF
    by_cases e : j = n
    · have := sn_pos h n (by omega)
      rw [← e, if_neg h', e]; omega
    · have := sn_two h h' hij n (by omega); omega
/-- a table of which no word is turned by two bits hangs on one bit -/
theorem sens_one {n : Nat} (h4 : n ≤ 4) {F : Nat → Bool} (h : ∀ x, x < 2 ^ n → snF F x n ≤ 1) {x i : Nat} (hx : x < 2 ^ n) (hi : i < n) (hne : F (x ^^^ 2 ^ i) ≠ F x) : Only n F i := by
  have hp := p16 h4
  have hone : ∀ z j, z < 2 ^ n → j < n → j ≠ i → F (z ^^^ 2 ^ i) ≠ F z → F (z ^^^ 2 ^ j) = F z := fun z j hz hj hji hz2 => by
    refine Classical.byContradiction fun hc => ?_
    have := h z hz
    rcases Nat.lt_or_gt_of_ne hji with l | l
    · have := sn_two hc hz2 l n hi; omega
    · have := sn_two hz2 hc l n hj; omega
  have hall : ∀ z, z < 2 ^ n → F (z ^^^ 2 ^ i) ≠ F z := fun z hz => flip_to h4 (P := fun z => F (z ^^^ 2 ^ i) ≠ F z) hx hz hne fun z j hz hj hP => by
    have hzi := e_xlt n (by omega) z (by omega) i (by omega) hz hi
    by_cases e : j = i
    · subst e
      show F ((z ^^^ 2 ^ j) ^^^ 2 ^ j) ≠ F (z ^^^ 2 ^ j)
      rw [Nat.xor_assoc, Nat.xor_self, Nat.xor_zero]; exact Ne.symm hP
    · show F ((z ^^^ 2 ^ j) ^^^ 2 ^ i) ≠ F (z ^^^ 2 ^ j)
      have h1 := hone z j hz hj e hP
      have h2 := hone (z ^^^ 2 ^ i) j hzi hj e (by rw [Nat.xor_assoc, Nat.xor_self, Nat.xor_zero]; exact Ne.symm hP)
      rw [Nat.xor_assoc, Nat.xor_comm (2 ^ j) (2 ^ i), ← Nat.xor_assoc, h2, h1]
      exact hP
  exact fun z j hz hj hji => hone z j hz hj hji (hall z hz)
theorem deg_all {n : Nat} (h4 : n ≤ 4) (F : Nat → Bool) {s b k d : Nat} (hs : s = mxF (fun x => snF F x n) (2 ^ n)) (hb : b = mxF (fun x => grp F x (2 ^ n - 1)) (2 ^ n)) (hk : k = mxF (dgF n F) (2 ^ n)) (hd : d = (lst n F 0 0).1) :
    k ≤ d ∧ k ≤ s * s ∧ b ≤ 2 * (k * k) ∧ d ≤ 2 * (k * k * k) ∧ s ≤ 4 ∧ b ≤ 4 ∧ k ≤ 4 ∧ d ≤ 4 := by
  have hp := p16 h4
  have hdg : ∀ {B : Nat}, (∀ x, x < 2 ^ n → B < popc x → dfF F n x = 0) → k ≤ B := fun h => by
    rw [hk]
    refine mx_le fun x hx => ?_
    unfold dgF
    split
    · exact Nat.zero_le _
    · rename_i hne
      exact Nat.not_lt.1 fun hc => hne (h x hx hc)
  have hkx : ∀ x, x < 2 ^ n → k < popc x → dfF F n x = 0 := fun x hx hc => by
    refine Classical.byContradiction fun hne => ?_
    have := mx_ge (g := dgF n F) hx
    rw [show dgF n F x = popc x from if_neg hne, ← hk] at this
    omega
  have hk4 : k ≤ 4 := hdg fun x hx hc => absurd (e_pop1 x (by omega)).2 (by omega)
  have hd4 := lst_le h4 F (k := 0) (x := 0) (by omega) (by omega)
  rw [← hd, show popc 0 = 0 from rfl] at hd4
  have hs4 : s ≤ 4 := by
    rw [hs]; exact mx_le fun x hx => Nat.le_trans (sn_le F x n) h4
  have hb4 : b ≤ 4 := by
    rw [hb]; refine mx_le fun x hx => ?_
    have := grp_le (F := F) (x := x) (show 2 ^ n - 1 < 16 by omega)
    rw [popc_full n (by omega)] at this
    exact Nat.le_trans this h4
  have hsx : ∀ x, x < 2 ^ n → snF F x n ≤ s := fun x hx => by rw [hs]; exact mx_ge (g := fun x => snF F x n) hx
  have hcst : Cst n F → k = 0 ∧ b = 0 ∧ d = 0 := fun hc => by
    have hsm : ∀ K x, x < 2 ^ n → smW F (2 ^ n) K x = true := fun K x hx => smW_iff.2 fun y hy _ => by rw [hc x hx, hc y hy]
    refine ⟨?_, ?_, ?_⟩
    · have : k ≤ 0 := hdg fun x hx hc2 => by
        rw [df_dv n h4 x (by omega), dv_const h4 (k := 0) (y0 := 0) hx (by omega) (Nat.and_zero _) (fun z hz _ => hc z hz) n (Nat.le_refl _) x hx (Nat.and_zero _), (c_full n (by omega) x (by omega) hx).1, if_neg]
        intro e; rw [e] at hc2; exact absurd hc2 (Nat.not_lt_zero _)
      omega
    · have : b ≤ 0 := by
        rw [hb]; refine mx_le fun x hx => ?_
        have := grp_cert h4 (K := 0) hx (by omega) (hsm 0 x hx) 16 (2 ^ n - 1) (by omega) (by omega)
        rwa [Nat.zero_and] at this
      omega
    · rw [hd, lst_same (hsm 0 0 (by omega))]
  have honly : ∀ i, i < n → Only n F i → b ≤ 1 ∧ d ≤ 1 ∧ k ≤ 1 := fun i hi ho => by
    obtain ⟨z1, z2, z3⟩ := e_s0 i (by omega)
    have h2n : 2 ^ i < 2 ^ n := Nat.pow_lt_pow_right (by omega) hi
    refine ⟨?_, ?_, ?_⟩
    · rw [hb]; refine mx_le fun x hx => ?_
      have := grp_cert h4 (K := 2 ^ i) hx h2n (only_sm h4 hi ho hx) 16 (2 ^ n - 1) (by omega) (by omega)
      rwa [(c_full n (by omega) (2 ^ i) (by omega) h2n).1, z3] at this
    · obtain ⟨b1, b2⟩ := sets_lt n (by omega) 0 (by omega) i (by omega) (by omega) hi
      have := lst_step h4 F (k := 0) (y := 0) (by omega) (by omega) hi z2
      rw [z1, lst_same (only_sm h4 hi ho b2)] at this
      rw [← z1, z1] at this
      rw [lst_same (k := 2 ^ i) (x := 2 ^ i) (only_sm h4 hi ho h2n)] at this
      rw [hd]; exact this
    · exact hdg fun x hx hc => by
        obtain ⟨j, hbj, hji⟩ : ∃ j, hasBit x j = true ∧ j ≠ i := by
          rcases e_big x (by omega) i (by omega) (by omega) with e | e | e | e
          · exact ⟨0, e⟩
          · exact ⟨1, e⟩
          · exact ⟨2, e⟩
          · exact ⟨3, e⟩
        have hjn : j < n := by
          by_cases hj4 : j < 4
          · exact e_high n (by omega) x (by omega) j hj4 hx hbj
          · exfalso
            have h16 : x / 2 ^ j = 0 := Nat.div_eq_of_lt (Nat.lt_of_lt_of_le (show x < 2 ^ 4 by omega) (Nat.pow_le_pow_right (by omega) (by omega)))
            unfold hasBit at hbj
            rw [h16] at hbj
            cases hbj
        rw [df_dv n h4 x (by omega)]
        exact dv_only h4 ho hx hjn hji hbj hx
  refine ⟨?_, ?_, ?_, ?_, hs4, hb4, hk4, by omega⟩
  · exact hdg fun x hx hc => by
      rw [df_dv n h4 x (by omega)]
      exact dv_tree h4 F 16 0 0 x x (by omega) (by omega) (by omega) hx hx (Nat.and_zero _) (Nat.and_zero _) (by rw [← hd]; exact hc)
  · by_cases h2 : 2 ≤ s
    · have := Nat.mul_le_mul h2 h2; omega
    · rcases cst_or h4 F with hc | ⟨x, i, hx, hi, hne⟩
      · rw [(hcst hc).1]; exact Nat.zero_le _
      · have h1 := sn_pos hne n hi
        have h3 := hsx x hx
        have hs1 : s = 1 := by omega
        have := (honly i hi (sens_one h4 (fun x hx => by have := hsx x hx; omega) hx hi hne)).2.2
        rw [hs1]; omega
  · by_cases h2 : 2 ≤ k
    · have := Nat.mul_le_mul h2 h2; omega
    · rcases deg_one h4 (F := F) (fun x hx hc => hkx x hx (by omega)) with hc | ⟨i, hi, ho⟩
      · rw [(hcst hc).2.1]; exact Nat.zero_le _
      · by_cases hk0 : k = 0
        · have hcc : Cst n F := by
            rcases cst_or h4 F with hc | ⟨x, i, hx, hi, hne⟩
            · exact hc
            · exfalso
              have h2n : 2 ^ i < 2 ^ n := Nat.pow_lt_pow_right (by omega) hi
              have := dv_all h4 (t := 1) (F := F) (fun x hx hc => hkx x hx (by omega)) 16 x (2 ^ i) (by omega) hx h2n (by rw [(e_s0 i (by omega)).2.2]; exact Nat.le_refl _)
              rw [dv_one h4 F hi (by omega)] at this
              have he : F (setB x i) = F (clrB x i) := bv_inj (by omega)
              cases hb2 : hasBit x i with
              | true =>
                obtain ⟨a, b'⟩ := e_yes x (by omega) i (by omega) hb2
                rw [a, b'] at he; exact hne he.symm
              | false =>
                obtain ⟨a, b'⟩ := e_no x (by omega) i (by omega) hb2
                rw [a, b'] at he; exact hne he
          rw [(hcst hcc).2.1]; exact Nat.zero_le _
        · have := (honly i hi ho).1
          rw [show k = 1 by omega]; omega
  · by_cases h2 : 2 ≤ k
    · have h5 := Nat.mul_le_mul h2 h2
      have := Nat.mul_le_mul h5 h2
      omega
    · rcases deg_one h4 (F := F) (fun x hx hc => hkx x hx (by omega)) with hc | ⟨i, hi, ho⟩
      · rw [(hcst hc).2.2]; exact Nat.zero_le _
      · by_cases hk0 : k = 0
        · have hcc : Cst n F := by
            rcases cst_or h4 F with hc | ⟨x, i, hx, hi, hne⟩
            · exact hc
            · exfalso
              have h2n : 2 ^ i < 2 ^ n := Nat.pow_lt_pow_right (by omega) hi
              have := dv_all h4 (t := 1) (F := F) (fun x hx hc => hkx x hx (by omega)) 16 x (2 ^ i) (by omega) hx h2n (by rw [(e_s0 i (by omega)).2.2]; exact Nat.le_refl _)
              rw [dv_one h4 F hi (by omega)] at this
              have he : F (setB x i) = F (clrB x i) := bv_inj (by omega)
              cases hb2 : hasBit x i with
              | true =>
                obtain ⟨a, b'⟩ := e_yes x (by omega) i (by omega) hb2
                rw [a, b'] at he; exact hne he.symm
              | false =>
                obtain ⟨a, b'⟩ := e_no x (by omega) i (by omega) hb2
                rw [a, b'] at he; exact hne he
          rw [(hcst hcc).2.2]; exact Nat.zero_le _
        · have := (honly i hi ho).2.1
          rw [show k = 1 by omega]; omega
end Go.Proofs.Ythaabgknolahaaa
