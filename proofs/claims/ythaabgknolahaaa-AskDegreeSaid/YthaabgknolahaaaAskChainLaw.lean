/- The plain law of the chain of questions. Conditions: as each theorem states. -/
import Derived.Test.YthaabgknolahaaaAskLaw2
namespace Go.Proofs.Ythaabgknolahaaa
set_option linter.unusedVariables false
set_option linter.unusedSimpArgs false
set_option synthInstance.maxHeartbeats 4000000
set_option synthInstance.maxSize 40000
set_option maxHeartbeats 1000000
theorem c_sub : ∀ l : Nat, l < 16 → ∀ l' : Nat, l' < 16 → ∀ s : Nat, s < 16 → l &&& l' = l → s &&& l = s → s &&& l' = s ∧ (l ^^^ s) &&& (l' ^^^ s) = l ^^^ s := by decide +kernel
theorem c_hit : ∀ K : Nat, K < 16 → ∀ l : Nat, l < 16 → ∀ s : Nat, s < 16 → s &&& l = s → s &&& K ≠ 0 → popc (K &&& (l ^^^ s)) + 1 ≤ popc (K &&& l) := by decide +kernel
theorem c_xx : ∀ x : Nat, x < 16 → ∀ s : Nat, s < 16 → x ^^^ (x ^^^ s) = s := by decide +kernel
theorem c_one : ∀ j : Nat, j < 4 → 2 ^ j ≠ 0 ∧ 2 ^ j < 16 ∧ 2 ^ j &&& (2 ^ (j + 1) - 1) = 2 ^ j ∧ (2 ^ (j + 1) - 1) ^^^ 2 ^ j = 2 ^ j - 1 ∧ 2 ^ (j + 1) - 1 < 16 ∧ 2 ^ j - 1 < 16 ∧ (2 ^ j - 1) &&& (2 ^ (j + 1) - 1) = 2 ^ j - 1 := by decide +kernel
theorem c_U : ∀ k : Nat, k < 16 → ∀ U : Nat, U < 16 → ∀ i : Nat, i < 4 → U &&& k = 0 → hasBit U i = true → hasBit k i = false ∧ setB k i ||| (U ^^^ 2 ^ i) = k ||| U ∧ popc (U ^^^ 2 ^ i) + 1 = popc U ∧ (U ^^^ 2 ^ i) &&& setB k i = 0 ∧ U ^^^ 2 ^ i < U := by decide +kernel
def rmB (K k : Nat) : Nat := K ^^^ (K &&& k)
theorem c_rm : ∀ K : Nat, K < 16 → ∀ k : Nat, k < 16 → rmB K k &&& k = 0 ∧ (popc (rmB K k) = 0 → K &&& k = K) ∧ rmB K 0 = K ∧ rmB K k < 16 := by decide +kernel
theorem c_rmU : ∀ K : Nat, K < 16 → ∀ k : Nat, k < 16 → ∀ U : Nat, U < 16 → popc (rmB K (k ||| U)) ≤ popc (rmB K k) ∧ (K &&& U ≠ 0 → U &&& k = 0 → popc (rmB K (k ||| U)) + 1 ≤ popc (rmB K k)) := by decide +kernel
theorem c_pick : ∀ n : Nat, n < 5 → ∀ U : Nat, U < 16 → U < 2 ^ n → U ≠ 0 → (hasBit U 0 = true ∧ 0 < n) ∨ (hasBit U 1 = true ∧ 1 < n) ∨ (hasBit U 2 = true ∧ 2 < n) ∨ (hasBit U 3 = true ∧ 3 < n) := by decide +kernel
theorem c_ag : ∀ y : Nat, y < 16 → ∀ k : Nat, k < 16 → ∀ i : Nat, i < 4 → hasBit k i = false → (y ^^^ clrB y i) &&& k = 0 ∧ (y ^^^ setB y i) &&& k = 0 ∧ k &&& setB k i = k := by decide +kernel
theorem c_or : ∀ k : Nat, k < 16 → ∀ U : Nat, U < 16 → k &&& (k ||| U) = k ∧ k ||| U < 16 ∧ popc (k ||| U) ≤ popc k + popc U ∧ k ||| 0 = k := by decide +kernel
theorem c_vA : ∀ z : Nat, z < 16 → ∀ z1 : Nat, z1 < 16 → ∀ K : Nat, K < 16 → (z1 ^^^ (z ^^^ ((z ^^^ z1) &&& K))) &&& K = 0 ∧ z ^^^ (z ^^^ ((z ^^^ z1) &&& K)) = (z ^^^ z1) &&& K := by decide +kernel
theorem c_vC : ∀ a : Nat, a < 16 → ∀ K : Nat, K < 16 → ∀ k : Nat, k < 16 → ∀ Z : Nat, Z < 16 → a &&& k = 0 → Z &&& rmB K k = 0 → (a &&& K) &&& Z = 0 := by decide +kernel
theorem c_min : ∀ t : Nat, t < 16 → ∀ l : Nat, l < 16 → ∀ i : Nat, i < 4 → hasBit t i = true → t &&& l = t → t ^^^ 2 ^ i < t ∧ (t ^^^ 2 ^ i) &&& l = t ^^^ 2 ^ i := by decide +kernel
theorem c_cnt : ∀ t : Nat, t < 16 → ∀ j : Nat, j < 4 → popc (t &&& (2 ^ (j + 1) - 1)) = popc (t &&& (2 ^ j - 1)) + if hasBit t j = true then 1 else 0 := by decide +kernel
theorem c_full : ∀ n : Nat, n < 5 → ∀ t : Nat, t < 16 → t < 2 ^ n → t &&& (2 ^ n - 1) = t ∧ (2 ^ n - 1) ^^^ (2 ^ n - 1) = 0 := by decide +kernel
theorem c_base : ∀ n : Nat, n < 5 → ∀ a : Nat, a < 16 → ∀ l : Nat, l < 16 → a < 2 ^ n → l < 2 ^ n → a &&& ((2 ^ n - 1) ^^^ l) = 0 → a &&& l = a := by decide +kernel
theorem c_grow : ∀ n : Nat, n < 5 → ∀ K : Nat, K < 16 → ∀ l : Nat, l < 16 → ∀ t : Nat, t < 16 → l < 2 ^ n → t &&& l = t → (K ||| ((2 ^ n - 1) ^^^ (l ^^^ t))) &&& ((K ||| t) ||| ((2 ^ n - 1) ^^^ l)) = K ||| ((2 ^ n - 1) ^^^ (l ^^^ t)) := by decide +kernel
theorem c_lt : ∀ n : Nat, n < 5 → ∀ a : Nat, a < 16 → ∀ b : Nat, b < 16 → a < 2 ^ n → b < 2 ^ n → a ^^^ b < 2 ^ n ∧ a ||| b < 2 ^ n ∧ a &&& b < 2 ^ n := by decide +kernel
theorem and_sub {a k k' : Nat} (h : k &&& k' = k) (h2 : a &&& k' = 0) : a &&& k = 0 := by
  rw [← h, Nat.and_comm k k', ← Nat.and_assoc, h2, Nat.zero_and]
theorem sm_mono {F : Nat → Bool} {m k k' x : Nat} (h : k &&& k' = k) (hs : smW F m k x = true) : smW F m k' x = true := smW_iff.2 fun y hy e => smW_iff.1 hs y hy (and_sub h e)
theorem grp_ge {F : Nat → Bool} {x left s : Nat} (h : left < 16) (h0 : s ≠ 0) (hs : s < 16) (hl : s &&& left = s) (hf : F (x ^^^ s) ≠ F x) : 1 + grp F x (left ^^^ s) ≤ grp F x left := by
  rw [grp_eq h]
  have : grC F (grp F x) x left s ≤ mxF (grC F (grp F x) x left) 16 := mx_ge hs
  rw [show grC F (grp F x) x left s = 1 + grp F x (left ^^^ s) from if_pos ⟨h0, hl, hf⟩] at this
  exact this
theorem grp_lub {F : Nat → Bool} {x left B : Nat} (h : left < 16) (hb : ∀ s, s ≠ 0 → s < 16 → s &&& left = s → F (x ^^^ s) ≠ F x → 1 + grp F x (left ^^^ s) ≤ B) : grp F x left ≤ B := by
  rw [grp_eq h]
  refine mx_le fun s hs => ?_
  unfold grC
  split
  · rename_i hc
    exact hb s hc.1 hs hc.2.1 hc.2.2
  · exact Nat.zero_le _
theorem grp_mono {F : Nat → Bool} {x : Nat} : ∀ g l l', l < g → l < 16 → l' < 16 → l &&& l' = l → grp F x l ≤ grp F x l'
  | 0, _, _, h, _, _, _ => absurd h (Nat.not_lt_zero _)
  | g + 1, l, l', h, h1, h2, h3 => grp_lub h1 fun s h0 hs hl hf => by
    obtain ⟨a, b⟩ := c_sub l h1 l' h2 s hs h3 hl
    obtain ⟨_, p1, _, _⟩ := sub_popc l h1 s hs h0 hl
    obtain ⟨_, p2, _, _⟩ := sub_popc l' h2 s hs h0 a
    have := grp_mono (F := F) (x := x) g (l ^^^ s) (l' ^^^ s) (by omega) (by omega) (by omega) b
    have := grp_ge (F := F) (x := x) h2 h0 hs a hf
    omega
/-- no more bits turn a word than groups do -/
theorem sn_grp {F : Nat → Bool} {x : Nat} : ∀ j, j ≤ 4 → snF F x j ≤ grp F x (2 ^ j - 1)
  | 0, _ => Nat.zero_le _
  | j + 1, h => by
    have ih := sn_grp (F := F) (x := x) j (by omega)
    obtain ⟨a, b, c, d, e, f, g⟩ := c_one j (by omega)
    unfold snF
    by_cases hf : F (x ^^^ 2 ^ j) = F x
    · rw [if_pos hf]
      have := grp_mono (F := F) (x := x) 16 _ _ f f e g
      omega
    · rw [if_neg hf]
      have := grp_ge (F := F) (x := x) e a b c hf
      rw [d] at this
      omega
/-- each group has a bit of what proves the word -/
theorem grp_cert {n : Nat} (h4 : n ≤ 4) {F : Nat → Bool} {x K : Nat} (hx : x < 2 ^ n) (hK : K < 2 ^ n) (hs : smW F (2 ^ n) K x = true) : ∀ g l, l < g → l < 2 ^ n → grp F x l ≤ popc (K &&& l)
  | 0, _, h, _ => absurd h (Nat.not_lt_zero _)
  | g + 1, l, h, hl => by
    have hp := (p16 h4).2
    refine grp_lub (by omega) fun s h0 hs16 hsl hf => ?_
    obtain ⟨_, p1, _, p3⟩ := sub_popc l (by omega) s hs16 h0 hsl
    have hxs := (c_lt n (by omega) x (by omega) s hs16 hx (by omega)).1
    have hne : s &&& K ≠ 0 := fun e => by
      have := smW_iff.1 hs (x ^^^ s) hxs (by rw [c_xx x (by omega) s hs16]; exact e)
      exact hf this
    have := c_hit K (by omega) l (by omega) s hs16 hsl hne
    have := grp_cert h4 hx hK hs g (l ^^^ s) (by omega) (by omega)
    omega
/-- what is asked on the way to a word proves it -/
theorem cert_path {n : Nat} (h4 : n ≤ 4) (F : Nat → Bool) {w : Nat} (hw : w < 2 ^ n) : ∀ g k y, k < 2 ^ n → y < 2 ^ n → 2 ^ n ≤ k + g → (y ^^^ w) &&& k = 0 → ∃ K, K < 2 ^ n ∧ smW F (2 ^ n) K w = true ∧ popc K ≤ popc k + (lst n F k y).1
  | 0, k, y, hk, hy, hg, e => absurd hg (by omega)
  | g + 1, k, y, hk, hy, hg, e => by
    have hp := (p16 h4).2
    cases hs : smW F (2 ^ n) k y with
    | true => exact ⟨k, hk, (sm_move hs hw e).2, by omega⟩
    | false =>
      obtain ⟨i, hi, hb, _, hd⟩ := lst_ok h4 F hk hy hs
      obtain ⟨a1, a2, a3⟩ := setB_gt n (by omega) k (by omega) i (by omega) hk hi hb
      obtain ⟨b1, b2⟩ := sets_lt n (by omega) y (by omega) i (by omega) hy hi
      cases hbw : hasBit w i with
      | true =>
        obtain ⟨K, c1, c2, c3⟩ := cert_path h4 F hw g (setB k i) (setB y i) a2 b1 (by omega) (st_yes y (by omega) w (by omega) k (by omega) i (by omega) e hbw)
        exact ⟨K, c1, c2, by omega⟩
      | false =>
        obtain ⟨K, c1, c2, c3⟩ := cert_path h4 F hw g (setB k i) (clrB y i) a2 b2 (by omega) (st_no y (by omega) w (by omega) k (by omega) i (by omega) e hbw)
        exact ⟨K, c1, c2, by omega⟩
theorem fd_min {n : Nat} {c : Nat → Nat} {k q : Nat} (hq : hasBit k q = false) : ∀ i, q < i → (fdL n c k i).1 ≤ c q := fun i hi => by
  rcases fd_ok n c k i with ⟨_, b, d⟩ | ⟨j, _, _, _, e, f⟩
  · have := d q hi hq; omega
  · rw [e]; exact f q hi hq
theorem lst_step {n : Nat} (h4 : n ≤ 4) (F : Nat → Bool) {k y i : Nat} (hk : k < 2 ^ n) (hy : y < 2 ^ n) (hi : i < n) (hb : hasBit k i = false) : (lst n F k y).1 ≤ 1 + max (lst n F (setB k i) (clrB y i)).1 (lst n F (setB k i) (setB y i)).1 := by
  have hp := (p16 h4).2
  cases hs : smW F (2 ^ n) k y with
  | true => rw [lst_same hs]; exact Nat.zero_le _
  | false =>
    obtain ⟨a1, a2, a3⟩ := setB_gt n (by omega) k (by omega) i (by omega) hk hi hb
    obtain ⟨b1, b2⟩ := sets_lt n (by omega) y (by omega) i (by omega) hy hi
    have := fd_min (n := n) (c := fun i => 1 + max (lsF n F 15 (setB k i) (clrB y i)).1 (lsF n F 15 (setB k i) (setB y i)).1) hb n hi
    rw [show lst n F k y = lsF n F (15 + 1) k y from rfl, lsF, if_neg (by rw [hs]; decide)]
    rw [← lst_of h4 F (g := 15) a2 b2 (by omega), ← lst_of h4 F (g := 15) a2 b1 (by omega)]
    exact this
/-- ask for all of U first -/
theorem lst_all {n : Nat} (h4 : n ≤ 4) (F : Nat → Bool) {B : Nat} : ∀ g U k y, U < g → U < 2 ^ n → k < 2 ^ n → y < 2 ^ n → U &&& k = 0 → (∀ y', y' < 2 ^ n → (y ^^^ y') &&& k = 0 → (lst n F (k ||| U) y').1 ≤ B) → (lst n F k y).1 ≤ popc U + B
  | 0, _, _, _, h, _, _, _, _, _ => absurd h (Nat.not_lt_zero _)
  | g + 1, U, k, y, h, hU, hk, hy, hd, hB => by
    have hp := (p16 h4).2
    by_cases h0 : U = 0
    · subst h0
      have := hB y hy (by rw [Nat.xor_self, Nat.zero_and])
      rw [(c_or k (by omega) 0 (by omega)).2.2.2] at this
      omega
    · obtain ⟨i, hb, hi⟩ : ∃ i, hasBit U i = true ∧ i < n := by
        rcases c_pick n (by omega) U (by omega) hU h0 with e | e | e | e
        · exact ⟨0, e⟩
        · exact ⟨1, e⟩
        · exact ⟨2, e⟩
        · exact ⟨3, e⟩
      obtain ⟨u1, u2, u3, u4, u5⟩ := c_U k (by omega) U (by omega) i (by omega) hd hb
      obtain ⟨a1, a2, a3⟩ := setB_gt n (by omega) k (by omega) i (by omega) hk hi u1
      obtain ⟨b1, b2⟩ := sets_lt n (by omega) y (by omega) i (by omega) hy hi
      obtain ⟨g1, g2, g3⟩ := c_ag y (by omega) k (by omega) i (by omega) u1
      have s1 := lst_step h4 F hk hy hi u1
      have s2 := lst_all h4 F (B := B) g (U ^^^ 2 ^ i) (setB k i) (clrB y i) (by omega) (by omega) a2 b2 u4 fun y' hy' e => by
        rw [u2]; exact hB y' hy' (xor_and0 g1 (and_sub g3 e))
      have s3 := lst_all h4 F (B := B) g (U ^^^ 2 ^ i) (setB k i) (setB y i) (by omega) (by omega) a2 b1 u4 fun y' hy' e => by
        rw [u2]; exact hB y' hy' (xor_and0 g2 (and_sub g3 e))
      omega
/-- what is left to prove of the words of a part -/
def Prv (n : Nat) (F : Nat → Bool) (k y a b : Nat) : Prop := ∀ z, z < 2 ^ n → (y ^^^ z) &&& k = 0 → ∃ K, K < 2 ^ n ∧ smW F (2 ^ n) K z = true ∧ (F z = false → popc (rmB K k) ≤ a) ∧ (F z = true → popc (rmB K k) ≤ b)
theorem lst_mul {n : Nat} (h4 : n ≤ 4) (F : Nat → Bool) {b : Nat} : ∀ a k y, k < 2 ^ n → y < 2 ^ n → Prv n F k y a b → (lst n F k y).1 ≤ a * b := fun a => by
  have hp := (p16 h4).2
  induction a with
  | zero =>
    intro k y hk hy hP
    cases hs : smW F (2 ^ n) k y with
    | true => rw [lst_same hs]; exact Nat.zero_le _
    | false =>
      exfalso
      have : ∃ z, z < 2 ^ n ∧ (y ^^^ z) &&& k = 0 ∧ F z = false := by
        by_cases hy0 : F y = false
        · exact ⟨y, hy, by rw [Nat.xor_self, Nat.zero_and], hy0⟩
        · refine Classical.byContradiction fun hn => ?_
          have : smW F (2 ^ n) k y = true := smW_iff.2 fun z hz e => by
            cases hz0 : F z with
            | false => exact absurd ⟨z, hz, e, hz0⟩ hn
            | true => cases hq : F y with
              | true => rfl
              | false => exact absurd hq hy0
          rw [hs] at this; cases this
      obtain ⟨z, hz, e, hf⟩ := this
      obtain ⟨K, k1, k2, k3, _⟩ := hP z hz e
      have hsub := (c_rm K (by omega) k (by omega)).2.1 (by have := k3 hf; omega)
      have := (sm_move (sm_mono hsub k2) hy (by rw [Nat.xor_comm]; exact e)).2
      rw [hs] at this; cases this
  | succ a ih =>
    intro k y hk hy hP
    cases hs : smW F (2 ^ n) k y with
    | true => rw [lst_same hs]; exact Nat.zero_le _
    | false =>
      have : ∃ z, z < 2 ^ n ∧ (y ^^^ z) &&& k = 0 ∧ F z = true := by
        by_cases hy0 : F y = true
        · exact ⟨y, hy, by rw [Nat.xor_self, Nat.zero_and], hy0⟩
        · refine Classical.byContradiction fun hn => ?_
          have : smW F (2 ^ n) k y = true := smW_iff.2 fun z hz e => by
            cases hz0 : F z with
            | true => exact absurd ⟨z, hz, e, hz0⟩ hn
            | false => cases hq : F y with
              | false => rfl
              | true => exact absurd hq hy0
          rw [hs] at this; cases this
      obtain ⟨z1, hz1, e1, hf1⟩ := this
      obtain ⟨K, k1, k2, _, k3⟩ := hP z1 hz1 e1
      obtain ⟨r1, _, _, r4⟩ := c_rm K (by omega) k (by omega)
      have hUn : rmB K k < 2 ^ n := (c_lt n (by omega) K (by omega) (K &&& k) (by have := (c_lt n (by omega) K (by omega) k (by omega) k1 hk).2.2; omega) k1 ((c_lt n (by omega) K (by omega) k (by omega) k1 hk).2.2)).1
      have hkU := (c_lt n (by omega) k (by omega) (rmB K k) (by omega) hk hUn).2.1
      have := lst_all h4 F (B := a * b) 16 (rmB K k) k y (by omega) hUn hk hy r1 fun y' hy' e' => by
        refine ih (k ||| rmB K k) y' hkU hy' fun z hz e => ?_
        have hkk := (c_or k (by omega) (rmB K k) (by omega)).1
        have ez : (y ^^^ z) &&& k = 0 := xor_and0 e' (and_sub hkk e)
        obtain ⟨Z, q1, q2, q3, q4⟩ := hP z hz ez
        obtain ⟨t1, t2⟩ := c_rmU Z (by omega) k (by omega) (rmB K k) (by omega)
        refine ⟨Z, q1, q2, fun hf => ?_, fun hf => Nat.le_trans t1 (q4 hf)⟩
        by_cases hc : Z &&& rmB K k = 0
        · exfalso
          have ea : (z ^^^ z1) &&& k = 0 := xor_and0 (by rw [Nat.xor_comm]; exact ez) e1
          have hzz := (c_lt n (by omega) z (by omega) z1 (by omega) hz hz1).1
          obtain ⟨v1, v2⟩ := c_vA z (by omega) z1 (by omega) K (by omega)
          have hv := (c_lt n (by omega) z (by omega) ((z ^^^ z1) &&& K) (by have := (c_lt n (by omega) (z ^^^ z1) (by omega) K (by omega) hzz k1).2.2; omega) hz ((c_lt n (by omega) (z ^^^ z1) (by omega) K (by omega) hzz k1).2.2)).1
          have f1 := smW_iff.1 k2 _ hv v1
          have f2 := smW_iff.1 q2 _ hv (by rw [v2]; exact c_vC (z ^^^ z1) (by omega) K (by omega) k (by omega) Z (by omega) ea hc)
          rw [f1, hf1, hf] at f2
          cases f2
        · have := t2 hc r1
          have := q3 hf
          omega
      have h5 := k3 hf1
      rw [Nat.succ_mul]
      omega
/-- a group that no part of turns the word -/
theorem min_block {F : Nat → Bool} {x l : Nat} (hl : l < 16) : ∀ g s, s < g → s ≠ 0 → s < 16 → s &&& l = s → F (x ^^^ s) ≠ F x → ∃ t, t ≠ 0 ∧ t < 16 ∧ t &&& l = t ∧ F (x ^^^ t) ≠ F x ∧ ∀ i, i < 4 → hasBit t i = true → F (x ^^^ (t ^^^ 2 ^ i)) = F x
  | 0, _, h, _, _, _, _ => absurd h (Nat.not_lt_zero _)
  | g + 1, s, h, h0, hs, hsl, hf => by
    by_cases hall : ∀ i, i < 4 → hasBit s i = true → F (x ^^^ (s ^^^ 2 ^ i)) = F x
    · exact ⟨s, h0, hs, hsl, hf, hall⟩
    · obtain ⟨i, hi⟩ := Classical.not_forall.1 hall
      obtain ⟨hi4, hi2⟩ := Classical.not_imp.1 hi
      obtain ⟨hb, hne⟩ := Classical.not_imp.1 hi2
      obtain ⟨a, b⟩ := c_min s hs l hl i hi4 hb hsl
      exact min_block hl g (s ^^^ 2 ^ i) (by omega) (fun e => by rw [e, Nat.xor_zero] at hne; exact hne rfl) (by omega) b hne
theorem sn_cnt {F : Nat → Bool} {v t : Nat} (ht : t < 16) (h : ∀ i, i < 4 → hasBit t i = true → F (v ^^^ 2 ^ i) ≠ F v) : ∀ j, j ≤ 4 → popc (t &&& (2 ^ j - 1)) ≤ snF F v j
  | 0, _ => by rw [show t &&& (2 ^ 0 - 1) = 0 from Nat.and_zero _]; exact Nat.le_refl _
  | j + 1, hj => by
    have ih := sn_cnt ht h j (by omega)
    rw [c_cnt t ht j (by omega)]
    unfold snF
    cases hb : hasBit t j with
    | true => rw [if_pos rfl, if_neg (h j (by omega) hb)]; omega
    | false => rw [if_neg (by decide)]; omega
/-- words are proved by groups of few bits -/
theorem cert_blocks {n : Nat} (h4 : n ≤ 4) {F : Nat → Bool} {x S : Nat} (hx : x < 2 ^ n) (hS : ∀ v, v < 2 ^ n → snF F v n ≤ S) : ∀ g l, l < g → l < 2 ^ n → ∃ K, K < 2 ^ n ∧ smW F (2 ^ n) (K ||| ((2 ^ n - 1) ^^^ l)) x = true ∧ popc K ≤ S * grp F x l
  | 0, _, h, _ => absurd h (Nat.not_lt_zero _)
  | g + 1, l, h, hl => by
    have hp := p16 h4
    by_cases hex : ∃ s, s ≠ 0 ∧ s < 16 ∧ s &&& l = s ∧ F (x ^^^ s) ≠ F x
    · obtain ⟨s, s0, s1, s2, s3⟩ := hex
      obtain ⟨t, t0, t1, t2, t3, t4⟩ := min_block (F := F) (x := x) (l := l) (by omega) 16 s (by omega) s0 s1 s2 s3
      obtain ⟨_, p1, _, p3⟩ := sub_popc l (by omega) t t1 t0 t2
      have hxt := (c_lt n (by omega) x (by omega) t t1 hx (by omega)).1
      have hcnt := sn_cnt (F := F) (v := x ^^^ t) t1 (fun i hi hb => by rw [Nat.xor_assoc, t4 i hi hb]; exact Ne.symm t3) n h4
      rw [(c_full n (by omega) t t1 (by omega)).1] at hcnt
      have hS' := hS _ hxt
      obtain ⟨K, k1, k2, k3⟩ := cert_blocks h4 hx hS g (l ^^^ t) (by omega) (by omega)
      have hge := grp_ge (F := F) (x := x) (left := l) (by omega) t0 t1 t2 t3
      refine ⟨K ||| t, (c_lt n (by omega) K (by omega) t t1 k1 (by omega)).2.1, sm_mono (c_grow n (by omega) K (by omega) l (by omega) t t1 hl t2) k2, ?_⟩
      have hor := (c_or K (by omega) t t1).2.2.1
      have hmul : S * (1 + grp F x (l ^^^ t)) ≤ S * grp F x l := Nat.mul_le_mul_left _ hge
      rw [Nat.mul_add, Nat.mul_one] at hmul
      omega
    · refine ⟨0, by omega, smW_iff.2 fun y hy e => ?_, Nat.zero_le _⟩
      rw [Nat.zero_or] at e
      have hxy := (c_lt n (by omega) x (by omega) y (by omega) hx hy).1
      have hsl := c_base n (by omega) (x ^^^ y) (by omega) l (by omega) hxy hl e
      refine Classical.byContradiction fun hn => hex ⟨x ^^^ y, fun h0 => ?_, by omega, hsl, by rw [c_xx x (by omega) y (by omega)]; exact hn⟩
      have := c_xx x (by omega) y (by omega)
      rw [h0, Nat.xor_zero] at this
      rw [this] at hn
      exact hn rfl
end Go.Proofs.Ythaabgknolahaaa
