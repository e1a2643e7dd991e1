/- Plain numbers: a false sum is believed with few dice. No condition. -/
import Derived.Test.YthcednankgaogaaProofCheck
namespace Go.Proofs.Ythcednankgaogaa
open ProofM
set_option linter.unusedVariables false
def cnT (p : Nat → Bool) : Nat → Nat
  | 0 => 0
  | k + 1 => cnT p k + (p k).toNat
theorem cnT_le (p : Nat → Bool) (k : Nat) : cnT p k ≤ k := by
  induction k with
  | zero => exact Nat.le_refl _
  | succ k ih => simp only [cnT]; have := Bool.toNat_le (p k); omega
theorem cnT_congr {p q : Nat → Bool} {k : Nat} (h : ∀ z, z < k → p z = q z) : cnT p k = cnT q k := by
  induction k with
  | zero => rfl
  | succ k ih => simp only [cnT]; rw [ih fun z hz => h z (by omega), h k (by omega)]
theorem cnT_none {p : Nat → Bool} {k : Nat} (h : ∀ z, z < k → p z = false) : cnT p k = 0 := by
  induction k with
  | zero => rfl
  | succ k ih => simp only [cnT]; rw [ih fun z hz => h z (by omega), h k (by omega)]; rfl
/-- the first die apart from the others -/
theorem cnT_seven (p : Nat → Bool) (M : Nat) : cnT p (7 * M) = cnT (fun k => p (7 * k)) M + cnT (fun k => p (7 * k + 1)) M + cnT (fun k => p (7 * k + 2)) M + cnT (fun k => p (7 * k + 3)) M + cnT (fun k => p (7 * k + 4)) M + cnT (fun k => p (7 * k + 5)) M + cnT (fun k => p (7 * k + 6)) M := by
  induction M with
  | zero => rfl
  | succ M ih =>
    rw [show 7 * (M + 1) = 7 * M + 1 + 1 + 1 + 1 + 1 + 1 + 1 by omega]
    simp only [cnT]
    rw [ih]; omega
set_option synthInstance.maxSize 10000 in
set_option synthInstance.maxHeartbeats 0 in
/-- two lines that say another sum meet at most once -/
theorem meet_once : ∀ a, a < 7 → ∀ b, b < 7 → ∀ x, x < 7 → ∀ y, y < 7 → x ≠ y → (a * (8 - x) + b * x) % 7 = 0 → (a * (8 - y) + b * y) % 7 = 0 → (a + b) % 7 = 0 := by decide +kernel
theorem line_diff (p q r s : Int) (x : Nat) (hx : x < 7) (h : LN p q x = LN r s x) : (((p - r) % 7).toNat * (8 - x) + ((q - s) % 7).toNat * x) % 7 = 0 := by
  unfold LN at h
  have h1 := mod_mul (p - r) (8 - x)
  have h2 := mod_mul (q - s) x
  have ha : 0 ≤ (p - r) % 7 := Int.emod_nonneg _ (by decide)
  have hb : 0 ≤ (q - s) % 7 := Int.emod_nonneg _ (by decide)
  obtain ⟨a, ea⟩ := Int.eq_ofNat_of_zero_le ha
  obtain ⟨b, eb⟩ := Int.eq_ofNat_of_zero_le hb
  rw [ea] at h1
  rw [eb] at h2
  rw [ea, eb, Int.toNat_natCast, Int.toNat_natCast]
  rw [Int.sub_mul] at h1 h2
  have e1 : ((a * (8 - x) : Nat) : Int) = (a : Int) * (8 - x) := by rw [Int.natCast_mul]; congr 1; omega
  have e2 : ((b * x : Nat) : Int) = (b : Int) * x := by rw [Int.natCast_mul]
  rw [← e1] at h1
  rw [← e2] at h2
  generalize p * (8 - (x : Int)) = P at h h1
  generalize r * (8 - (x : Int)) = R at h h1
  generalize q * (x : Int) = Q at h h2
  generalize s * (x : Int) = S at h h2
  generalize a * (8 - x) = U at h1 ⊢
  generalize b * x = V at h2 ⊢
  omega
theorem lines_once {p q r s : Int} {x y : Nat} (hx : x < 7) (hy : y < 7) (hne : x ≠ y) (h1 : LN p q x = LN r s x) (h2 : LN p q y = LN r s y) : (p + q) % 7 = (r + s) % 7 := by
  have g1 := line_diff p q r s x hx h1
  have g2 := line_diff p q r s y hy h2
  have := meet_once ((p - r) % 7).toNat (by omega) ((q - s) % 7).toNat (by omega) x hx y hy hne g1 g2
  omega
/-- dice: those ahead are given, the others are the digits of k -/
def glue (t : Nat → Int) (j k : Nat) : Nat → Int := fun r => if r < j then t r else ((k / 7 ^ (r - j) % 7 : Nat) : Int)
def setI (t : Nat → Int) (j : Nat) (x : Int) : Nat → Int := fun r => if r = j then x else t r
theorem glue_step (t : Nat → Int) (j k x : Nat) (hx : x < 7) : ∀ r, glue t j (7 * k + x) r = glue (setI t j x) (j + 1) k r := fun r => by
  unfold glue setI
  by_cases h : r < j
  · rw [if_pos h, if_pos (by omega), if_neg (by omega)]
  · rw [if_neg h]
    by_cases e : r = j
    · subst e
      rw [if_pos (by omega), if_pos rfl, Nat.sub_self, Nat.pow_zero, Nat.div_one]
      congr 1; omega
    · rw [if_neg (by omega), show r - j = (r - (j + 1)) + 1 by omega, Nat.pow_succ, Nat.mul_comm (7 ^ _) 7, ← Nat.div_div_eq_div_mul]
      congr 2; congr 1; omega
theorem tot_dep {P t u : Nat → Int} {T : Int} {n : Nat} (h : ∀ r, r < n → t r = u r) : ∀ j, j ≤ n → tot P t T j = tot P u T j := by
  intro j hj
  cases j with
  | zero => rfl
  | succ j => show LN _ _ (t j) = LN _ _ (u j); rw [h j (by omega)]
theorem chkB_dep {f P t u : Nat → Int} {T : Int} {n : Nat} (h : ∀ r, r < n → t r = u r) : chkB f t n P T = chkB f u n P T := by
  have hF := FD_congr (f := f) n h 0
  have h1 : (okL P t T n ∧ tot P t T n = FD f t n 0) ↔ (okL P u T n ∧ tot P u T n = FD f u n 0) := by
    rw [hF, tot_dep h n (Nat.le_refl _)]
    have : okL P t T n ↔ okL P u T n := ⟨fun hh j hj => by rw [← tot_dep h j (by omega)]; exact hh j hj, fun hh j hj => by rw [tot_dep h j (by omega)]; exact hh j hj⟩
    rw [this]
  unfold chkB; rw [decide_eq_decide]; exact h1
theorem TT_dep {f t u : Nat → Int} {n j : Nat} (h : ∀ r, r < j → t r = u r) : TT f t n j = TT f u n j := by
  unfold TT
  rw [SMp_congr fun i _ => FD_congr (f := f) j h i]
theorem six_le (r : Nat) : 6 ^ r ≤ 7 ^ r ∧ 1 ≤ 6 ^ r := ⟨Nat.pow_le_pow_left (by omega) r, Nat.pow_pos (by omega)⟩
/-- a wrong sum at step j is believed with few of the dice that are left -/
theorem few {f P : Nat → Int} {T : Int} {n : Nat} (hf : ∀ i, i < 2 ^ n → 0 ≤ f i ∧ f i ≤ 6) : ∀ r j (t : Nat → Int), j + r = n → tot P t T j ≠ TT f t n j → cnT (fun k => chkB f (glue t j k) n P T) (7 ^ r) ≤ 7 ^ r - 6 ^ r := by
  intro r
  induction r with
  | zero =>
    intro j t hj hne
    obtain rfl : j = n := by omega
    have hb : 0 ≤ FD f t j 0 ∧ FD f t j 0 ≤ 6 := FD_bd hf j 0 (by omega)
    rw [cnT_none fun k _ => by
      rw [chkB_dep (t := glue t j k) (u := t) fun r hr => if_pos hr]
      exact chkB_no fun hh => hne (by rw [TT_last hb]; exact hh.2)]
    exact Nat.zero_le _
  | succ r ih =>
    intro j t hj hne
    have hjn : j < n := by omega
    by_cases hok : (P (2 * j) + P (2 * j + 1)) % 7 = tot P t T j
    · have hq := TT_pair (f := f) (t := t) hjn
      obtain ⟨q0, hq0⟩ : ∃ q, q = SYp (FD f t j) 0 (2 ^ (n - j)) := ⟨_, rfl⟩
      obtain ⟨q1, hq1⟩ : ∃ q, q = SYp (FD f t j) 1 (2 ^ (n - j)) := ⟨_, rfl⟩
      have hdiff : (P (2 * j) + P (2 * j + 1)) % 7 ≠ (q0 + q1) % 7 := by rw [hok, hq0, hq1, hq]; exact hne
      have part : ∀ x, x < 7 → cnT (fun k => chkB f (glue t j (7 * k + x)) n P T) (7 ^ r) ≤ 7 ^ r - 6 ^ r + (if LN (P (2 * j)) (P (2 * j + 1)) x = LN q0 q1 x then 6 ^ r else 0) := fun x hx => by
        rw [cnT_congr (q := fun k => chkB f (glue (setI t j x) (j + 1) k) n P T) fun k _ => chkB_dep fun r _ => glue_step t j k x hx r]
        by_cases e : LN (P (2 * j)) (P (2 * j + 1)) x = LN q0 q1 x
        · rw [if_pos e]
          have := cnT_le (fun k => chkB f (glue (setI t j x) (j + 1) k) n P T) (7 ^ r)
          have := six_le r
          omega
        · rw [if_neg e, Nat.add_zero]
          refine ih (j + 1) (setI t j x) (by omega) ?_
          have hs : ∀ r, r < j → setI t j x r = t r := fun r hr => if_neg (by omega)
          have h1 : TT f (setI t j x) n (j + 1) = LN q0 q1 x := by
            rw [← TT_next hjn, hq0, hq1]
            have hF : FD f (setI t j x) j = FD f t j := funext fun i => FD_congr j hs i
            have hx2 : setI t j x j = x := if_pos rfl
            rw [hF, hx2]
          have h2 : tot P (setI t j x) T (j + 1) = LN (P (2 * j)) (P (2 * j + 1)) x := by
            show LN _ _ (setI t j x j) = _
            have hx2 : setI t j x j = x := if_pos rfl
            rw [hx2]
          rw [h1, h2]; exact e
      have once : ∀ x y, x < 7 → y < 7 → x ≠ y → LN (P (2 * j)) (P (2 * j + 1)) (x : Nat) = LN q0 q1 x → ¬ LN (P (2 * j)) (P (2 * j + 1)) (y : Nat) = LN q0 q1 y := fun x y hx hy hne h1 h2 => hdiff (lines_once hx hy hne h1 h2)
      have hsum : ∀ (g : Nat → Nat) (B S : Nat), (∀ x, x < 7 → g x ≤ B + (if LN (P (2 * j)) (P (2 * j + 1)) (x : Nat) = LN q0 q1 x then S else 0)) → g 0 + g 1 + g 2 + g 3 + g 4 + g 5 + g 6 ≤ 7 * B + S := fun g B S hg => by
        have g0 := hg 0 (by omega)
        have g1 := hg 1 (by omega)
        have g2 := hg 2 (by omega)
        have g3 := hg 3 (by omega)
        have g4 := hg 4 (by omega)
        have g5 := hg 5 (by omega)
        have g6 := hg 6 (by omega)
        by_cases hex : ∃ x, x < 7 ∧ LN (P (2 * j)) (P (2 * j + 1)) (x : Nat) = LN q0 q1 x
        · obtain ⟨x, hx, hxe⟩ := hex
          have no : ∀ y, y < 7 → y ≠ x → (if LN (P (2 * j)) (P (2 * j + 1)) (y : Nat) = LN q0 q1 y then S else 0) = 0 := fun y hy hne => if_neg (once x y hx hy (fun e => hne e.symm) hxe)
          have hx7 : x = 0 ∨ x = 1 ∨ x = 2 ∨ x = 3 ∨ x = 4 ∨ x = 5 ∨ x = 6 := by omega
          rcases hx7 with rfl | rfl | rfl | rfl | rfl | rfl | rfl
          · rw [if_pos hxe] at g0; rw [no 1 (by omega) (by omega)] at g1; rw [no 2 (by omega) (by omega)] at g2; rw [no 3 (by omega) (by omega)] at g3; rw [no 4 (by omega) (by omega)] at g4; rw [no 5 (by omega) (by omega)] at g5; rw [no 6 (by omega) (by omega)] at g6; omega
          · rw [if_pos hxe] at g1; rw [no 0 (by omega) (by omega)] at g0; rw [no 2 (by omega) (by omega)] at g2; rw [no 3 (by omega) (by omega)] at g3; rw [no 4 (by omega) (by omega)] at g4; rw [no 5 (by omega) (by omega)] at g5; rw [no 6 (by omega) (by omega)] at g6; omega
          · rw [if_pos hxe] at g2; rw [no 0 (by omega) (by omega)] at g0; rw [no 1 (by omega) (by omega)] at g1; rw [no 3 (by omega) (by omega)] at g3; rw [no 4 (by omega) (by omega)] at g4; rw [no 5 (by omega) (by omega)] at g5; rw [no 6 (by omega) (by omega)] at g6; omega
          · rw [if_pos hxe] at g3; rw [no 0 (by omega) (by omega)] at g0; rw [no 1 (by omega) (by omega)] at g1; rw [no 2 (by omega) (by omega)] at g2; rw [no 4 (by omega) (by omega)] at g4; rw [no 5 (by omega) (by omega)] at g5; rw [no 6 (by omega) (by omega)] at g6; omega
          · rw [if_pos hxe] at g4; rw [no 0 (by omega) (by omega)] at g0; rw [no 1 (by omega) (by omega)] at g1; rw [no 2 (by omega) (by omega)] at g2; rw [no 3 (by omega) (by omega)] at g3; rw [no 5 (by omega) (by omega)] at g5; rw [no 6 (by omega) (by omega)] at g6; omega
          · rw [if_pos hxe] at g5; rw [no 0 (by omega) (by omega)] at g0; rw [no 1 (by omega) (by omega)] at g1; rw [no 2 (by omega) (by omega)] at g2; rw [no 3 (by omega) (by omega)] at g3; rw [no 4 (by omega) (by omega)] at g4; rw [no 6 (by omega) (by omega)] at g6; omega
          · rw [if_pos hxe] at g6; rw [no 0 (by omega) (by omega)] at g0; rw [no 1 (by omega) (by omega)] at g1; rw [no 2 (by omega) (by omega)] at g2; rw [no 3 (by omega) (by omega)] at g3; rw [no 4 (by omega) (by omega)] at g4; rw [no 5 (by omega) (by omega)] at g5; omega
        · have no : ∀ y, y < 7 → (if LN (P (2 * j)) (P (2 * j + 1)) (y : Nat) = LN q0 q1 y then S else 0) = 0 := fun y hy => if_neg fun e => hex ⟨y, hy, e⟩
          rw [no 0 (by omega)] at g0
          rw [no 1 (by omega)] at g1
          rw [no 2 (by omega)] at g2
          rw [no 3 (by omega)] at g3
          rw [no 4 (by omega)] at g4
          rw [no 5 (by omega)] at g5
          rw [no 6 (by omega)] at g6
          omega
      have hs := hsum (fun x => cnT (fun k => chkB f (glue t j (7 * k + x)) n P T) (7 ^ r)) _ _ part
      rw [show 7 ^ (r + 1) = 7 * 7 ^ r by rw [Nat.pow_succ, Nat.mul_comm], show 6 ^ (r + 1) = 6 * 6 ^ r by rw [Nat.pow_succ, Nat.mul_comm], cnT_seven]
      have := six_le r
      refine Nat.le_trans hs ?_
      omega
    · rw [cnT_none fun k _ => chkB_no fun hh => hok (by
        have := hh.1 j hjn
        rw [tot_dep (t := glue t j k) (u := t) (n := j) (fun r hr => if_pos hr) j (Nat.le_refl _)] at this
        exact this)]
      exact Nat.zero_le _
/-- the dice that are number k -/
def digs (k : Nat) : Nat → Int := fun r => ((k / 7 ^ r % 7 : Nat) : Int)
/-- LUND, FORTNOW, KARLOFF, NISAN; SCHWARTZ; ZIPPEL -/
theorem few_all {f P : Nat → Int} {T : Int} {n : Nat} (hf : ∀ i, i < 2 ^ n → 0 ≤ f i ∧ f i ≤ 6) (hT : T ≠ SMp f (2 ^ n) % 7) : cnT (fun k => chkB f (digs k) n P T) (7 ^ n) ≤ 7 ^ n - 6 ^ n := by
  have h := few (P := P) (T := T) hf n 0 (fun _ => 0) (by omega) (by
    show T ≠ SMp (FD f (fun _ => 0) 0) (2 ^ (n - 0)) % 7
    rw [Nat.sub_zero]; exact hT)
  exact h
end Go.Proofs.Ythcednankgaogaa
