/- Plain numbers: the words ahead of a word, counted by their last two cells. No condition. -/
namespace Go.Proofs.Ytnagdnbdpknniaa.CellM
def hit (r : Int) (b : Bool) (s : Nat) : Prop := (r / 2 ^ s) % 2 = if b then 1 else 0
instance (r : Int) (b : Bool) (s : Nat) : Decidable (hit r b s) := by unfold hit; infer_instance
theorem hit_ft (r : Int) (s : Nat) : (hit r false s ∧ ¬ hit r true s) ∨ (¬ hit r false s ∧ hit r true s) := by
  unfold hit
  have := Int.emod_two_eq (r / 2 ^ s)
  simp only [Bool.false_eq_true, if_false, if_true]
  omega
/-- what is there of cell j behind s of the eight steps -/
def N (r : Int) (b : Bool) (M : Nat → Int) (s j : Nat) : Int :=
  (if j < s ∧ hit r b j then M (j / 2) else 0) + (if j + 4 < s ∧ hit r b (j + 4) then M ((j + 4) / 2) else 0)
theorem N_zero (r : Int) (b : Bool) (M : Nat → Int) (j : Nat) : N r b M 0 j = 0 := by simp [N]
theorem N_miss {r : Int} {b : Bool} (M : Nat → Int) {s : Nat} (h : ¬ hit r b s) (j : Nat) : N r b M (s + 1) j = N r b M s j := by
  unfold N
  by_cases e : j = s
  · subst e
    rw [if_neg (fun hh => h hh.2), if_neg (fun hh => by omega), if_neg (fun hh => by omega), if_neg (fun hh => by omega)]
  · by_cases e' : j + 4 = s
    · subst e'
      rw [if_neg (c := j + 4 < j + 4 + 1 ∧ _) (fun hh => h hh.2), if_neg (c := j + 4 < j + 4 ∧ _) (fun hh => by omega)]
      by_cases hj : hit r b j
      · rw [if_pos ⟨by omega, hj⟩, if_pos ⟨by omega, hj⟩]
      · rw [if_neg (fun hh => hj hh.2), if_neg (fun hh => hj hh.2)]
    · have h1 : j < s + 1 ↔ j < s := by omega
      have h2 : j + 4 < s + 1 ↔ j + 4 < s := by omega
      simp only [h1, h2]
theorem N_hit {r : Int} {b : Bool} (M : Nat → Int) {s : Nat} (hs : s < 8) (h : hit r b s) (j : Nat) (hj : j < 4) : N r b M (s + 1) j = if j = s % 4 then N r b M s j + M (s / 2) else N r b M s j := by
  unfold N
  by_cases e : j = s
  · subst e
    rw [if_pos (c := j = j % 4) (by omega), if_pos ⟨by omega, h⟩, if_neg (c := j < j ∧ _) (fun hh => by omega), if_neg (c := j + 4 < j + 1 ∧ _) (fun hh => by omega), if_neg (c := j + 4 < j ∧ _) (fun hh => by omega)]
    omega
  · by_cases e' : j + 4 = s
    · subst e'
      rw [if_pos (c := j = (j + 4) % 4) (by omega), if_pos (c := j + 4 < j + 4 + 1 ∧ _) ⟨by omega, h⟩, if_neg (c := j + 4 < j + 4 ∧ _) (fun hh => by omega)]
      by_cases hj : hit r b j
      · rw [if_pos ⟨by omega, hj⟩, if_pos ⟨by omega, hj⟩]; omega
      · rw [if_neg (fun hh => hj hh.2), if_neg (fun hh => hj hh.2)]; omega
    · have h1 : j < s + 1 ↔ j < s := by omega
      have h2 : j + 4 < s + 1 ↔ j + 4 < s := by omega
      have h3 : ¬ j = s % 4 := by omega
      simp only [h1, h2, h3, if_false]
theorem N_bd {r : Int} {b : Bool} {M : Nat → Int} {B : Int} (hM : ∀ j, j < 4 → 0 ≤ M j ∧ M j ≤ B) (s j : Nat) (hj : j < 4) : 0 ≤ N r b M s j ∧ N r b M s j ≤ 2 * B := by
  have h1 := hM (j / 2) (by omega)
  have h2 := hM ((j + 4) / 2) (by omega)
  unfold N
  split <;> split <;> omega
/-- the counts behind k cells of the word f -/
def C (r : Int) (f : Nat → Bool) : Nat → Nat → Int
  | 0 => fun _ => 1
  | k + 1 => N r (f k) (C r f k) 8
theorem C_bd (r : Int) (f : Nat → Bool) (k j : Nat) (hj : j < 4) : 0 ≤ C r f k j ∧ C r f k j ≤ 2 ^ k := by
  induction k generalizing j with
  | zero => simp [C]
  | succ k ih =>
    have := N_bd (r := r) (b := f k) (B := 2 ^ k) ih 8 j hj
    have e : (2 : Int) ^ (k + 1) = 2 * 2 ^ k := by rw [Int.pow_succ, Int.mul_comm]
    rw [e]; exact this
theorem C_le (r : Int) (f : Nat → Bool) {k : Nat} (hk : k ≤ 12) (j : Nat) (hj : j < 4) : 0 ≤ C r f k j ∧ C r f k j ≤ 4096 := by
  have h := C_bd r f k j hj
  have : (2 : Int) ^ k ≤ 2 ^ 12 := by
    have := Nat.pow_le_pow_right (show 0 < 2 by omega) hk
    exact_mod_cast this
  have e : (2 : Int) ^ 12 = 4096 := by decide
  omega
theorem C_congr (r : Int) {f g : Nat → Bool} (k : Nat) (h : ∀ i, i < k → f i = g i) : C r f k = C r g k := by
  induction k with
  | zero => rfl
  | succ k ih => show N r (f k) (C r f k) 8 = N r (g k) (C r g k) 8; rw [h k (by omega), ih fun i hi => h i (by omega)]
/-- how many words are ahead of the word -/
def many (r : Int) (f : Nat → Bool) (n : Nat) : Int := C r f n 0 + C r f n 1 + C r f n 2 + C r f n 3
theorem many_bd (r : Int) (f : Nat → Bool) {n : Nat} (hn : n ≤ 12) : 0 ≤ many r f n ∧ many r f n ≤ 16384 := by
  have h0 := C_le r f hn 0 (by omega)
  have h1 := C_le r f hn 1 (by omega)
  have h2 := C_le r f hn 2 (by omega)
  have h3 := C_le r f hn 3 (by omega)
  unfold many; omega
theorem many_congr (r : Int) {f g : Nat → Bool} {n : Nat} (h : ∀ i, i < n → f i = g i) : many r f n = many r g n := by unfold many; rw [C_congr r n h]
/-- HEDLUND: the two words of one cell more -/
theorem many_sum (r : Int) (f g h : Nat → Bool) (n : Nat) (hg : ∀ i, i < n → g i = f i) (hh : ∀ i, i < n → h i = f i) (g1 : g n = false) (h1 : h n = true) :
    many r g (n + 1) + many r h (n + 1) = 2 * many r f n := by
  unfold many
  simp only [C]
  rw [C_congr r n hg, C_congr r n hh, g1, h1]
  generalize C r f n = M
  unfold N
  have a0 := hit_ft r 0
  have a1 := hit_ft r 1
  have a2 := hit_ft r 2
  have a3 := hit_ft r 3
  have a4 := hit_ft r 4
  have a5 := hit_ft r 5
  have a6 := hit_ft r 6
  have a7 := hit_ft r 7
  simp only [Nat.reduceAdd, Nat.reduceDiv, Nat.reduceLT, true_and]
  rcases a0 with ⟨x, y⟩ | ⟨x, y⟩ <;> simp only [x, y, if_true, if_false] <;> clear x y <;> rcases a4 with ⟨x, y⟩ | ⟨x, y⟩ <;> simp only [x, y, if_true, if_false] <;> clear x y <;>
  rcases a1 with ⟨x, y⟩ | ⟨x, y⟩ <;> simp only [x, y, if_true, if_false] <;> clear x y <;> rcases a5 with ⟨x, y⟩ | ⟨x, y⟩ <;> simp only [x, y, if_true, if_false] <;> clear x y <;>
  rcases a2 with ⟨x, y⟩ | ⟨x, y⟩ <;> simp only [x, y, if_true, if_false] <;> clear x y <;> rcases a6 with ⟨x, y⟩ | ⟨x, y⟩ <;> simp only [x, y, if_true, if_false] <;> clear x y <;>
  rcases a3 with ⟨x, y⟩ | ⟨x, y⟩ <;> simp only [x, y, if_true, if_false] <;> clear x y <;> rcases a7 with ⟨x, y⟩ | ⟨x, y⟩ <;> simp only [x, y, if_true, if_false] <;> clear x y <;> omega
end Go.Proofs.Ytnagdnbdpknniaa.CellM
