/- Plain numbers: bit by bit others of each two that differ in one bit. No condition. -/
namespace Go.Proofs.Ytoodmoliglhpiaa.WaveM
/-- one bit: t1 where it is 0, t2 where it is 1 -/
def stg (t1 t2 : Int → Int → Int) (i : Nat) (g : Nat → Int) (z : Nat) : Int := if z / 2 ^ i % 2 = 0 then t1 (g z) (g (z + 2 ^ i)) else t2 (g (z - 2 ^ i)) (g z)
/-- the first i bits -/
def E (t1 t2 : Int → Int → Int) (f : Nat → Int) : Nat → Nat → Int
  | 0 => f
  | i + 1 => stg t1 t2 i (E t1 t2 f i)
/-- z without bit i -/
def clr (i z : Nat) : Nat := if z / 2 ^ i % 2 = 0 then z else z - 2 ^ i
/-- behind the first k words -/
def prt (t1 t2 : Int → Int → Int) (i : Nat) (g : Nat → Int) (k z : Nat) : Int := if clr i z < k then stg t1 t2 i g z else g z
theorem or_small : ∀ i, i < 4 → ∀ x, x < 16 → x ||| 2 ^ i = (if x / 2 ^ i % 2 = 0 then x + 2 ^ i else x) := by decide
theorem or_lt : ∀ n, n ≤ 4 → ∀ i, i < n → ∀ x, x < 2 ^ n → x / 2 ^ i % 2 = 0 → x + 2 ^ i < 2 ^ n := by decide
theorem bit_ge : ∀ i, i < 4 → ∀ x, x < 16 → ¬ x / 2 ^ i % 2 = 0 → 2 ^ i ≤ x := by decide
theorem bit_up : ∀ i, i < 4 → ∀ x, x < 16 → x / 2 ^ i % 2 = 0 → ¬ (x + 2 ^ i) / 2 ^ i % 2 = 0 := by decide
theorem bit_down : ∀ i, i < 4 → ∀ x, x < 16 → ¬ x / 2 ^ i % 2 = 0 → (x - 2 ^ i) / 2 ^ i % 2 = 0 := by decide
theorem prt_zero (t1 t2 : Int → Int → Int) (i : Nat) (g : Nat → Int) (z : Nat) : prt t1 t2 i g 0 z = g z := by simp [prt]
theorem clr_le (i z : Nat) : clr i z ≤ z := by unfold clr; split; exact Nat.le_refl _; exact Nat.sub_le _ _
theorem prt_all (t1 t2 : Int → Int → Int) (i : Nat) (g : Nat → Int) {m z : Nat} (h : z < m) : prt t1 t2 i g m z = stg t1 t2 i g z := by
  have := clr_le i z
  simp only [prt]; rw [if_pos (by omega)]
/-- a word with the bit: nothing is done -/
theorem prt_skip (t1 t2 : Int → Int → Int) {i k z : Nat} (g : Nat → Int) (hi : i < 4) (hz : z < 16) (hk : ¬ k / 2 ^ i % 2 = 0) : prt t1 t2 i g (k + 1) z = prt t1 t2 i g k z := by
  have hne : clr i z ≠ k := by
    intro e
    unfold clr at e
    by_cases hb : z / 2 ^ i % 2 = 0
    · rw [if_pos hb] at e; subst e; exact hk hb
    · rw [if_neg hb] at e; subst e; exact hk (bit_down i hi z hz hb)
  unfold prt
  have : clr i z < k + 1 ↔ clr i z < k := by omega
  simp only [this]
/-- a word without it: it, and the one with it -/
theorem prt_do (t1 t2 : Int → Int → Int) {i k z : Nat} (g : Nat → Int) (hi : i < 4) (hz : z < 16) (hk : k / 2 ^ i % 2 = 0) (hk16 : k < 16) :
    prt t1 t2 i g (k + 1) z = if z = k + 2 ^ i then t2 (g k) (g (k + 2 ^ i)) else if z = k then t1 (g k) (g (k + 2 ^ i)) else prt t1 t2 i g k z := by
  have hp : 1 ≤ 2 ^ i := Nat.pow_pos (by omega)
  by_cases e1 : z = k + 2 ^ i
  · rw [if_pos e1]
    have hb : ¬ z / 2 ^ i % 2 = 0 := by rw [e1]; exact bit_up i hi k hk16 hk
    have hc : clr i z = k := by unfold clr; rw [if_neg hb, e1]; omega
    unfold prt
    rw [if_pos (by omega)]
    unfold stg
    rw [if_neg hb, e1, Nat.add_sub_cancel]
  · rw [if_neg e1]
    by_cases e2 : z = k
    · rw [if_pos e2]
      subst e2
      have hc : clr i z = z := by unfold clr; rw [if_pos hk]
      unfold prt
      rw [if_pos (by omega)]
      unfold stg
      rw [if_pos hk]
    · rw [if_neg e2]
      have hne : clr i z ≠ k := by
        intro e
        unfold clr at e
        by_cases hb : z / 2 ^ i % 2 = 0
        · rw [if_pos hb] at e; exact e2 e
        · rw [if_neg hb] at e
          have := bit_ge i hi z hz hb
          exact e1 (by omega)
      unfold prt
      have : clr i z < k + 1 ↔ clr i z < k := by omega
      simp only [this]
/-- at a word without the bit nothing has been done yet, there and at the one with it -/
theorem prt_at (t1 t2 : Int → Int → Int) {i k : Nat} (g : Nat → Int) (hi : i < 4) (hk : k / 2 ^ i % 2 = 0) (hk16 : k < 16) : prt t1 t2 i g k k = g k ∧ prt t1 t2 i g k (k + 2 ^ i) = g (k + 2 ^ i) := by
  have hp : 1 ≤ 2 ^ i := Nat.pow_pos (by omega)
  constructor
  · unfold prt clr; rw [if_pos hk, if_neg (by omega)]
  · unfold prt clr; rw [if_neg (bit_up i hi k hk16 hk), if_neg (by omega)]
end Go.Proofs.Ytoodmoliglhpiaa.WaveM
