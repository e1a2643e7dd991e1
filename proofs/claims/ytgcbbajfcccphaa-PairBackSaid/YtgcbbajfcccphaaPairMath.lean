/- Plain numbers: the triangular numbers that Cantor's pairing uses. No condition. -/
namespace Go.Proofs.Ytgcbbajfcccphaa.PairM
theorem mul_mono {a b : Int} (h0 : 0 ≤ a) (h : a ≤ b) : a * (a + 1) ≤ b * (b + 1) := by
  have := Int.mul_le_mul h (by omega : a + 1 ≤ b + 1) (by omega) (by omega); exact this
def tri (s : Int) : Int := s * (s + 1) / 2
theorem mul_succ (s : Int) : (s + 1) * (s + 1 + 1) = s * (s + 1) + 2 * (s + 1) := by
  rw [Int.mul_comm (s + 1) (s + 1 + 1), Int.mul_comm s (s + 1)]
  have : (s + 1 + 1) * (s + 1) = s * (s + 1) + 2 * (s + 1) := by
    rw [show s + 1 + 1 = s + 2 by omega, Int.add_mul]
  rw [this, Int.mul_comm]
theorem tri_succ (s : Int) : tri (s + 1) = tri s + s + 1 := by
  unfold tri; rw [mul_succ]; omega
theorem tri_mono {a b : Int} (h0 : 0 ≤ a) (h : a ≤ b) : tri a ≤ tri b := by
  unfold tri; have := mul_mono h0 h; omega
theorem mul_bd {s : Int} (h0 : 0 ≤ s) (h : s ≤ 2000001) : 0 ≤ s * (s + 1) ∧ s * (s + 1) ≤ 4000006000002 := by
  have a := mul_mono (Int.le_refl 0) h0
  have b := mul_mono h0 h
  simp at a b; exact ⟨a, b⟩
theorem tri_bd {s : Int} (h0 : 0 ≤ s) (h : s ≤ 2000001) : 0 ≤ tri s ∧ tri s ≤ 2000003000001 := by
  unfold tri; have := mul_bd h0 h; omega
/-- one sum is the only one of a number -/
theorem tri_uniq {s t b c : Int} (hs : 0 ≤ s) (ht : 0 ≤ t) (b0 : 0 ≤ b) (b1 : b ≤ s) (c0 : 0 ≤ c) (c1 : c ≤ t) (h : tri s + b = tri t + c) : s = t ∧ b = c := by
  have key : s = t := by
    rcases Int.lt_trichotomy s t with l | l | l
    · have := tri_mono (by omega : 0 ≤ s + 1) (by omega : s + 1 ≤ t); rw [tri_succ] at this; omega
    · exact l
    · have := tri_mono (by omega : 0 ≤ t + 1) (by omega : t + 1 ≤ s); rw [tri_succ] at this; omega
  subst key; exact ⟨rfl, by omega⟩
end Go.Proofs.Ytgcbbajfcccphaa.PairM
