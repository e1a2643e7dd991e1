/- The first of some numbers that is not zero. No condition. -/
namespace Go.Proofs.Ytklhbmlcpjlgiaa
/-- the first of E 0, E 1, .. below k that is not zero, or zero -/
def fstE (E : Nat → Int) : Nat → Int
  | 0 => 0
  | k + 1 => if fstE E k = 0 then E k else fstE E k
theorem fstE_stop {E : Nat → Int} {k : Nat} {x : Int} (h : fstE E k = 0) (hE : E k = x) (h0 : x ≠ 0) : ∀ n, k < n → fstE E n = x := by
  intro n
  induction n with
  | zero => intro h; omega
  | succ n ih =>
    intro hk
    by_cases e : n = k
    · subst e; show (if fstE E n = 0 then E n else _) = x; rw [if_pos h, hE]
    · have := ih (by omega)
      show (if fstE E n = 0 then _ else _) = x
      rw [if_neg (by rw [this]; exact h0), this]
theorem fstE_next {E : Nat → Int} {k : Nat} (h : fstE E k = 0) (hE : E k = 0) : fstE E (k + 1) = 0 := by
  show (if fstE E k = 0 then E k else _) = 0; rw [if_pos h, hE]
theorem fstE_zero {E : Nat → Int} {n : Nat} : fstE E n = 0 ↔ ∀ k, k < n → E k = 0 := by
  induction n with
  | zero => exact ⟨fun _ k hk => absurd hk (Nat.not_lt_zero _), fun _ => rfl⟩
  | succ n ih =>
    have e : fstE E (n + 1) = if fstE E n = 0 then E n else fstE E n := rfl
    rw [e]
    constructor
    · intro h k hk
      by_cases h0 : fstE E n = 0
      · rw [if_pos h0] at h
        by_cases ek : k = n
        · subst ek; exact h
        · exact ih.1 h0 k (by omega)
      · rw [if_neg h0] at h; exact absurd h h0
    · intro h
      rw [if_pos (ih.2 fun k hk => h k (by omega)), h n (by omega)]
theorem fstE_congr {E E' : Nat → Int} {n : Nat} (h : ∀ k, k < n → E k = E' k) : fstE E n = fstE E' n := by
  induction n with
  | zero => rfl
  | succ n ih => show (if _ then _ else _) = (if _ then _ else _); rw [ih fun k hk => h k (by omega), h n (by omega)]
end Go.Proofs.Ytklhbmlcpjlgiaa
