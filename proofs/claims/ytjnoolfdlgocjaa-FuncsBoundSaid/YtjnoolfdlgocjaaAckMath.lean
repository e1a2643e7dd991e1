/- Plain numbers: the Ackermann function up to a bound, row by row; it is above its second argument, and grows with either. No condition. -/
namespace Go.Proofs.Ytjnoolfdlgocjaa.AckM
def it (F : Nat → Option Nat) (s : Option Nat) : Nat → Option Nat
  | 0 => s
  | k + 1 => (it F s k).bind F
def ackF : Nat → Nat → Option Nat
  | 0, n => if n < 1000 then some (n + 1) else none
  | m + 1, n => if n < 1000 then it (ackF m) (ackF m 1) n else none
def vI (o : Option Nat) : Int := match o with | some a => a | none => 0
def vB (o : Option Nat) : Bool := o.isSome
theorem vI_some (a : Nat) : vI (some a) = a := rfl
theorem vB_some (a : Nat) : vB (some a) = true := rfl
theorem vI_none : vI none = 0 := rfl
theorem vB_none : vB none = false := rfl
theorem of_vB {o : Option Nat} (h : vB o = true) : ∃ a, o = some a := by cases o with | none => simp [vB] at h | some a => exact ⟨a, rfl⟩
theorem of_vB_false {o : Option Nat} (h : vB o = false) : o = none := by cases o with | none => rfl | some a => simp [vB] at h
theorem it_none {F : Nat → Option Nat} {s : Option Nat} {k : Nat} (h : it F s k = none) (j : Nat) : it F s (k + j) = none := by
  induction j with
  | zero => exact h
  | succ j ih => show (it F s (k + j)).bind F = none; rw [ih]; rfl
theorem it_down {F : Nat → Option Nat} {s : Option Nat} {k j : Nat} (hj : j ≤ k) {c : Nat} (h : it F s k = some c) : ∃ d, it F s j = some d := by
  cases hh : it F s j with
  | some d => exact ⟨d, rfl⟩
  | none => have := it_none hh (k - j); rw [show j + (k - j) = k by omega, h] at this; cases this
theorem ackF_lt {m n a : Nat} (h : ackF m n = some a) : n < 1000 := by
  cases m with
  | zero => simp only [ackF] at h; split at h <;> simp_all
  | succ m => simp only [ackF] at h; split at h <;> simp_all
/-- values stay small -/
theorem it_bd {F : Nat → Option Nat} (hF : ∀ n a, F n = some a → a ≤ 1000) {s : Option Nat} (hs : ∀ a, s = some a → a ≤ 1000) (k a : Nat) (h : it F s k = some a) : a ≤ 1000 := by
  cases k with
  | zero => exact hs a h
  | succ k =>
    simp only [it, Option.bind_eq_some_iff] at h
    obtain ⟨x, _, hx⟩ := h
    exact hF x a hx
theorem ackF_bd (m : Nat) : ∀ n a, ackF m n = some a → a ≤ 1000 := by
  induction m with
  | zero => intro n a h; simp only [ackF] at h; split at h <;> simp_all; omega
  | succ m ih =>
    intro n a h
    simp only [ackF] at h
    split at h
    · exact it_bd ih (fun a h => ih 1 a h) n a h
    · cases h
/-- above the second argument -/
theorem ackF_gt (m : Nat) : ∀ n a, ackF m n = some a → n < a := by
  induction m with
  | zero => intro n a h; simp only [ackF] at h; split at h <;> simp_all; omega
  | succ m ih =>
    have key : ∀ k a, it (ackF m) (ackF m 1) k = some a → k + 1 < a := by
      intro k
      induction k with
      | zero => intro a h; exact ih 1 a h
      | succ k ihk =>
        intro a h
        simp only [it, Option.bind_eq_some_iff] at h
        obtain ⟨x, hx, hxa⟩ := h
        have := ihk x hx
        have := ih x a hxa
        omega
    intro n a h
    simp only [ackF] at h
    split at h
    · have := key n a h; omega
    · cases h
theorem it_gt {m k a : Nat} (h : it (ackF m) (ackF m 1) k = some a) : k + 1 < a := by
  induction k generalizing a with
  | zero => exact ackF_gt m 1 a h
  | succ k ihk =>
    simp only [it, Option.bind_eq_some_iff] at h
    obtain ⟨x, hx, hxa⟩ := h
    have := ihk hx
    have := ackF_gt m x a hxa
    omega
/-- it grows with the second argument -/
theorem ackF_next {m n a b : Nat} (ha : ackF m n = some a) (hb : ackF m (n + 1) = some b) : a < b := by
  cases m with
  | zero => simp only [ackF] at ha hb; split at ha <;> split at hb <;> simp_all; omega
  | succ m =>
    simp only [ackF] at ha hb
    split at ha <;> split at hb
    · simp only [it, Option.bind_eq_some_iff] at hb
      obtain ⟨x, hx, hxb⟩ := hb
      rw [ha] at hx
      injection hx with hx
      subst hx
      exact ackF_gt m _ b hxb
    all_goals simp_all
theorem ackF_down {m n k c : Nat} (hk : k ≤ n) (h : ackF m n = some c) : ∃ d, ackF m k = some d := by
  have hn := ackF_lt h
  cases m with
  | zero => exact ⟨k + 1, by simp only [ackF]; rw [if_pos (by omega)]⟩
  | succ m =>
    simp only [ackF] at h ⊢
    rw [if_pos hn] at h
    rw [if_pos (by omega)]
    exact it_down hk h
theorem ackF_mono {m n k c d : Nat} (hk : k ≤ n) (h : ackF m n = some c) (hd : ackF m k = some d) : d ≤ c := by
  induction n generalizing c with
  | zero => obtain rfl : k = 0 := by omega
            rw [h] at hd; injection hd with hd; omega
  | succ n ih =>
    by_cases e : k = n + 1
    · subst e; rw [h] at hd; injection hd with hd; omega
    · obtain ⟨x, hx⟩ := ackF_down (Nat.le_succ n) h
      have := ih (by omega) hx
      have := ackF_next hx h
      omega
/-- it grows with the first argument -/
theorem ackF_row {m n a c : Nat} (ha : ackF m n = some a) (hc : ackF (m + 1) n = some c) : a < c := by
  simp only [ackF] at hc
  split at hc
  · cases n with
    | zero => exact ackF_next ha hc
    | succ k =>
      simp only [it, Option.bind_eq_some_iff] at hc
      obtain ⟨x, hx, hxc⟩ := hc
      have hgt := it_gt hx
      obtain ⟨d, hd⟩ := ackF_down (show k + 1 + 1 ≤ x by omega) hxc
      have h1 := ackF_next ha hd
      have h2 := ackF_mono (show k + 1 + 1 ≤ x by omega) hxc hd
      omega
  · cases hc
end Go.Proofs.Ytjnoolfdlgocjaa.AckM
