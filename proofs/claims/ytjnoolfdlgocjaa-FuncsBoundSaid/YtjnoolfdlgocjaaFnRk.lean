/- Ranks of functions and what a value may be. Plain law. No condition. -/
import Derived.Test.YtjnoolfdlgocjaaFnLaw
namespace Go.Proofs.Ytjnoolfdlgocjaa
set_option linter.unusedVariables false
/-- the greatest of r and R (f q) + 2, q < t -/
def upR (R : Nat → Int) (f : Nat → Int) (r : Int) : Nat → Int
  | 0 => r
  | t + 1 => if upR R f r t < R (f t).toNat + 2 then R (f t).toNat + 2 else upR R f r t
theorem upR_ge (R : Nat → Int) (f : Nat → Int) (r : Int) (n : Nat) : r ≤ upR R f r n ∧ ∀ q, q < n → R (f q).toNat + 2 ≤ upR R f r n := by
  induction n with
  | zero => exact ⟨Int.le_refl _, fun q h => absurd h (by omega)⟩
  | succ n ih =>
    have e : upR R f r (n + 1) = if upR R f r n < R (f n).toNat + 2 then R (f n).toNat + 2 else upR R f r n := rfl
    refine ⟨by rw [e]; split <;> omega, fun q hq => ?_⟩
    rw [e]
    rcases (by omega : q < n ∨ q = n) with h | h
    · have := ih.2 q h
      split <;> omega
    · subst h; split <;> omega
theorem upR_le (R : Nat → Int) (f : Nat → Int) (r M : Int) (n : Nat) (hr : r ≤ M) (h : ∀ q, q < n → R (f q).toNat + 2 ≤ M) : upR R f r n ≤ M := by
  induction n with
  | zero => exact hr
  | succ n ih =>
    have e : upR R f r (n + 1) = if upR R f r n < R (f n).toNat + 2 then R (f n).toNat + 2 else upR R f r n := rfl
    have h1 := ih (fun q hq => h q (by omega))
    have h2 := h n (by omega)
    rw [e]; split <;> assumption
theorem upR_or (R : Nat → Int) (f : Nat → Int) (r : Int) (n : Nat) : upR R f r n = r ∨ ∃ q, q < n ∧ upR R f r n = R (f q).toNat + 2 := by
  induction n with
  | zero => exact .inl rfl
  | succ n ih =>
    have e : upR R f r (n + 1) = if upR R f r n < R (f n).toNat + 2 then R (f n).toNat + 2 else upR R f r n := rfl
    rw [e]
    split
    · exact .inr ⟨n, by omega, rfl⟩
    · rcases ih with h | ⟨q, hq, h⟩
      · exact .inl h
      · exact .inr ⟨q, by omega, h⟩
/-- the rank of a function by the ranks R -/
def rkS (D : Nat → SF) (R : Nat → Int) (i : Nat) : Int :=
  if (D i).k = 4 then upR R (D i).s.f (R (D i).x.toNat + 2) (D i).s.n else if (D i).k = 5 then (if R (D i).x.toNat < R (D i).y.toNat then R (D i).y.toNat else R (D i).x.toNat) + 3 else 1
/-- the ranks of the first t -/
def rkT (D : Nat → SF) : Nat → Nat → Int
  | 0, _ => 0
  | t + 1, j => if j = t then rkS D (rkT D t) t else rkT D t j
def rk (D : Nat → SF) (j : Nat) : Int := rkT D (j + 1) j
theorem rkT_rk (D : Nat → SF) (t j : Nat) (h : j < t) : rkT D t j = rk D j := by
  induction t with
  | zero => omega
  | succ t ih =>
    by_cases e : j = t
    · subst e; rfl
    · show (if j = t then _ else rkT D t j) = _
      rw [if_neg e]; exact ih (by omega)
theorem rk_eq (D : Nat → SF) (i : Nat) : rk D i = rkS D (rkT D i) i := by
  show (if i = i then _ else _) = _
  rw [if_pos rfl]
theorem rk_4 {D : Nat → SF} {i : Nat} (h : okFn D i) (k : (D i).k = 4) : rk D (D i).x.toNat + 2 ≤ rk D i ∧ ∀ q, q < (D i).s.n → rk D ((D i).s.f q).toNat + 2 ≤ rk D i := by
  obtain ⟨_, hx, hs⟩ := h.2.2.2.2.1 k
  have e : rk D i = upR (rkT D i) (D i).s.f (rkT D i (D i).x.toNat + 2) (D i).s.n := by rw [rk_eq, rkS, if_pos k]
  have h1 := upR_ge (rkT D i) (D i).s.f (rkT D i (D i).x.toNat + 2) (D i).s.n
  rw [← e] at h1
  refine ⟨by have := h1.1; rwa [rkT_rk D i _ (by omega)] at this, fun q hq => ?_⟩
  have := h1.2 q hq
  have := hs q hq
  rwa [rkT_rk D i _ (by omega)] at *
theorem rk_5 {D : Nat → SF} {i : Nat} (h : okFn D i) (k : (D i).k = 5) : rk D i = (if rk D (D i).x.toNat < rk D (D i).y.toNat then rk D (D i).y.toNat else rk D (D i).x.toNat) + 3 := by
  obtain ⟨_, hx, hy⟩ := h.2.2.2.2.2 k
  rw [rk_eq, rkS, if_neg (by omega), if_pos k, rkT_rk D i _ (by omega), rkT_rk D i _ (by omega)]
theorem rk_1 {D : Nat → SF} {i : Nat} (h4 : (D i).k ≠ 4) (h5 : (D i).k ≠ 5) : rk D i = 1 := by
  rw [rk_eq, rkS, if_neg h4, if_neg h5]
/-- a rank is 1 or at least 3, and at most 3 i + 1 -/
theorem rk_of {D : Nat → SF} {n : Nat} (h : ∀ i, i < n → okFn D i) : ∀ i, i < n → (rk D i = 1 ∨ 3 ≤ rk D i) ∧ rk D i ≤ 3 * i + 1 := by
  intro i
  induction i using Nat.strongRecOn with
  | ind i ih =>
    intro hi
    have ho := h i hi
    by_cases k4 : (D i).k = 4
    · obtain ⟨_, hx, hs⟩ := ho.2.2.2.2.1 k4
      have h1 := ih (D i).x.toNat (by omega) (by omega)
      have h2 := (rk_4 ho k4).1
      refine ⟨.inr (by omega), ?_⟩
      rw [rk_eq, rkS, if_pos k4]
      refine upR_le _ _ _ _ _ (by rw [rkT_rk D i _ (by omega)]; omega) fun q hq => ?_
      have h3 := hs q hq
      have h4 := ih ((D i).s.f q).toNat (by omega) (by omega)
      rw [rkT_rk D i _ (by omega)]; omega
    · by_cases k5 : (D i).k = 5
      · obtain ⟨_, hx, hy⟩ := ho.2.2.2.2.2 k5
        have h1 := ih (D i).x.toNat (by omega) (by omega)
        have h2 := ih (D i).y.toNat (by omega) (by omega)
        rw [rk_5 ho k5]
        split <;> omega
      · rw [rk_1 k4 k5]; omega
/-- what a value x says: asked with the arguments V, m of them, and fuel k, k' is left -/
def AskP (D : Nat → SF) (i m : Nat) (V : Nat → Int) (x k k' : Int) : Prop :=
  (-1 ≤ x ∧ x ≤ 1000) ∧ (-1 ≤ k' ∧ k' ≤ k) ∧ (0 ≤ x → 0 ≤ k') ∧ ∀ M : Int, 0 ≤ M → (∀ q, q < m → V q ≤ M) → (rk D i ≤ 1 → x ≤ M + 1) ∧ (rk D i ≤ 1 → 2 ≤ (D i).a → x ≤ M) ∧ (rk D i ≤ 4 → x ≤ M + 2)
theorem AskP.none (D : Nat → SF) (i m : Nat) (V : Nat → Int) (k k' : Int) (h : -1 ≤ k' ∧ k' ≤ k) : AskP D i m V (-1) k k' :=
  ⟨⟨by omega, by omega⟩, h, fun h => by omega, fun M h0 _ => ⟨fun _ => by omega, fun _ _ => by omega, fun _ => by omega⟩⟩
/-- where x is at most the greatest argument -/
theorem AskP.low {D : Nat → SF} {i m : Nat} {V : Nat → Int} {x k : Int} (hx : 0 ≤ x ∧ x ≤ 1000) (hk : 1 ≤ k) (h : ∀ M : Int, 0 ≤ M → (∀ q, q < m → V q ≤ M) → x ≤ M) : AskP D i m V x k (k - 1) :=
  ⟨⟨by omega, by omega⟩, ⟨by omega, by omega⟩, fun _ => by omega, fun M h0 hM => by have := h M h0 hM; exact ⟨fun _ => by omega, fun _ _ => by omega, fun _ => by omega⟩⟩
theorem AskP.next {D : Nat → SF} {i m : Nat} {V : Nat → Int} {k : Int} (ha : (D i).a = 1) (hm : 0 < m) (hx : 0 ≤ V 0 ∧ V 0 < 1000) (hk : 1 ≤ k) : AskP D i m V (V 0 + 1) k (k - 1) :=
  ⟨⟨by omega, by omega⟩, ⟨by omega, by omega⟩, fun _ => by omega, fun M h0 hM => by have := hM 0 hm; exact ⟨fun _ => by omega, fun _ _ => by omega, fun _ => by omega⟩⟩
/-- the value of the one that asks for another of values F -/
theorem AskP.of4 {D : Nat → SF} {i m : Nat} {V F : Nat → Int} {x k k1 k' : Int} (ho : okFn D i) (hall : ∀ j, j < i → rk D j = 1 ∨ 3 ≤ rk D j) (h4 : (D i).k = 4) (hk : k1 ≤ k) (hF : ∀ q, q < (D i).s.n → ∀ M : Int, 0 ≤ M → (∀ q, q < m → V q ≤ M) → rk D ((D i).s.f q).toNat ≤ 1 → F q ≤ M + 1) (h : AskP D (D i).x.toNat (D i).s.n F x k1 k') : AskP D i m V x k k' := by
  obtain ⟨_, hx, hs⟩ := ho.2.2.2.2.1 h4
  have hr := rk_4 ho h4
  obtain ⟨h1, h2, h3, h5⟩ := h
  have ha := hall (D i).x.toNat (by omega)
  refine ⟨h1, ⟨h2.1, by omega⟩, h3, fun M h0 hM => ⟨fun h => by omega, fun h => by omega, fun h => ?_⟩⟩
  have := (h5 (M + 1) (by omega) fun q hq => hF q hq M h0 hM (by
    have := hr.2 q hq
    have := hall ((D i).s.f q).toNat (by have := hs q hq; omega)
    omega)).1 (by omega)
  omega
end Go.Proofs.Ytjnoolfdlgocjaa
