/- A machine with a tape, in plain numbers: a table, a configuration, one step, many steps. No condition. -/
namespace Go.Proofs.Ytklhbmlcpjlgiaa
set_option linter.unusedVariables false
structure Cf where
  f : Int → Int
  s : Nat
  h : Int
def ruW (T : Nat → Nat → Int) (c : Cf) : Int := T c.s (3 * (c.f c.h).toNat)
def ruM (T : Nat → Nat → Int) (c : Cf) : Int := T c.s (3 * (c.f c.h).toNat + 1)
def ruN (T : Nat → Nat → Int) (c : Cf) : Int := T c.s (3 * (c.f c.h).toNat + 2)
def stp (T : Nat → Nat → Int) (c : Cf) : Cf := ⟨fun y => if y = c.h then ruW T c else c.f y, (ruN T c).toNat, c.h + ruM T c⟩
def itC (T : Nat → Nat → Int) : Nat → Cf → Cf
  | 0, c => c
  | k + 1, c => stp T (itC T k c)
theorem itC_add (T : Nat → Nat → Int) (j k : Nat) (c : Cf) : itC T (j + k) c = itC T k (itC T j c) := by
  induction k with
  | zero => rfl
  | succ k ih => show stp T (itC T (j + k) c) = stp T _; rw [ih]
/-- a table that may be: n states, Y signs -/
def Gt (n Y : Nat) (T : Nat → Nat → Int) : Prop := ∀ s, s < n → ∀ k, k < Y → (0 ≤ T s (3 * k) ∧ T s (3 * k) < Y) ∧ (-1 ≤ T s (3 * k + 1) ∧ T s (3 * k + 1) ≤ 1) ∧ (0 ≤ T s (3 * k + 2) ∧ T s (3 * k + 2) ≤ n)
/-- a configuration that may be: its signs and places -/
def Gc (n Y B : Nat) (c : Cf) : Prop := (∀ x, 0 ≤ c.f x ∧ c.f x < Y) ∧ c.s ≤ n ∧ (-(B : Int) ≤ c.h ∧ c.h ≤ B) ∧ ∀ x, c.f x ≠ 0 → -(B : Int) ≤ x ∧ x ≤ B
theorem Gc.rule {n Y B : Nat} {T : Nat → Nat → Int} {c : Cf} (g : Gt n Y T) (h : Gc n Y B c) (hs : c.s < n) : (0 ≤ ruW T c ∧ ruW T c < Y) ∧ (-1 ≤ ruM T c ∧ ruM T c ≤ 1) ∧ (0 ≤ ruN T c ∧ ruN T c ≤ n) := by
  have := h.1 c.h
  exact g c.s hs _ (by omega)
theorem Gc.stp {n Y B : Nat} {T : Nat → Nat → Int} {c : Cf} (g : Gt n Y T) (h : Gc n Y B c) (hs : c.s < n) : Gc n Y (B + 1) (stp T c) := by
  obtain ⟨r0, r1, r2⟩ := h.rule g hs
  obtain ⟨h1, h2, h3, h4⟩ := h
  refine ⟨fun x => ?_, ?_, ?_, fun x hx => ?_⟩
  · show 0 ≤ (if x = c.h then ruW T c else c.f x) ∧ (if x = c.h then ruW T c else c.f x) < _
    by_cases e : x = c.h
    · rw [if_pos e]; exact r0
    · rw [if_neg e]; exact h1 x
  · show (ruN T c).toNat ≤ n; omega
  · show _ ≤ c.h + ruM T c ∧ c.h + ruM T c ≤ _; omega
  · have hx' : (if x = c.h then ruW T c else c.f x) ≠ 0 := hx
    by_cases e : x = c.h
    · subst e; omega
    · rw [if_neg e] at hx'
      have := h4 x hx'
      omega
/-- d steps are what is done of m: it stands, or m are done -/
def Dn (n : Nat) (T : Nat → Nat → Int) (m d : Nat) (c : Cf) : Prop := d ≤ m ∧ (∀ j, j < d → (itC T j c).s < n) ∧ (d = m ∨ n ≤ (itC T d c).s)
theorem Dn.uniq {n m d d' : Nat} {T : Nat → Nat → Int} {c : Cf} (h : Dn n T m d c) (h' : Dn n T m d' c) : d = d' := by
  obtain ⟨a1, a2, a3⟩ := h
  obtain ⟨b1, b2, b3⟩ := h'
  rcases Nat.lt_trichotomy d d' with hl | he | hl
  · have := b2 d hl; omega
  · exact he
  · have := a2 d' hl; omega
theorem Gc.it {n Y B : Nat} {T : Nat → Nat → Int} {c : Cf} (g : Gt n Y T) (h : Gc n Y B c) : ∀ d, (∀ j, j < d → (itC T j c).s < n) → Gc n Y (B + d) (itC T d c) := by
  intro d
  induction d with
  | zero => intro _; exact h
  | succ d ih => intro hj; exact (ih fun j hj' => hj j (by omega)).stp g (hj d (by omega))
/-- the least and the greatest place of the head and the signs that are not 0 -/
def Sp (f : Int → Int) (h lo hi : Int) : Prop := (lo ≤ h ∧ h ≤ hi) ∧ (∀ x, f x ≠ 0 → lo ≤ x ∧ x ≤ hi) ∧ (lo = h ∨ f lo ≠ 0) ∧ (hi = h ∨ f hi ≠ 0)
theorem Sp.uniq {f : Int → Int} {h lo hi lo' hi' : Int} (a : Sp f h lo hi) (b : Sp f h lo' hi') : lo = lo' ∧ hi = hi' := by
  obtain ⟨a1, a2, a3, a4⟩ := a
  obtain ⟨b1, b2, b3, b4⟩ := b
  constructor
  · rcases a3 with e | e <;> rcases b3 with e' | e'
    · omega
    · have := a2 _ e'; omega
    · have := b2 _ e; omega
    · have := a2 _ e'; have := b2 _ e; omega
  · rcases a4 with e | e <;> rcases b4 with e' | e'
    · omega
    · have := a2 _ e'; omega
    · have := b2 _ e; omega
    · have := a2 _ e'; have := b2 _ e; omega
theorem Sp.bound {n Y B : Nat} {c : Cf} (h : Gc n Y B c) {lo hi : Int} (a : Sp c.f c.h lo hi) : -(B : Int) ≤ lo ∧ hi ≤ B := by
  obtain ⟨h1, h2, h3, h4⟩ := h
  obtain ⟨a1, a2, a3, a4⟩ := a
  constructor
  · rcases a3 with e | e
    · omega
    · exact (h4 _ e).1
  · rcases a4 with e | e
    · omega
    · exact (h4 _ e).2
/-- signs laid from a place on -/
def laid (g : Nat → Int) (k : Nat) (first : Int) : Int → Int := fun x => if first ≤ x ∧ x < first + k then g (x - first).toNat else 0
theorem laid_succ (g : Nat → Int) (k : Nat) (first : Int) : (fun x => if x = first + k then g k else laid g k first x) = laid g (k + 1) first := by
  funext x
  unfold laid
  by_cases e : x = first + k
  · subst e
    rw [if_pos rfl, if_pos (by omega)]
    congr 1; omega
  · rw [if_neg e]
    by_cases h : first ≤ x ∧ x < first + k
    · rw [if_pos h, if_pos (by omega)]
    · rw [if_neg h, if_neg (by omega)]
theorem laid_zero (g : Nat → Int) (first : Int) : laid g 0 first = fun _ => 0 := by
  funext x; unfold laid; rw [if_neg (by omega)]
/-- what is told of a tape, laid again, is the tape -/
theorem laid_back {f : Int → Int} {h lo hi : Int} {k : Nat} {g : Nat → Int} (a : Sp f h lo hi) (hk : (k : Int) = hi - lo + 1) (hg : ∀ i : Nat, i < k → g i = f (lo + i)) : laid g k lo = f := by
  funext x
  unfold laid
  by_cases e : lo ≤ x ∧ x < lo + k
  · rw [if_pos e, hg _ (by omega)]
    congr 1; omega
  · rw [if_neg e]
    by_cases e0 : f x = 0
    · exact e0.symm
    · have := a.2.1 x e0
      omega
end Go.Proofs.Ytklhbmlcpjlgiaa
