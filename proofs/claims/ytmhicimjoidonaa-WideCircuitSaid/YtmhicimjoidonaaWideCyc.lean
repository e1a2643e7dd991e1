/- Plain numbers: rounds of five places by number; each round is made of two rounds and both back. No condition. -/
import Derived.Test.YtmhicimjoidonaaWideMath
namespace Go.Proofs.Ytmhicimjoidonaa
set_option linter.unusedVariables false
/-- a change by its number -/
def eF (n : Nat) : Nat → Int := fun i => ((enc n i : Nat) : Int)
def cod (f : Nat → Nat) : Nat := f 0 + 5 * f 1 + 25 * f 2 + 125 * f 3 + 625 * f 4
theorem enc_lt (n i : Nat) : enc n i < 5 := Nat.mod_lt _ (by omega)
theorem enc_cod {f : Nat → Nat} (h : ∀ i, f i < 5) : ∀ i, i < 5 → enc (cod f) i = f i := fun i hi => by
  have h0 := h 0
  have h1 := h 1
  have h2 := h 2
  have h3 := h 3
  have h4 := h 4
  unfold cod enc
  match i, hi with
  | 0, _ => omega
  | 1, _ => omega
  | 2, _ => omega
  | 3, _ => omega
  | 4, _ => omega
def cmpC (a b : Nat) : Nat := cod fun i => enc b (enc a i)
def invC (a x : Nat) : Nat := if enc a 4 = x then 4 else if enc a 3 = x then 3 else if enc a 2 = x then 2 else if enc a 1 = x then 1 else 0
def backC (a : Nat) : Nat := cod (invC a)
/-- where one comes to from the first place, k times -/
def itC (a : Nat) : Nat → Nat
  | 0 => 0
  | k + 1 => enc a (itC a k)
/-- what between has written when k rounds are done -/
def beC (a b : Nat) : Nat → Nat → Nat
  | 0, _ => 0
  | k + 1, x => if x = itC a k then itC b k else beC a b k x
def betC (a b : Nat) : Nat := cod (beC a b 5)
def idC : Nat := cod id
def f0C : Nat := cod fun i => (i + 1) % 5
def s0C : Nat := 2 + 5 * 4 + 25 * 1 + 125 * 0 + 625 * 3
def comC : Nat := cmpC (cmpC f0C s0C) (cmpC (backC f0C) (backC s0C))
def cC (r : Nat) : Nat := betC r comC
def turnC (c x : Nat) : Nat := cmpC (cmpC c x) (backC c)
def fC (r : Nat) : Nat := turnC (cC r) f0C
def sC (r : Nat) : Nat := turnC (cC r) s0C
/-- a round: all five places in turn -/
def cyc (n : Nat) : Bool := n < 3125 && (enc n 0 != 0 && itC n 2 != 0 && itC n 3 != 0 && itC n 4 != 0 && itC n 5 == 0)
def facts (r : Nat) : Bool := !cyc r || (cyc (backC r) && cyc (fC r) && cyc (sC r) && cyc (backC (fC r)) && cyc (backC (sC r)) && cmpC r (backC r) == idC && cmpC (backC r) r == idC &&
  cmpC (cmpC (cmpC (fC r) (sC r)) (backC (fC r))) (backC (sC r)) == r && ((List.range 5).all fun j => (List.range j).all fun i => enc r i != enc r j) &&
  ((List.range 5).all fun j => (List.range j).all fun i => enc (cC r) i != enc (cC r) j))
theorem facts_all : (List.range 3125).all facts = true := by decide +kernel
theorem facts_of {r : Nat} (h : cyc r = true) : cyc (backC r) = true ∧ cyc (fC r) = true ∧ cyc (sC r) = true ∧ cyc (backC (fC r)) = true ∧ cyc (backC (sC r)) = true ∧ cmpC r (backC r) = idC ∧ cmpC (backC r) r = idC ∧
    cmpC (cmpC (cmpC (fC r) (sC r)) (backC (fC r))) (backC (sC r)) = r ∧ (∀ j, j < 5 → ∀ i, i < j → enc r i ≠ enc r j) ∧ ∀ j, j < 5 → ∀ i, i < j → enc (cC r) i ≠ enc (cC r) j := by
  have hl : r < 3125 := by
    unfold cyc at h
    rw [Bool.and_eq_true] at h
    exact of_decide_eq_true h.1
  have hc := List.all_eq_true.1 facts_all r (by simpa using hl)
  unfold facts at hc
  rw [h] at hc
  simp only [Bool.not_true, Bool.false_or, Bool.and_eq_true, beq_iff_eq, List.all_eq_true, List.mem_range, bne_iff_ne] at hc
  obtain ⟨⟨⟨⟨⟨⟨⟨⟨⟨a1, a2⟩, a3⟩, a4⟩, a5⟩, a6⟩, a7⟩, a8⟩, a9⟩, a10⟩ := hc
  exact ⟨a1, a2, a3, a4, a5, a6, a7, a8, a9, a10⟩
theorem eF_bd (n : Nat) : ∀ i, i < 5 → 0 ≤ eF n i ∧ eF n i ≤ 4 := fun i _ => by have := enc_lt n i; unfold eF; omega
theorem cyc_perm {r : Nat} (h : cyc r = true) : perm (eF r) := ⟨eF_bd r, fun j hj i hi e => (facts_of h).2.2.2.2.2.2.2.2.1 j hj i hi (by unfold eF at e; omega)⟩
theorem eF_cmp (a b : Nat) : ∀ i, i < 5 → eF (cmpC a b) i = cmp (eF a) (eF b) i := fun i hi => by
  unfold eF cmpC
  rw [enc_cod (fun i => enc_lt _ _) i hi]
  show _ = ((enc b ((enc a i : Nat) : Int).toNat : Nat) : Int)
  rw [Int.toNat_natCast]
theorem invC_lt (a x : Nat) : invC a x < 5 := by
  unfold invC
  split
  · omega
  · split
    · omega
    · split
      · omega
      · split <;> omega
theorem eF_back (a : Nat) : ∀ i, i < 5 → eF (backC a) i = ((invC a i : Nat) : Int) := fun i hi => by
  unfold eF backC
  rw [enc_cod (invC_lt a) i hi]
theorem itC_lt (a : Nat) : ∀ k, itC a k < 5
  | 0 => (show 0 < 5 by omega)
  | k + 1 => enc_lt _ _
theorem beC_lt (a b : Nat) : ∀ k x, beC a b k x < 5
  | 0, _ => by show 0 < 5; omega
  | k + 1, x => by
    show (if x = itC a k then itC b k else beC a b k x) < 5
    split
    · exact itC_lt _ _
    · exact beC_lt a b k x
theorem eF_bet (a b : Nat) : ∀ i, i < 5 → eF (betC a b) i = ((beC a b 5 i : Nat) : Int) := fun i hi => by
  unfold eF betC
  rw [enc_cod (beC_lt a b 5) i hi]
theorem eF_id : ∀ i, i < 5 → eF idC i = (i : Int) := fun i hi => by
  match i, hi with
  | 0, _ => rfl
  | 1, _ => rfl
  | 2, _ => rfl
  | 3, _ => rfl
  | 4, _ => rfl
end Go.Proofs.Ytmhicimjoidonaa
