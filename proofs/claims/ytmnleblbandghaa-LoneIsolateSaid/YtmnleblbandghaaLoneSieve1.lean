/- What lone.sieve computes. Conditions: sets and checks are below 32. -/
import Derived.Test.YtmnleblbandghaaOnes32
import Derived.Test.YtmnleblbandghaaPredUB
import Derived.Test.YtmnleblbandghaaLoneLeast
namespace Go.Proofs.Ytmnleblbandghaa
open Go.ChangeShapes Go.WideShapes Go.ChangeAt Go.RowKit
set_option linter.unusedVariables false
/-- the check c does not let the set x pass -/
def notP (x c : Nat) : Bool := popc5 (c &&& x) % 2 == 1
theorem and_u32n {a b : Nat} (ha : a < 32) (hb : b < 32) : bits .and .u32 (a : Int) (b : Int) = ((a &&& b : Nat) : Int) := by
  have hx : a &&& b < 2 ^ 5 := Nat.and_lt_two_pow _ (by omega)
  have e1 : (BitVec.ofInt 32 (a : Int)).toNat = a := by rw [BitVec.ofInt_natCast, BitVec.toNat_ofNat]; omega
  have e2 : (BitVec.ofInt 32 (b : Int)).toNat = b := by rw [BitVec.ofInt_natCast, BitVec.toNat_ofNat]; omega
  show IntKind.u32.wrap ((BitVec.ofInt 32 (a : Int) &&& BitVec.ofInt 32 (b : Int)).toNat : Int) = _
  rw [BitVec.toNat_and, e1, e2]
  generalize a &&& b = y at *
  simp [IntKind.wrap, IntKind.bits, IntKind.signed]; omega
set_option maxRecDepth 100000 in
theorem sieveC_of (x c u q Bx : Nat) (w : World) (hl : q ≤ 5) (ha : bits BinOp.and .u32 (c : Int) (x : Int) = (u : Int)) (ho : Calls Try.prog 30 #[.int .u32 u] w fun e w' => e = .returned (.int .i64 q) ∧ Below w.heap.size w w') (hb : w.cell? ⟨Bx, 0, none⟩ = some (.int .u32 x)) :
    Calls Try.prog 29 #[.int .u32 c, .pointer (some ⟨Bx, 0, none⟩)] w fun e w' => e = .returned (.bool (q % 2 == 1)) ∧ Below w.heap.size w w' := by
  have HO := Lib.hid ho
  clear ho
  have hm : (q : Int) % 2 = ((q % 2 : Nat) : Int) := by omega
  obtain ⟨y, hy⟩ : ∃ y, y = q % 2 := ⟨_, rfl⟩
  rw [← hy] at hm ⊢
  clear hy
  go_enter Try.func29, Try.ntmps29
  go_wp2_with fail
  refine HO.out.mono ?_
  rintro e w' ⟨rfl, hbl⟩
  go_wp2_with fail
  go_ret
  exact ⟨ret_bool (by rw [Bool.eq_iff_iff]; simp; omega), hbl⟩
theorem sieveC_any (x c Bx : Nat) (w : World) (hx : x < 32) (hc : c < 32) (hb : w.cell? ⟨Bx, 0, none⟩ = some (.int .u32 x)) :
    Calls Try.prog 29 #[.int .u32 c, .pointer (some ⟨Bx, 0, none⟩)] w fun e w' => e = .returned (.bool (notP x c)) ∧ Below w.heap.size w w' := by
  have hl : c &&& x < 2 ^ 5 := Nat.and_lt_two_pow _ (by omega)
  have pl : popc5 (c &&& x) ≤ 5 := by unfold popc5; omega
  exact sieveC_of x c (c &&& x) (popc5 (c &&& x)) Bx w pl (and_u32n hc hx) (ones32_any _ (by omega) w) hb
/-- how many of the first k are so -/
def cntO (ok : Nat → Bool) : Nat → Nat
  | 0 => 0
  | k + 1 => cntO ok k + if ok k then 1 else 0
theorem cntO_le (ok : Nat → Bool) : ∀ k, cntO ok k ≤ k
  | 0 => Nat.le_refl _
  | k + 1 => by have := cntO_le ok k; show cntO ok k + (if ok k then 1 else 0) ≤ _; split <;> omega
structure Svd (ok : Nat → Bool) (S : Nat → Nat) (k cn : Nat) (G : Nat → Nat) : Prop where
  cnt : cn = cntO ok k
  of : ∀ t, t < cn → ∃ i, i < k ∧ G t = S i ∧ ok i = true
  all : ∀ i, i < k → ok i = true → ∃ t, t < cn ∧ G t = S i
theorem Svd.yes {ok : Nat → Bool} {S G : Nat → Nat} {k cn : Nat} (h : Svd ok S k cn G) (hk : ok k = true) : Svd ok S (k + 1) (cn + 1) (fun t => if t < cn then G t else S k) := by
  refine ⟨?_, fun t ht => ?_, fun i hi he => ?_⟩
  · show _ = cntO ok k + if ok k then 1 else 0
    rw [if_pos hk, ← h.cnt]
  · show ∃ i, _ ∧ (if t < cn then G t else S k) = S i ∧ _
    by_cases e : t < cn
    · rw [if_pos e]
      obtain ⟨i, hi, h1, h2⟩ := h.of t e
      exact ⟨i, by omega, h1, h2⟩
    · rw [if_neg e]; exact ⟨k, by omega, rfl, hk⟩
  · by_cases e : i = k
    · subst e; exact ⟨cn, by omega, by show (if cn < cn then _ else _) = _; rw [if_neg (by omega)]⟩
    · obtain ⟨t, ht, h1⟩ := h.all i (by omega) he
      exact ⟨t, by omega, by show (if t < cn then _ else _) = _; rw [if_pos ht]; exact h1⟩
theorem Svd.no {ok : Nat → Bool} {S G : Nat → Nat} {k cn : Nat} (h : Svd ok S k cn G) (hk : ok k = false) : Svd ok S (k + 1) cn G := by
  refine ⟨?_, fun t ht => ?_, fun i hi he => ?_⟩
  · show _ = cntO ok k + if ok k then 1 else 0
    rw [hk, ← h.cnt]; rfl
  · obtain ⟨i, hi, h1, h2⟩ := h.of t ht
    exact ⟨i, by omega, h1, h2⟩
  · by_cases e : i = k
    · subst e; rw [hk] at he; cases he
    · exact h.all i (by omega) he
def okS (S Q : Nat → Nat) (q : Nat) (i : Nat) : Bool := !anyB (fun j => notP (S i) (Q j)) q
end Go.Proofs.Ytmnleblbandghaa
