/- The 256 rules: each word has four ahead of it, or some word has none and two rows become the same (printed by gen_cert.py). No condition. -/
import Derived.Test.YtnagdnbdpknniaaCellSetMath
import Derived.Test.YtnagdnbdpknniaaCellSingle
namespace Go.Proofs.Ytnagdnbdpknniaa
open CellM
set_option linter.unusedVariables false
inductive Crt where
  | all (L : List Nat)
  | none (l : List Bool) (W : Nat)
def oNB (R s : Nat) (b : Bool) : Nat → Nat
  | 0 => 0
  | t + 1 => if s.testBit (t / 2) && (R.testBit t == b) then oNB R s b t ||| 2 ^ (t % 4) else oNB R s b t
def SFL (R : Nat) : Nat → List Bool → Nat
  | s, [] => s
  | s, b :: l => SFL R (oNB R s b 8) l
def hB (R : Nat) (b : Bool) (t : Nat) : Nat := if R.testBit t == b then 1 else 0
def v0 (R : Nat) (b : Bool) (v : Nat) : Nat := hB R b 0 * (v % 8) + hB R b 4 * (v / 64 % 8)
def v1 (R : Nat) (b : Bool) (v : Nat) : Nat := hB R b 1 * (v % 8) + hB R b 5 * (v / 64 % 8)
def v2 (R : Nat) (b : Bool) (v : Nat) : Nat := hB R b 2 * (v / 8 % 8) + hB R b 6 * (v / 512 % 8)
def v3 (R : Nat) (b : Bool) (v : Nat) : Nat := hB R b 3 * (v / 8 % 8) + hB R b 7 * (v / 512 % 8)
def vOk (R : Nat) (L : List Nat) (b : Bool) (v : Nat) : Bool := (v0 R b v + v1 R b v + v2 R b v + v3 R b v == 4) && L.contains (v0 R b v + 8 * v1 R b v + 64 * v2 R b v + 512 * v3 R b v)
def gN (R p q : Nat) : Bool := (p / 4 % 2 == q / 4 / 2) && (p % 4 % 2 == q % 4 / 2) && (R.testBit (2 * (p / 4) + q / 4 % 2) == R.testBit (2 * (p % 4) + q % 4 % 2))
def okC (R : Nat) : Crt → Bool
  | .all L => L.contains 585 && L.all fun v => vOk R L false v && vOk R L true v
  | .none l W => (SFL R 15 l == 0) && ((List.range 16).all fun p => !W.testBit p || ((List.range 16).any (fun q => W.testBit q && gN R q p) && (List.range 16).any (fun q => W.testBit q && gN R p q))) && (List.range 16).any fun p => W.testBit p && !(p / 4 == p % 4)
def okAll : Nat → List Crt → Bool
  | _, [] => true
  | R, c :: cs => okC R c && okAll (R + 1) cs
def crts : List Crt := [
  .none [true] 65535,
  .none [true, false, true] 65535,
  .none [true, true] 65535,
  .none [true, false, true] 61153,
  .none [true, true] 65535,
  .none [true, false, false, false, true] 65535,
  .none [true, true, true] 65535,
  .none [true, false, false, true] 61171,
  .none [true, true] 65535,
  .none [true, false, true, true] 65535,
  .none [true, false, true] 65535,
  .none [true, false, true] 61171,
  .none [true, true] 56621,
  .none [true, true, false, false] 52535,
  .none [true, true, true] 56621,
  .all [585],
  .none [true, true] 65535,
  .none [true, false, true] 61153,
  .none [true, true, true] 65535,
  .none [false, true, false] 61153,
  .none [true, true, true] 65535,
  .none [true, false, false, true] 61413,
  .none [true, false, false, true, false, true, false, true] 65535,
  .none [false, true, false, false, true] 61431,
  .none [true, true] 65535,
  .none [true, true, false, true, true] 65257,
  .none [true, true, true, true] 65535,
  .none [true, false, true, false] 61171,
  .none [true, true, true] 57197,
  .none [true, true, false, false] 57197,
  .all [585],
  .none [false, true, true, false] 53111,
  .none [true, true] 65535,
  .none [true, false, true, true] 65535,
  .none [true, true] 56621,
  .none [true, false, true, true] 52517,
  .none [true, false, true] 65535,
  .none [true, false, false, true, false, true, false, false, true] 65535,
  .none [false, true, false, true] 57197,
  .none [false, true, false, true] 53111,
  .none [true, true, true] 65535,
  .none [true, false, true, true, true] 65535,
  .none [true, true, true] 56621,
  .none [false, true, false, false, false] 60855,
  .none [true, false, true, false] 57197,
  .all [585],
  .none [false, true, false] 57197,
  .none [false, true, false] 53111,
  .none [true, true] 46267,
  .none [true, true, false, true] 42163,
  .none [true, true, true] 38207,
  .all [1152, 585, 18],
  .none [true, false, true, false] 46843,
  .none [true, false, true, false] 42999,
  .none [false, true, true, false, true] 38783,
  .none [true, false, true] 34679,
  .none [true, true, true] 46843,
  .none [false, false, true, false, false, false] 46843,
  .none [true, true, true, true] 46527,
  .none [false, true, false, false] 42163,
  .all [585],
  .none [false, false, true, false, false] 38783,
  .none [false, true, false, true, false] 38783,
  .none [false, true, false] 34679,
  .none [true, true] 65535,
  .none [true, true, false, true] 65535,
  .none [true, true] 65535,
  .none [true, true, false, true, true] 65257,
  .none [true, true] 46267,
  .none [false, false, true, true] 42423,
  .none [true, true, true] 46843,
  .none [false, false, true, true] 46843,
  .none [true, true, true] 65535,
  .none [true, false, false, true, true, true] 65535,
  .none [true, true, true, true] 65535,
  .all [585],
  .none [true, true, true] 64681,
  .none [false, false, false, true, true] 64959,
  .none [true, true, true, true] 64699,
  .none [false, false, true, true] 60595,
  .none [true, false, true] 65535,
  .none [true, false, true] 61413,
  .none [true, true, true, true] 65535,
  .none [false, true, false, true] 61413,
  .none [true, true, true] 46267,
  .all [2048, 256, 1040, 32, 585, 130, 4],
  .all [2048, 256, 1544, 200, 1040, 144, 536, 88, 32, 1537, 193, 1033, 585, 137, 529, 81, 25, 1026, 130, 522, 74, 18, 515, 67, 11, 4],
  .none [false, true, true, false] 42999,
  .none [true, true, true, true] 65535,
  .all [2048, 1600, 1152, 704, 256, 1544, 648, 1040, 592, 536, 32, 1089, 193, 585, 578, 130, 67, 4],
  .all [585],
  .none [false, true, false, false, true, false, false, true, false] 65535,
  .none [true, true, true, true] 64941,
  .none [true, true, false, false] 60837,
  .none [false, false, true, false, false] 65535,
  .none [false, false, true, false, false] 65535,
  .none [true, true, true] 65535,
  .none [true, true, true, false, true] 65535,
  .none [true, true, true] 57197,
  .none [false, false, false, true, false, false] 57197,
  .none [false, true, false, true] 46843,
  .all [2048, 256, 1544, 1040, 536, 32, 193, 1033, 585, 137, 81, 25, 130, 522, 18, 67, 11, 4],
  .all [144, 585, 1026],
  .none [false, false, true, false, false] 38783,
  .none [true, false, false, true, false, true, false, true] 65535,
  .all [585],
  .all [2048, 1600, 1152, 704, 256, 1544, 1096, 648, 200, 1040, 592, 144, 536, 88, 32, 1537, 1089, 641, 193, 585, 1026, 578, 130, 515, 67, 4],
  .none [false, true, false, false, false] 65535,
  .none [false, true, true, false, true] 65257,
  .none [false, false, false, true, true, false] 65535,
  .none [false, true, false, true, false] 65257,
  .none [false, true, false, false] 65535,
  .none [true, true, true] 46267,
  .none [false, false, false, true, false] 60855,
  .none [true, true, true, true] 56639,
  .none [false, false, true, false] 52517,
  .none [false, true, false] 46843,
  .none [false, true, false] 42999,
  .none [false, true, false, true, false] 38783,
  .none [false, true, false] 34679,
  .all [585],
  .none [false, false, false, true, false] 65535,
  .none [false, false, true, false, false] 65535,
  .none [false, false, true, false] 65535,
  .none [false, true, false, true, false] 65257,
  .none [false, false, true, false] 65535,
  .none [false, true, false] 65535,
  .none [false, true, false] 65535,
  .none [true, false, true] 65535,
  .none [true, false, true] 65535,
  .none [true, true, false, true] 65535,
  .none [true, false, true, false, true] 65257,
  .none [true, false, true, true] 65535,
  .none [true, true, false, true, true] 65535,
  .none [true, true, true, false, true] 65535,
  .all [585],
  .none [true, false, true] 34679,
  .none [true, false, true, false, true] 38783,
  .none [true, false, true] 42999,
  .none [true, false, true] 46843,
  .none [true, true, false, true] 52517,
  .none [false, false, false, false] 56639,
  .none [false, false, false, true, false] 60855,
  .none [false, false, false] 46267,
  .none [true, false, true, true] 65535,
  .none [true, false, true, false, true] 65257,
  .none [true, false, false, true, true, true] 65535,
  .none [false, true, false, false, true] 65257,
  .none [true, false, true, true, true] 65535,
  .all [2048, 1600, 1152, 704, 256, 1544, 1096, 648, 200, 1040, 592, 144, 536, 88, 32, 1537, 1089, 641, 193, 585, 1026, 578, 130, 515, 67, 4],
  .all [585],
  .none [false, true, false, true, false, true, true, false] 65535,
  .none [true, true, false, true, true] 38783,
  .all [144, 585, 1026],
  .all [2048, 256, 1544, 1040, 536, 32, 193, 1033, 585, 137, 81, 25, 130, 522, 18, 67, 11, 4],
  .none [true, false, true, false] 46843,
  .none [false, false, true, false, false, false] 57197,
  .none [false, false, false] 57197,
  .none [false, false, false, true, false] 65535,
  .none [false, false, false] 65535,
  .none [true, false, false, false, true] 65535,
  .none [true, true, false, true, true] 65535,
  .none [false, false, true, true] 60837,
  .none [false, false, false, false] 64941,
  .none [true, false, false, true, false, true, false, false, true] 65535,
  .all [585],
  .all [2048, 1600, 1152, 704, 256, 1544, 648, 1040, 592, 536, 32, 1089, 193, 585, 578, 130, 67, 4],
  .none [false, false, false, false] 65535,
  .none [true, false, false, true] 42999,
  .all [2048, 256, 1544, 200, 1040, 144, 536, 88, 32, 1537, 193, 1033, 585, 137, 529, 81, 25, 1026, 130, 522, 74, 18, 515, 67, 11, 4],
  .all [2048, 256, 1040, 32, 585, 130, 4],
  .none [false, false, false] 46267,
  .none [true, false, true, false] 61413,
  .none [false, false, false, false] 65535,
  .none [false, true, false] 61413,
  .none [false, false, false] 65535,
  .none [true, true, false, false] 60595,
  .none [false, false, false, false] 64699,
  .none [false, false, false, true, true] 64959,
  .none [false, false, false] 64681,
  .all [585],
  .none [false, false, false, false] 65535,
  .none [false, false, false, true, true, false] 65535,
  .none [false, false, false] 65535,
  .none [true, true, false, false] 46843,
  .none [false, false, false] 46843,
  .none [true, true, false, false] 42423,
  .none [false, false] 46267,
  .none [false, false, true, false, false] 65257,
  .none [false, false] 65535,
  .none [false, false, true, false] 65535,
  .none [false, false] 65535,
  .none [true, false, true] 34679,
  .none [true, false, true, false, true] 38783,
  .none [true, true, false, true, true] 38783,
  .all [585],
  .none [true, false, true, true] 42163,
  .none [false, false, false, false] 46527,
  .none [false, false, false, true, false, false] 46843,
  .none [false, false, false] 46843,
  .none [false, true, false] 34679,
  .none [false, true, false, false, true] 38783,
  .none [false, true, false, true] 42999,
  .none [false, true, false, true] 46843,
  .all [1152, 585, 18],
  .none [false, false, false] 38207,
  .none [false, false, true, false] 42163,
  .none [false, false] 46267,
  .none [true, false, true] 53111,
  .none [true, false, true] 57197,
  .all [585],
  .none [false, true, false, true] 57197,
  .none [false, true, false, false, false] 60855,
  .none [false, false, false] 56621,
  .none [false, true, false, false, false] 65535,
  .none [false, false, false] 65535,
  .none [true, false, true, false] 53111,
  .none [true, false, true, false] 57197,
  .none [false, true, false, false, true, false, false, true, false] 65535,
  .none [false, true, false] 65535,
  .none [false, true, false, false] 52517,
  .none [false, false] 56621,
  .none [false, false, true, false] 65535,
  .none [false, false] 65535,
  .none [true, false, false, true] 53111,
  .all [585],
  .none [false, false, true, true] 57197,
  .none [false, false, false] 57197,
  .none [false, true, false, true] 61171,
  .none [false, false, false, false] 65535,
  .none [false, false, true, false, false] 65257,
  .none [false, false] 65535,
  .none [false, true, false, false, true] 61431,
  .none [false, true, false, true, false, true, true, false] 65535,
  .none [false, true, true, false] 61413,
  .none [false, false, false] 65535,
  .none [true, false, true] 61153,
  .none [false, false, false] 65535,
  .none [false, true, false] 61153,
  .none [false, false] 65535,
  .all [585],
  .none [false, false, false] 56621,
  .none [false, false, true, true] 52535,
  .none [false, false] 56621,
  .none [false, true, false] 61171,
  .none [false, false, false] 65535,
  .none [false, true, false, false] 65535,
  .none [false, false] 65535,
  .none [false, true, true, false] 61171,
  .none [false, false, false] 65535,
  .none [false, false, true, false, false] 65535,
  .none [false, false] 65535,
  .none [false, true, false] 61153,
  .none [false, false] 65535,
  .none [false, true, false] 65535,
  .none [false] 65535]
theorem crts_ok : okAll 0 crts = true := by decide +kernel
theorem crts_len : crts.length = 256 := by decide +kernel
theorem okAll_at : ∀ (cs : List Crt) (R i : Nat), okAll R cs = true → i < cs.length → ∃ c, okC (R + i) c = true
  | [], R, i, _, h => absurd h (Nat.not_lt_zero _)
  | c :: cs, R, 0, h, _ => ⟨c, (Bool.and_eq_true_iff.1 h).1⟩
  | c :: cs, R, i + 1, h, hi => by
    obtain ⟨c', h'⟩ := okAll_at cs (R + 1) i (Bool.and_eq_true_iff.1 h).2 (Nat.lt_of_succ_lt_succ hi)
    exact ⟨c', by rw [show R + (i + 1) = R + 1 + i by omega]; exact h'⟩
theorem hit_nat (R : Nat) (b : Bool) (t : Nat) : hit (R : Int) b t ↔ R.testBit t = b := by
  unfold hit
  have e : (R : Int) / 2 ^ t % 2 = ((R / 2 ^ t % 2 : Nat) : Int) := by simp
  rw [e, Nat.testBit_eq_decide_div_mod_eq]
  have : R / 2 ^ t % 2 = 0 ∨ R / 2 ^ t % 2 = 1 := by omega
  rcases this with h | h <;> rw [h] <;> cases b <;> simp
theorem oNB_eq (R s : Nat) (b : Bool) : ∀ t, oNB R s b t = oN (R : Int) s b t
  | 0 => rfl
  | t + 1 => by
    show (if s.testBit (t / 2) && (R.testBit t == b) then _ else _) = if _ then _ else _
    rw [oNB_eq R s b t]
    by_cases h : (s / 2 ^ (t / 2)) % 2 = 1 ∧ hit (R : Int) b t
    · rw [if_pos h, if_pos (by rw [bit_mod.1 h.1, (hit_nat R b t).1 h.2]; simp)]
    · rw [if_neg h, if_neg (fun h2 => h (by
        rw [Bool.and_eq_true, beq_iff_eq] at h2
        exact ⟨bit_mod.2 h2.1, (hit_nat R b t).2 h2.2⟩))]
theorem SFL_seen {R : Nat} {seen : Nat → Bool} (hc : ∀ s, s < 16 → seen s = true → ∀ b, nS (R : Int) s b ≠ 0 ∧ seen (nS (R : Int) s b) = true) : ∀ (l : List Bool) (s : Nat), s < 16 → s ≠ 0 → seen s = true → SFL R s l ≠ 0
  | [], s, _, h0, _ => h0
  | b :: l, s, hs, h0, h1 => by
    have h := hc s hs h1 b
    show SFL R (oNB R s b 8) l ≠ 0
    rw [oNB_eq]
    exact SFL_seen hc l _ (nS_lt _ _ _) h.1 h.2
theorem hB_eq (R : Nat) (b : Bool) (t x : Nat) : ((hB R b t * x : Nat) : Int) = if hit (R : Int) b t then (x : Int) else 0 := by
  unfold hB
  by_cases h : hit (R : Int) b t
  · rw [if_pos h, if_pos (by rw [(hit_nat R b t).1 h]; simp)]; omega
  · rw [if_neg h, if_neg (fun h2 => h ((hit_nat R b t).2 (by simpa using h2)))]; omega
def VC (M : Nat → Int) (v : Nat) : Prop := M 0 = (v % 8 : Nat) ∧ M 1 = (v / 8 % 8 : Nat) ∧ M 2 = (v / 64 % 8 : Nat) ∧ M 3 = (v / 512 % 8 : Nat)
theorem dec4 (a b c d : Nat) (h : a + b + c + d = 4) : a = (a + 8 * b + 64 * c + 512 * d) % 8 ∧ b = (a + 8 * b + 64 * c + 512 * d) / 8 % 8 ∧ c = (a + 8 * b + 64 * c + 512 * d) / 64 % 8 ∧ d = (a + 8 * b + 64 * c + 512 * d) / 512 % 8 := by
  have e1 : (a + 8 * b + 64 * c + 512 * d) / 8 = b + 8 * c + 64 * d := by omega
  have e2 : (a + 8 * b + 64 * c + 512 * d) / 64 = c + 8 * d := by omega
  have e3 : (a + 8 * b + 64 * c + 512 * d) / 512 = d := by omega
  rw [e1, e2, e3]
  refine ⟨?_, ?_, ?_, ?_⟩ <;> omega
theorem VC.step {R : Nat} {b : Bool} {M : Nat → Int} {v : Nat} {L : List Nat} (h : VC M v) (hv : vOk R L b v = true) : N (R : Int) b M 8 0 + N (R : Int) b M 8 1 + N (R : Int) b M 8 2 + N (R : Int) b M 8 3 = 4 ∧ ∃ u, u ∈ L ∧ VC (N (R : Int) b M 8) u := by
  obtain ⟨m0, m1, m2, m3⟩ := h
  have hN : ∀ j, j < 4 → N (R : Int) b M 8 j = (if hit (R : Int) b j then M (j / 2) else 0) + (if hit (R : Int) b (j + 4) then M ((j + 4) / 2) else 0) := fun j hj => by
    unfold N
    have e1 : (j < 8 ∧ hit (R : Int) b j) ↔ hit (R : Int) b j := ⟨fun h => h.2, fun h => ⟨by omega, h⟩⟩
    have e2 : (j + 4 < 8 ∧ hit (R : Int) b (j + 4)) ↔ hit (R : Int) b (j + 4) := ⟨fun h => h.2, fun h => ⟨by omega, h⟩⟩
    simp only [e1, e2]
  have n0 : N (R : Int) b M 8 0 = (v0 R b v : Nat) := by rw [hN 0 (by omega)]; unfold v0; rw [Int.natCast_add, hB_eq, hB_eq, ← m0, ← m2]
  have n1 : N (R : Int) b M 8 1 = (v1 R b v : Nat) := by rw [hN 1 (by omega)]; unfold v1; rw [Int.natCast_add, hB_eq, hB_eq, ← m0, ← m2]
  have n2 : N (R : Int) b M 8 2 = (v2 R b v : Nat) := by rw [hN 2 (by omega)]; unfold v2; rw [Int.natCast_add, hB_eq, hB_eq, ← m1, ← m3]
  have n3 : N (R : Int) b M 8 3 = (v3 R b v : Nat) := by rw [hN 3 (by omega)]; unfold v3; rw [Int.natCast_add, hB_eq, hB_eq, ← m1, ← m3]
  unfold vOk at hv
  rw [Bool.and_eq_true, beq_iff_eq, List.contains_iff_mem] at hv
  obtain ⟨hs, hm⟩ := hv
  refine ⟨by rw [n0, n1, n2, n3]; omega, _, hm, ?_, ?_, ?_, ?_⟩
  · rw [n0]; exact congrArg Int.ofNat (dec4 _ _ _ _ hs).1
  · rw [n1]; exact congrArg Int.ofNat (dec4 _ _ _ _ hs).2.1
  · rw [n2]; exact congrArg Int.ofNat (dec4 _ _ _ _ hs).2.2.1
  · rw [n3]; exact congrArg Int.ofNat (dec4 _ _ _ _ hs).2.2.2
theorem many_four {R : Nat} {L : List Nat} (h : okC R (.all L) = true) (f : Nat → Bool) : ∀ k, many (R : Int) f k = 4 ∧ ∃ v, v ∈ L ∧ VC (C (R : Int) f k) v := by
  unfold okC at h
  rw [Bool.and_eq_true, List.contains_iff_mem, List.all_eq_true] at h
  intro k
  induction k with
  | zero => exact ⟨rfl, 585, h.1, rfl, rfl, rfl, rfl⟩
  | succ k ih =>
    obtain ⟨_, v, hv, hc⟩ := ih
    have h2 := h.2 v hv
    rw [Bool.and_eq_true] at h2
    have h3 : vOk R L (f k) v = true := by
      cases f k
      · exact h2.1
      · exact h2.2
    exact hc.step h3
theorem gN_eq (R p q : Nat) : gB (R : Int) p q = gN R p q := by
  have e : ∀ t : Nat, (R : Int) / 2 ^ t % 2 = if R.testBit t then 1 else 0 := fun t => by
    cases h : R.testBit t
    · exact (hit_nat R false t).2 h
    · exact (hit_nat R true t).2 h
  unfold gB gN
  rw [e, e]
  cases R.testBit (2 * (p / 4) + q / 4 % 2) <;> cases R.testBit (2 * (p % 4) + q % 4 % 2) <;> rfl
theorem cert (R : Nat) (hR : R < 256) : (∀ f n, many (R : Int) f n = 4) ∨ ((∃ l, SFL R 15 l = 0) ∧ ∃ W, Cl (R : Int) W ∧ ∃ p, p < 16 ∧ W p = true ∧ p / 4 ≠ p % 4) := by
  obtain ⟨c, hc⟩ := okAll_at crts 0 R crts_ok (by rw [crts_len]; exact hR)
  rw [Nat.zero_add] at hc
  cases c with
  | all L => exact .inl fun f n => (many_four hc f n).1
  | none l W =>
    unfold okC at hc
    rw [Bool.and_eq_true, Bool.and_eq_true, beq_iff_eq, List.all_eq_true, List.any_eq_true] at hc
    obtain ⟨⟨h1, h2⟩, p, hp, h3⟩ := hc
    rw [Bool.and_eq_true] at h3
    refine .inr ⟨⟨l, h1⟩, fun i => W.testBit i, fun p hp hw => ?_, p, List.mem_range.1 hp, h3.1, by simpa using h3.2⟩
    have h4 := h2 p (List.mem_range.2 hp)
    have hw' : W.testBit p = true := hw
    rw [hw', Bool.not_true, Bool.false_or, Bool.and_eq_true, List.any_eq_true, List.any_eq_true] at h4
    obtain ⟨⟨q, hq, h5⟩, q', hq', h6⟩ := h4
    rw [Bool.and_eq_true] at h5 h6
    exact ⟨⟨q, List.mem_range.1 hq, h5.1, by rw [gN_eq]; exact h5.2⟩, q', List.mem_range.1 hq', h6.1, by rw [gN_eq]; exact h6.2⟩
end Go.Proofs.Ytnagdnbdpknniaa
