/- hasWord; half of all checks let a set pass that is not the empty one. No condition. -/
import Derived.Test.YtmnleblbandghaaLoneSieve3
namespace Go.Proofs.Ytmnleblbandghaa
open Go.ChangeShapes Go.WideShapes Go.ChangeAt Go.RowKit
set_option linter.unusedVariables false
set_option maxRecDepth 100000 in
theorem has_any (A : Option Addr) (m c : Nat) (G : Nat → Nat) (X : Nat) (w : World) (h : Rd w A m (fun i => .int .u32 (G i : Nat))) (hm : m ≤ maxLen) :
    Calls Try.prog 9 #[.slice A m c, .int .u32 X] w fun e w' => e = .returned (.bool (anyB (fun i => G i == X) m)) ∧ w = w' := by
  unfold maxLen at hm
  have H := Lib.hid h
  clear h
  go_enter Try.func9, Try.ntmps9
  go_wp2_with fail
  go_loop [9] (fun s9 => ∃ k : Nat, k ≤ m ∧ s9 = .int .i64 k ∧ Hid (∀ j, j < k → (G j == X) = false)) (fun s9 => m - (intOf s9).toNat)
  case atStart => exact ⟨0, Nat.zero_le _, rfl, Lib.hid (fun j hj => absurd hj (Nat.not_lt_zero _))⟩
  case round =>
    obtain ⟨k, hk, rfl, HA⟩ := hrel
    by_cases hlt : k < m
    · obtain ⟨b, off, rfl, _, hc⟩ := H.out.at_ hlt
      by_cases he : G k = X
      · have q : ((G k : Int) == (X : Int)) = true := by simp [he]
        have HE := Lib.hid he
        clear he
        go_wp2_with fail
        go_ret
        exact ⟨ret_bool (anyB_yes hlt (by simp [HE.out])).symm, rfl⟩
      · have q : ((G k : Int) == (X : Int)) = false := by simp; omega
        have HE := Lib.hid he
        clear he
        go_wp2_with fail
        go_round
        case rel => exact ⟨k + 1, by omega, by go_num, Lib.hid (fun j hj => by
          by_cases e : j = k
          · subst e; simp [HE.out]
          · exact HA.out j (by omega))⟩
        case measure => simp [intOf]; omega
    · obtain rfl : k = m := by omega
      go_wp2_with fail
      go_ret
      exact ⟨ret_bool (anyB_no HA.out).symm, rfl⟩
/-- how many of the first c checks let the set x pass -/
def halfN (x : Nat) : Nat → Nat
  | 0 => 0
  | c + 1 => halfN x c + if notP x c then 0 else 1
def halfOk (n x : Nat) : Bool := if x = 0 then halfN x (2 ^ n) == 2 ^ n else 2 * halfN x (2 ^ n) == 2 ^ n
theorem half_all : (List.range 6).all (fun n => (List.range (2 ^ n)).all fun x => halfOk n x) = true := by decide +kernel
theorem half_of {n x : Nat} (hn : n ≤ 5) (hx : x < 2 ^ n) : (x = 0 → halfN x (2 ^ n) = 2 ^ n) ∧ (x ≠ 0 → 2 * halfN x (2 ^ n) = 2 ^ n) := by
  have h1 := List.all_eq_true.1 half_all n (List.mem_range.2 (by omega))
  have h2 := List.all_eq_true.1 h1 x (List.mem_range.2 hx)
  unfold halfOk at h2
  constructor
  · intro e; rw [if_pos e] at h2; exact beq_iff_eq.1 h2
  · intro e; rw [if_neg e] at h2; exact beq_iff_eq.1 h2
theorem halfN_le (x : Nat) : ∀ c, halfN x c ≤ c
  | 0 => Nat.le_refl _
  | c + 1 => by have := halfN_le x c; show halfN x c + (if notP x c then 0 else 1) ≤ _; split <;> omega
/-- a set that is there just if it passes -/
theorem svd_has {S Q G : Nat → Nat} {q m cn : Nat} (h : Svd (okS S Q q) S m cn G) {i : Nat} (hi : i < m) (hd : ∀ j, j < m → S j = S i → j = i) : anyB (fun t => G t == S i) cn = okS S Q q i := by
  cases ho : okS S Q q i
  · refine anyB_no fun t ht => ?_
    obtain ⟨j, hj, h1, h2⟩ := h.of t ht
    rw [beq_eq_false_iff_ne]
    intro e
    have := hd j hj (by rw [← h1]; exact e)
    subst this
    rw [ho] at h2; cases h2
  · obtain ⟨t, ht, h1⟩ := h.all i hi ho
    exact anyB_yes ht (by simp [h1])
theorem anyB_cat {p : Nat → Bool} {a b : Nat} : anyB p (a + b) = (anyB p a || anyB (fun i => p (a + i)) b) := by
  rw [Bool.eq_iff_iff, Bool.or_eq_true]
  unfold anyB
  simp only [decide_eq_true_eq]
  constructor
  · rintro ⟨i, hi, h⟩
    by_cases e : i < a
    · exact .inl ⟨i, e, h⟩
    · exact .inr ⟨i - a, by omega, by rw [show a + (i - a) = i by omega]; exact h⟩
  · rintro (⟨i, hi, h⟩ | ⟨i, hi, h⟩)
    · exact ⟨i, by omega, h⟩
    · exact ⟨a + i, by omega, h⟩
end Go.Proofs.Ytmnleblbandghaa
