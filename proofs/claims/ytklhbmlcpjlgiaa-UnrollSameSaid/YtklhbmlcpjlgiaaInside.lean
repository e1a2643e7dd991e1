/- What the references' Within, Inside and Ints compute: contracts. Conditions: the slices read as functions of the index, as each theorem states. -/
import Derived.Test.YtklhbmlcpjlgiaaLib
namespace Go.Proofs.Ytklhbmlcpjlgiaa
open Go.ChangeShapes Go.WideShapes Go.ChangeAt Go.RowKit
set_option linter.unusedVariables false
def inB (l x h : Int) : Bool := decide (l ≤ x ∧ x ≤ h)
theorem inB_yes {l x h : Int} (a : l ≤ x) (b : x ≤ h) : inB l x h = true := by simp [inB, a, b]
theorem inB_no {l x h : Int} (a : ¬ (l ≤ x ∧ x ≤ h)) : inB l x h = false := by simp only [inB, a, decide_false]
theorem inB_iff {l x h : Int} : inB l x h = true ↔ (l ≤ x ∧ x ≤ h) := by simp [inB]
theorem within_any (l x h : Int) (w : World) :
    Calls Try.prog 7 #[.int .i64 l, .int .i64 x, .int .i64 h] w fun e w' => e = .returned (.bool (inB l x h)) ∧ w = w' := by
  by_cases h1 : l ≤ x
  · by_cases h2 : x ≤ h
    · rw [inB_yes h1 h2]
      go_enter Try.func7, Try.ntmps7
      go_wp2
      go_ret
      exact ⟨rfl, rfl⟩
    · rw [inB_no (by omega)]
      go_enter Try.func7, Try.ntmps7
      go_wp2
      go_ret
      exact ⟨rfl, rfl⟩
  · rw [inB_no (by omega)]
    go_enter Try.func7, Try.ntmps7
    go_wp2
    go_ret
    exact ⟨rfl, rfl⟩

/-- all from 0 to below N -/
def insB (N : Int) (n : Nat) (f : Nat → Int) : Bool := decide (∀ i, i < n → 0 ≤ f i ∧ f i < N)
theorem insB_iff {N : Int} {n : Nat} {f : Nat → Int} : insB N n f = true ↔ ∀ i, i < n → 0 ≤ f i ∧ f i < N := by simp [insB]
theorem insB_no {N : Int} {n : Nat} {f : Nat → Int} {k : Nat} (hk : k < n) (h : ¬ (0 ≤ f k ∧ f k < N)) : insB N n f = false := by
  simp only [insB, decide_eq_false_iff_not]; exact fun hh => h (hh k hk)
theorem inside_any (N : Int) (A : Option Addr) (n c : Nat) (f : Nat → Int) (w : World) (h : Rd w A n (fun i => .int .i64 (f i))) (hn : n ≤ maxLen) :
    Calls Try.prog 20 #[.int .i64 N, .slice A n c] w fun e w' => e = .returned (.bool (insB N n f)) ∧ w = w' := by
  unfold maxLen at hn
  go_enter Try.func20, Try.ntmps20
  go_wp2
  go_loop [9] (fun i => ∃ k : Nat, k ≤ n ∧ i = .int .i64 k ∧ ∀ j, j < k → 0 ≤ f j ∧ f j < N) (fun i => n - (intOf i).toNat)
  case atStart => exact ⟨0, Nat.zero_le _, rfl, fun j hj => absurd hj (Nat.not_lt_zero _)⟩
  case round =>
    obtain ⟨k, hk, rfl, hall0⟩ := hrel
    have hall := Lib.hid hall0
    clear hall0
    by_cases hlt : k < n
    · obtain ⟨b, off, rfl, _, hc⟩ := h.at_ hlt
      have H := Lib.hid h
      clear h
      by_cases h0 : f k < 0
      · go_wp2
        go_ret
        exact ⟨ret_bool (insB_no hlt (by omega)).symm, rfl⟩
      · by_cases h1 : N ≤ f k
        · go_wp2
          go_ret
          exact ⟨ret_bool (insB_no hlt (by omega)).symm, rfl⟩
        · go_wp2
          go_round
          case rel => exact ⟨k + 1, by omega, by go_num, fun j hj => by
            by_cases e : j = k
            · subst e; omega
            · exact hall.out j (by omega)⟩
          case measure => simp [intOf]; omega
    · obtain rfl : k = n := by omega
      go_wp2
      go_ret
      exact ⟨ret_bool (insB_iff.2 hall.out).symm, rfl⟩
end Go.Proofs.Ytklhbmlcpjlgiaa
