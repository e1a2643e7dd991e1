/- What the reference's Has says. Condition: the slice reads as told. -/
import Derived.Test.YtenlnkcmabphfaaPred
import Derived.WalkSpells
namespace Go.Proofs.Ytenlnkcmabphfaa
open Go.ChangeShapes Go.WideShapes Go.ChangeAt Go.RowKit
set_option linter.unusedVariables false
set_option linter.unusedSimpArgs false
def hasP (f : Nat → Int) (m : Nat) (x : Int) : Bool := anyB (fun i => f i == x) m
theorem hasP_iff {f : Nat → Int} {m : Nat} {x : Int} : hasP f m x = true ↔ ∃ i, i < m ∧ f i = x := by
  unfold hasP anyB
  rw [decide_eq_true_iff]
  exact ⟨fun ⟨i, a, b⟩ => ⟨i, a, by simpa using b⟩, fun ⟨i, a, b⟩ => ⟨i, a, by simpa using b⟩⟩
set_option maxRecDepth 100000 in
theorem refHasP_any (A : Option Addr) (m c : Nat) (f : Nat → Int) (x : Int) (w : World) (h : Rd w A m (fun i => .int .i64 (f i))) (hm : m ≤ maxLen) :
    Calls Try.prog 10 #[.slice A m c, .int .i64 x] w fun e w' => e = .returned (.bool (hasP f m x)) ∧ w = w' := by
  unfold maxLen at hm
  have H := Lib.hid h
  clear h
  go_enter Try.func10, Try.ntmps10
  go_wp2_with fail
  go_loop [9] (fun s9 => ∃ k : Nat, k ≤ m ∧ s9 = .int .i64 k ∧ Hid (∀ j, j < k → f j ≠ x)) (fun s9 => m - (intOf s9).toNat)
  case atStart => exact ⟨0, Nat.zero_le _, rfl, Lib.hid (fun j hj => absurd hj (Nat.not_lt_zero _))⟩
  case round =>
    obtain ⟨k, hk, rfl, HALL⟩ := hrel
    by_cases hlt : k < m
    · obtain ⟨b, off, rfl, _, hc⟩ := H.out.at_ hlt
      obtain ⟨y, hy⟩ : ∃ y, y = f k := ⟨_, rfl⟩
      rw [← hy] at hc
      have HY := Lib.hid hy
      clear hy
      by_cases hq : x = y
      · subst hq
        have HE : Hid (hasP f m x = true) := Lib.hid (hasP_iff.2 ⟨k, hlt, HY.out.symm⟩)
        go_wp2_with fail
        go_ret
        exact ⟨ret_bool HE.out.symm, rfl⟩
      · have hb : (x == y) = false := by simpa using hq
        have HQ := Lib.hid hq
        go_wp2_with fail
        go_round
        case rel => exact ⟨k + 1, by omega, by go_num, Lib.hid (fun j hj => by
          by_cases e : j = k
          · subst e; rw [← HY.out]; exact fun e => HQ.out e.symm
          · exact HALL.out j (by omega))⟩
        case measure => simp [intOf]; omega
    · obtain rfl : k = m := by omega
      have HE : Hid (hasP f k x = false) := Lib.hid (by
        cases e : hasP f k x
        · rfl
        · obtain ⟨j, hj, e⟩ := hasP_iff.1 e
          exact absurd e (HALL.out j hj))
      go_wp2_with fail
      go_ret
      exact ⟨ret_bool HE.out.symm, rfl⟩
end Go.Proofs.Ytenlnkcmabphfaa
