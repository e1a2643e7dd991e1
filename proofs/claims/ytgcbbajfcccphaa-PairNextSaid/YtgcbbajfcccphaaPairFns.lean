/- What pair.sums, pair.Pair, pair.Open and the references' Within compute: contracts of the functions. Conditions: the bounds of the arguments, as each theorem states. -/
import Derived.Test.YtgcbbajfcccphaaInside
import Derived.Test.YtgcbbajfcccphaaPairMath
import Derived.WalkKit
import Derived.ProofKit
import Derived.Outline
import Derived.Lib.Hide
namespace Go.Proofs.Ytgcbbajfcccphaa
open Go.ChangeShapes Go.WideShapes Go.ChangeAt Go.RowKit PairM
set_option linter.unusedVariables false

theorem sums_any (s : Int) (w : World) (h0 : 0 ≤ s) (h1 : s ≤ 2000001) :
    Calls Try.prog 12 #[.int .i64 s] w fun e w' => e = .returned (.int .i64 (tri s)) ∧ w = w' := by
  have hb := mul_bd h0 h1
  obtain ⟨hb0, hb1⟩ := hb
  go_enter Try.func12, Try.ntmps12
  go_wp2
  go_ret
  exact ⟨rfl, rfl⟩

theorem pair_ok (a b : Int) (w : World) (a0 : 0 ≤ a) (a1 : a ≤ 1000000) (b0 : 0 ≤ b) (b1 : b ≤ 1000000) :
    Calls Try.prog 6 #[.int .i64 a, .int .i64 b] w fun e w' => e = .returned (.tuple #[.int .i64 (tri (a + b) + b), .int .i64 0]) ∧ w = w' := by
  have hb := tri_bd (by omega : 0 ≤ a + b) (by omega)
  obtain ⟨hb0, hb1⟩ := hb
  go_enter Try.func6, Try.ntmps6
  go_wp2_with (go_at_call 12; refine (sums_any _ _ (by omega) (by omega)).mono ?_; rintro e w' ⟨rfl, rfl⟩)
  all_goals (go_ret2; exact ⟨rfl, rfl⟩)

theorem pair_bad (a b : Int) (w : World) (h : a < 0 ∨ b < 0 ∨ 1000000 < a ∨ 1000000 < b) :
    Calls Try.prog 6 #[.int .i64 a, .int .i64 b] w fun e w' => e = .returned (.tuple #[.int .i64 0, .int .i64 4]) ∧ w = w' := by
  by_cases hab : a < b
  · by_cases ha : a < 0
    · clear h
      go_enter Try.func6, Try.ntmps6
      go_wp2_with fail
      all_goals (go_ret2; exact ⟨rfl, rfl⟩)
    · have hb : 1000000 < b := by omega
      clear h
      go_enter Try.func6, Try.ntmps6
      go_wp2_with fail
      all_goals (go_ret2; exact ⟨rfl, rfl⟩)
  · by_cases hb : b < 0
    · clear h
      go_enter Try.func6, Try.ntmps6
      go_wp2_with fail
      all_goals (go_ret2; exact ⟨rfl, rfl⟩)
    · have ha : 1000000 < a := by omega
      clear h
      go_enter Try.func6, Try.ntmps6
      go_wp2_with fail
      all_goals (go_ret2; exact ⟨rfl, rfl⟩)

def OpenRes (n : Int) (w : World) (e : Ending) (w' : World) : Prop :=
  w = w' ∧ ((e = .returned (.tuple #[.int .i64 0, .int .i64 0, .int .i64 4]) ∧ ∀ a b : Int, 0 ≤ a → a ≤ 1000000 → 0 ≤ b → b ≤ 1000000 → n ≠ tri (a + b) + b) ∨
    ∃ x y : Int, e = .returned (.tuple #[.int .i64 x, .int .i64 y, .int .i64 0]) ∧ 0 ≤ x ∧ x ≤ 1000000 ∧ 0 ≤ y ∧ y ≤ 1000000 ∧ n = tri (x + y) + y)

theorem open_no {l n : Int} (l0 : 0 ≤ l) (c0 : tri l ≤ n) (b1 : n - tri l ≤ l) (hx : 1000000 < (if l - (n - tri l) < n - tri l then n - tri l else l - (n - tri l))) (a b : Int) (a0 : 0 ≤ a) (a1 : a ≤ 1000000) (b0 : 0 ≤ b) (b2 : b ≤ 1000000) : n ≠ tri (a + b) + b := by
  intro h
  have := tri_uniq l0 (by omega : 0 ≤ a + b) (by omega : 0 ≤ n - tri l) b1 b0 (by omega) (by omega)
  split at hx <;> omega
theorem open_yes {l n : Int} (l0 : 0 ≤ l) (c0 : tri l ≤ n) (b1 : n - tri l ≤ l) (hx : (if l - (n - tri l) < n - tri l then n - tri l else l - (n - tri l)) ≤ 1000000) :
    0 ≤ l - (n - tri l) ∧ l - (n - tri l) ≤ 1000000 ∧ 0 ≤ n - tri l ∧ n - tri l ≤ 1000000 ∧ n = tri (l - (n - tri l) + (n - tri l)) + (n - tri l) := by
  rw [Int.sub_add_cancel]
  split at hx <;> omega
theorem open_any (n : Int) (w : World) (hl : -9223372036854775808 ≤ n) (hh : n ≤ 9223372036854775807) :
    Calls Try.prog 11 #[.int .i64 n] w (OpenRes n w) := by
  by_cases h0 : n < 0
  · go_enter Try.func11, Try.ntmps11
    go_wp2_with fail
    go_ret3
    refine ⟨rfl, .inl ⟨rfl, fun a b a0 a1 b0 b1 h => ?_⟩⟩
    have := tri_bd (by omega : 0 ≤ a + b) (by omega); omega
  · have hb := tri_bd (by omega : (0 : Int) ≤ 2000001) (by omega)
    obtain ⟨hb0, hb1⟩ := hb
    by_cases h1 : n < tri 2000001
    · have start : tri 0 ≤ n := by have : tri 0 = 0 := rfl; omega
      have start1 : n < tri (2000000 + 1) := h1
      go_enter Try.func11, Try.ntmps11
      go_wp2_with (go_at_call 12; refine (sums_any _ _ (by omega) (by omega)).mono ?_; rintro e w' ⟨rfl, rfl⟩)
      go_loop [5, 6] (fun lo hi => ∃ l h : Int, 0 ≤ l ∧ l ≤ h ∧ h ≤ 2000000 ∧ tri l ≤ n ∧ n < tri (h + 1) ∧ lo = .int .i64 l ∧ hi = .int .i64 h) (fun lo hi => (intOf hi - intOf lo).toNat)
      case atStart => exact ⟨0, 2000000, by omega, by omega, by omega, start, start1, rfl, rfl⟩
      case round =>
        obtain ⟨l, h, l0, lh, h2, c0, c1, rfl, rfl⟩ := hrel
        by_cases hlt : l < h
        · have hm := tri_bd (by omega : 0 ≤ (l + h + 1) / 2) (by omega)
          obtain ⟨hm0, hm1⟩ := hm
          by_cases hc : tri ((l + h + 1) / 2) ≤ n
          · go_wp2_with (go_at_call 12; refine (sums_any _ _ (by omega) (by omega)).mono ?_; rintro e w' ⟨rfl, rfl⟩)
            go_round
            case rel => exact ⟨(l + h + 1) / 2, h, by omega, by omega, by omega, hc, c1, rfl, rfl⟩
            case measure => simp [intOf]; omega
          · go_wp2_with (go_at_call 12; refine (sums_any _ _ (by omega) (by omega)).mono ?_; rintro e w' ⟨rfl, rfl⟩)
            go_round
            case rel => exact ⟨l, (l + h + 1) / 2 - 1, by omega, by omega, by omega, c0, by rw [Int.sub_add_cancel]; omega, rfl, rfl⟩
            case measure => simp [intOf]; omega
        · have hs := tri_succ h
          have hl' : l = h := by omega
          subst hl'
          have hm := tri_bd l0 (by omega)
          obtain ⟨hm0, hm1⟩ := hm
          have b1 : n - tri l ≤ l := by omega
          have HS := Lib.hid hs
          clear hs hlt
          go_wp2_with (go_at_call 12; refine (sums_any _ _ (by omega) (by omega)).mono ?_; rintro e w' ⟨rfl, rfl⟩)
          all_goals first
            | (have hx : 1000000 < (if l - (n - tri l) < n - tri l then n - tri l else l - (n - tri l)) := by assumption
               go_ret3
               exact ⟨rfl, .inl ⟨rfl, open_no l0 c0 b1 hx⟩⟩)
            | (have hx : (if l - (n - tri l) < n - tri l then n - tri l else l - (n - tri l)) ≤ 1000000 := by assumption
               go_ret3
               exact ⟨rfl, .inr ⟨_, _, rfl, open_yes l0 c0 b1 hx⟩⟩)
    · go_enter Try.func11, Try.ntmps11
      go_wp2_with (go_at_call 12; refine (sums_any _ _ (by omega) (by omega)).mono ?_; rintro e w' ⟨rfl, rfl⟩)
      go_ret3
      refine ⟨rfl, .inl ⟨rfl, fun a b a0 a1 b0 b1 h => ?_⟩⟩
      have := tri_mono (by omega : 0 ≤ a + b + 1) (by omega : a + b + 1 ≤ 2000001)
      rw [tri_succ] at this; omega

theorem open_ok (a b : Int) (w : World) (a0 : 0 ≤ a) (a1 : a ≤ 1000000) (b0 : 0 ≤ b) (b1 : b ≤ 1000000) :
    Calls Try.prog 11 #[.int .i64 (tri (a + b) + b)] w fun e w' => e = .returned (.tuple #[.int .i64 a, .int .i64 b, .int .i64 0]) ∧ w = w' := by
  have hb := tri_bd (by omega : 0 ≤ a + b) (by omega)
  refine (open_any _ w (by omega) (by omega)).mono fun e w' h => ?_
  obtain ⟨hw, h | ⟨x, y, he, x0, x1, y0, y1, h⟩⟩ := h
  · exact absurd rfl (h.2 a b a0 a1 b0 b1)
  · obtain ⟨hs, hy⟩ := tri_uniq (by omega : 0 ≤ a + b) (by omega : 0 ≤ x + y) b0 (by omega) y0 (by omega) h
    obtain rfl : x = a := by omega
    obtain rfl : y = b := by omega
    exact ⟨he, hw⟩
end Go.Proofs.Ytgcbbajfcccphaa
