/- Pairing and its inverse are inverse to each other. No condition: every two integers, and every number. -/
import Derived.Test.YtgcbbajfcccphaaPairFns
namespace Go.Proofs.Ytgcbbajfcccphaa.pairBack
open Go.ChangeShapes Go.WideShapes Go.ChangeAt Go.RowKit PairM
set_option linter.unusedVariables false
theorem walk (w : World) (a b n : Int) (w0 : (Lit.int .i64 a).wf = true) (w1 : (Lit.int .i64 b).wf = true) (w2 : (Lit.int .i64 n).wf = true) :
    Calls Try.prog 5 #[.int .i64 a, .int .i64 b, .int .i64 n] w fun e w' => e = .returned (.bool true) ∧ Below w.heap.size w w' := by
  have hn := bounds_i64 w2
  obtain ⟨n0, n1⟩ := hn
  clear w0 w1 w2
  by_cases hr : (0 ≤ a ∧ a ≤ 1000000) ∧ 0 ≤ b ∧ b ≤ 1000000
  · obtain ⟨⟨a0, a1⟩, b0, b1⟩ := hr
    go_enter Try.func5, Try.ntmps5
    go_wp2_with fail
    refine (pair_ok _ _ _ a0 a1 b0 b1).mono ?_; rintro e w' ⟨rfl, rfl⟩
    go_wp2_with fail
    refine (open_ok _ _ _ a0 a1 b0 b1).mono ?_; rintro e w' ⟨rfl, rfl⟩
    go_wp2_with fail
    refine (open_any n _ n0 n1).mono ?_; rintro e w' ⟨rfl, ⟨rfl, hno⟩ | ⟨x, y, rfl, x0, x1, y0, y1, hx⟩⟩
    · clear hno
      go_wp2_with fail
      go_ret
      exact ⟨rfl, Below.refl _ _⟩
    · have hq : (tri (x + y) + y == n) = true := by rw [hx]; simp
      have h2 : (tri 1 + 1 == 2) = true := by decide
      clear hx
      go_wp2_with fail
      refine (pair_ok _ _ _ x0 x1 y0 y1).mono ?_; rintro e w' ⟨rfl, rfl⟩
      go_wp2_with fail
      refine (pair_ok _ _ _ (by omega) (by omega) (by omega) (by omega)).mono ?_; rintro e w' ⟨rfl, rfl⟩
      go_wp2_with fail
      go_ret
      exact ⟨rfl, Below.refl _ _⟩
  · have HR := Lib.hid hr
    clear hr
    go_enter Try.func5, Try.ntmps5
    go_wp2_with fail
    refine (pair_bad _ _ _ (by have := HR.out; omega)).mono ?_; rintro e w' ⟨rfl, rfl⟩
    go_wp2_with fail
    refine (open_any n _ n0 n1).mono ?_; rintro e w' ⟨rfl, ⟨rfl, hno⟩ | ⟨x, y, rfl, x0, x1, y0, y1, hx⟩⟩
    · clear hno
      go_wp2_with fail
      go_ret
      exact ⟨rfl, Below.refl _ _⟩
    · have hq : (tri (x + y) + y == n) = true := by rw [hx]; simp
      have h2 : (tri 1 + 1 == 2) = true := by decide
      clear hx
      go_wp2_with fail
      refine (pair_ok _ _ _ x0 x1 y0 y1).mono ?_; rintro e w' ⟨rfl, rfl⟩
      go_wp2_with fail
      refine (pair_ok _ _ _ (by omega) (by omega) (by omega) (by omega)).mono ?_; rintro e w' ⟨rfl, rfl⟩
      go_wp2_with fail
      go_ret
      exact ⟨rfl, Below.refl _ _⟩
end Go.Proofs.Ytgcbbajfcccphaa.pairBack
