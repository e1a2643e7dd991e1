/- What the references' TableCheck and the statements' tabled compute. Condition: the slice reads as a function of its index. -/
import Derived.Test.YthaabgknolahaaaInside
import Derived.Test.YthaabgknolahaaaApp
namespace Go.Proofs.Ythaabgknolahaaa
open Go.ChangeShapes Go.WideShapes Go.ChangeAt Go.RowKit
set_option linter.unusedVariables false
def tabE (n : Int) (m : Nat) (x : Int) : Int := if 0 ≤ n ∧ n ≤ 4 then (if m = 2 ^ n.toNat then (if 0 ≤ x ∧ x < m then 0 else 4) else 3) else 1
theorem tpow_bd {N : Nat} (h : N ≤ 4) : (1 : Int) ≤ 2 ^ N ∧ (2 : Int) ^ N ≤ 16 ∧ 1 ≤ 2 ^ N ∧ 2 ^ N ≤ 16 := by
  match N, h with
  | 0, _ => decide
  | 1, _ => decide
  | 2, _ => decide
  | 3, _ => decide
  | 4, _ => decide
set_option maxRecDepth 100000 in
theorem tableCheck_any (n x : Int) (A : Option Addr) (m c : Nat) (w : World) (hm : m ≤ maxLen) :
    Calls Try.prog 19 #[.int .i64 n, .slice A m c, .int .i64 x] w fun e w' => e = .returned (.int .i64 (tabE n m x)) ∧ Below w.heap.size w w' := by
  unfold maxLen at hm
  unfold tabE
  by_cases hn : 0 ≤ n ∧ n ≤ 4
  · rw [if_pos hn]
    have hi := inB_yes hn.1 hn.2
    obtain ⟨n0, n4⟩ := hn
    obtain ⟨N, rfl⟩ := Int.eq_ofNat_of_zero_le n0
    obtain ⟨p0, p1, _, _⟩ := tpow_bd (N := N) (by omega)
    rw [Int.toNat_natCast]
    by_cases he : m = 2 ^ N
    · rw [if_pos he]
      have hq : ((m : Int) != 2 ^ N) = false := by rw [bne_eq_false_iff_eq, he]; simp
      by_cases hx : 0 ≤ x ∧ x < m
      · have hins : insB (m : Int) 1 (fun _ => x) = true := insB_iff.2 fun i _ => hx
        rw [if_pos hx]
        clear he hx
        go_enter Try.func19, Try.ntmps19
        go_wp2_with (first
          | (go_at_call 23; refine (within_any _ _ _ _).mono ?_; rintro e w' ⟨rfl, rfl⟩)
          | (go_at_call 24; refine (inside_any _ _ 1 1 (fun _ => x) _ (Rd.one _ _ _) (by decide)).mono ?_; rintro e w' ⟨rfl, rfl⟩))
        go_ret
        exact ⟨rfl, (Below.refl _ _).alloc (Nat.le_refl _) _⟩
      · have hins : insB (m : Int) 1 (fun _ => x) = false := insB_no (k := 0) (by omega) hx
        rw [if_neg hx]
        clear he hx
        go_enter Try.func19, Try.ntmps19
        go_wp2_with (first
          | (go_at_call 23; refine (within_any _ _ _ _).mono ?_; rintro e w' ⟨rfl, rfl⟩)
          | (go_at_call 24; refine (inside_any _ _ 1 1 (fun _ => x) _ (Rd.one _ _ _) (by decide)).mono ?_; rintro e w' ⟨rfl, rfl⟩))
        go_ret
        exact ⟨rfl, (Below.refl _ _).alloc (Nat.le_refl _) _⟩
    · rw [if_neg he]
      have hq : ((m : Int) != 2 ^ N) = true := by rw [bne_iff_ne]; intro hh; exact he (by exact_mod_cast hh)
      clear he
      go_enter Try.func19, Try.ntmps19
      go_wp2_with (go_at_call 23; refine (within_any _ _ _ _).mono ?_; rintro e w' ⟨rfl, rfl⟩)
      go_ret
      exact ⟨rfl, Below.refl _ _⟩
  · rw [if_neg hn]
    have hi := inB_no hn
    clear hn
    go_enter Try.func19, Try.ntmps19
    go_wp2_with (go_at_call 23; refine (within_any _ _ _ _).mono ?_; rintro e w' ⟨rfl, rfl⟩)
    go_ret
    exact ⟨rfl, Below.refl _ _⟩
def zeroB (x : Int) : Bool := x == 0
set_option maxRecDepth 100000 in
theorem tabled_any (n : Int) (A : Option Addr) (m c : Nat) (w : World) (hm : m ≤ maxLen) :
    Calls Try.prog 10 #[.int .i64 n, .slice A m c] w fun e w' => e = .returned (.bool (zeroB (tabE n m 0))) ∧ Below w.heap.size w w' := by
  go_enter Try.func10, Try.ntmps10
  go_wp2_with fail
  refine (tableCheck_any n 0 A m c w hm).mono ?_
  rintro e w' ⟨rfl, hb⟩
  go_wp2_with fail
  go_ret
  exact ⟨rfl, hb⟩
end Go.Proofs.Ythaabgknolahaaa
