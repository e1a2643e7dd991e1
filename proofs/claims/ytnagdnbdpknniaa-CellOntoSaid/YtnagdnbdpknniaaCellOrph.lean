/- What cell.Orphan computes. Conditions: as each theorem states. -/
import Derived.Test.YtnagdnbdpknniaaCellOrphan
namespace Go.Proofs.Ytnagdnbdpknniaa
open CellM Go.ChangeShapes Go.WideShapes Go.ChangeAt Go.RowKit
set_option linter.unusedVariables false
set_option maxRecDepth 100000 in
theorem orph_any (r : Int) (w : World) (r0 : 0 ≤ r) (r1 : r ≤ 255) :
    Calls Try.prog 11 #[.int .i64 r] w fun e w' => Below w.heap.size w w' ∧ ((∃ (A : Option Addr) (n c : Nat) (f : Nat → Bool), e = .returned (.tuple #[.slice A n c, .int .i64 0]) ∧ Rd w' A n (fun i => .bool (f i)) ∧ SF r f n = 0 ∧ 1 ≤ n ∧ n ≤ 16) ∨ e = .returned (.tuple #[.slice none 0 0, .int .i64 5])) := by
  have hr := inB_yes r0 r1
  go_enter Try.func11, Try.ntmps11
  go_wp2_with (go_at_call 14; refine (wrong_any _ _).mono ?_; rintro e w' ⟨rfl, rfl⟩)
  refine (orphan_any r _ r0 r1).mono ?_
  rintro e w1 ⟨hb, h⟩
  rcases h with ⟨A, n, c, f, rfl, ho, hz, h1, h2⟩ | ⟨rfl, hs⟩
  · have HO := Lib.hid ho
    have HZ := Lib.hid hz
    clear ho hz
    go_wp2_with fail
    go_ret2
    exact ⟨hb, .inl ⟨A, n, c, f, rfl, HO.out.rd, HZ.out, h1, h2⟩⟩
  · have HS := Lib.hid hs
    clear hs
    go_wp2_with fail
    go_ret2
    exact ⟨hb, .inr rfl⟩
theorem orph_wrong (r : Int) (w : World) (hr0 : ¬ (0 ≤ r ∧ r ≤ 255)) : Calls Try.prog 11 #[.int .i64 r] w fun e w' => e = .returned (.tuple #[.slice none 0 0, .int .i64 4]) ∧ w = w' := by
  have hr := inB_no hr0
  clear hr0
  go_enter Try.func11, Try.ntmps11
  go_wp2_with (go_at_call 14; refine (wrong_any _ _).mono ?_; rintro e w' ⟨rfl, rfl⟩)
  go_ret2
  exact ⟨rfl, rfl⟩
/-- what a ring says of the word at i, of the first j cells -/
def smO (r : Int) (n : Nat) (f g : Nat → Bool) (i : Nat) : Nat → Bool
  | 0 => true
  | j + 1 => smO r n f g i j && (st r n f ((i + j) % n) == g j)
theorem smO_true {r : Int} {n : Nat} {f g : Nat → Bool} {i : Nat} : ∀ {m : Nat}, smO r n f g i m = true → ∀ j, j < m → st r n f ((i + j) % n) = g j
  | 0, _, j, hj => absurd hj (Nat.not_lt_zero _)
  | m + 1, h, j, hj => by
    have h' : (smO r n f g i m && (st r n f ((i + m) % n) == g m)) = true := h
    rw [Bool.and_eq_true] at h'
    by_cases e : j = m
    · subst e; exact eq_of_beq h'.2
    · exact smO_true h'.1 j (by omega)
theorem smO_false {r : Int} {n m : Nat} {f g : Nat → Bool} (hn : 1 ≤ n) (hz : SF r g m = 0) (i : Nat) : smO r n f g i m = false := by
  cases h : smO r n f g i m
  · rfl
  · exact (not_orphan (r := r) (n := n) (f := f) hn hz i (smO_true h)).elim
end Go.Proofs.Ytnagdnbdpknniaa
