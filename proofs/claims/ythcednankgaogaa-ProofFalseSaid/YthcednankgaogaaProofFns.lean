/- What proof.wrong, proof.line, proof.fold and proof.Value compute, and the references' SumCheck and Dice. Conditions: as each theorem states. -/
import Derived.Test.YthcednankgaogaaInside
import Derived.Test.YthcednankgaogaaApp
import Derived.Test.YthcednankgaogaaProofMath
import Derived.WalkSpells
import Derived.WalkLawsBesides
import Derived.BigQuiet
import Derived.Deep.QuietTactic
import Derived.Deep.RegionLaw
namespace Go.Proofs.Ythcednankgaogaa
open ProofM Go.ChangeShapes Go.WideShapes Go.ChangeAt Go.RowKit
set_option linter.unusedVariables false
theorem EI : Elem Try.prog 22 3 1 8 := Elem.of Try.underlying22 (by kernel_rfl : (Try.prog.info? 3).map (fun i => (i.zero, i.size, i.bytes)) = some (some (.int .i64 0), 1, 8)) rfl (by omega)
def prE (n : Int) (m : Nat) (f : Nat → Int) : Int := if 1 ≤ n ∧ n ≤ 4 then (if m = 2 ^ n.toNat then (if insB 7 m f = true then 0 else 4) else 3) else 1
set_option maxRecDepth 100000 in
theorem bad_any (x : Int) (w : World) : Calls Try.prog 19 #[.int .i64 x] w fun e w' => e = .returned (.bool (!(inB 0 x 6))) ∧ w = w' := by
  by_cases h0 : x < 0
  · rw [inB_no (by omega)]
    go_enter Try.func19, Try.ntmps19
    go_wp2_with fail
    go_ret
    exact ⟨rfl, rfl⟩
  · by_cases h1 : 7 ≤ x
    · rw [inB_no (by omega)]
      go_enter Try.func19, Try.ntmps19
      go_wp2_with fail
      go_ret
      exact ⟨rfl, rfl⟩
    · rw [inB_yes (by omega) (by omega)]
      go_enter Try.func19, Try.ntmps19
      go_wp2_with fail
      go_ret
      exact ⟨rfl, rfl⟩
def IdxRes (m : Nat) (f : Nat → Int) (w : World) (e : Ending) (w' : World) : Prop :=
  w = w' ∧ ((insB 7 m f = true ∧ e = .returned (.int .i64 (-1))) ∨ ∃ k : Nat, k < m ∧ insB 7 m f = false ∧ e = .returned (.int .i64 k))
set_option maxRecDepth 100000 in
theorem index_any (A : Option Addr) (m c : Nat) (f : Nat → Int) (w : World) (h : Rd w A m (fun i => .int .i64 (f i))) (hm : m ≤ maxLen) :
    Calls Try.prog 25 #[.slice A m c, .func (.func 19) #[] #[]] w (IdxRes m f w) := by
  unfold maxLen at hm
  go_enter Try.func25, Try.ntmps25
  go_wp2_with fail
  go_loop [8] (fun i => ∃ k : Nat, k ≤ m ∧ i = .int .i64 k ∧ insB 7 k f = true) (fun i => m - (intOf i).toNat)
  case atStart => exact ⟨0, Nat.zero_le _, rfl, insB_iff.2 fun j hj => absurd hj (Nat.not_lt_zero _)⟩
  case round =>
    obtain ⟨k, hk, rfl, hall0⟩ := hrel
    have hall := Lib.hid hall0
    clear hall0
    by_cases hlt : k < m
    · obtain ⟨b, off, rfl, _, hc⟩ := h.at_ hlt
      have H := Lib.hid h
      clear h
      by_cases hr : 0 ≤ f k ∧ f k ≤ 6
      · have hi := inB_yes hr.1 hr.2
        have HR := Lib.hid hr
        clear hr
        go_wp2_with (go_at_call 19; refine (bad_any _ _).mono ?_; rintro e w' ⟨rfl, rfl⟩)
        go_round
        case rel => exact ⟨k + 1, by omega, by go_num, insB_iff.2 fun j hj => by
          by_cases e : j = k
          · subst e; have := HR.out; omega
          · exact insB_iff.1 hall.out j (by omega)⟩
        case measure => simp [intOf]; omega
      · have hi := inB_no hr
        have HR := Lib.hid hr
        clear hr
        go_wp2_with (go_at_call 19; refine (bad_any _ _).mono ?_; rintro e w' ⟨rfl, rfl⟩)
        go_ret
        exact ⟨rfl, .inr ⟨k, hlt, insB_no hlt (by have := HR.out; omega), rfl⟩⟩
    · obtain rfl : k = m := by omega
      go_wp2_with fail
      go_ret
      exact ⟨rfl, .inl ⟨hall.out, rfl⟩⟩
set_option maxRecDepth 100000 in
theorem contains_any (A : Option Addr) (m c : Nat) (f : Nat → Int) (w : World) (h : Rd w A m (fun i => .int .i64 (f i))) (hm : m ≤ maxLen) :
    Calls Try.prog 18 #[.slice A m c, .func (.func 19) #[] #[]] w fun e w' => e = .returned (.bool (!insB 7 m f)) ∧ w = w' := by
  have H := Lib.hid h
  clear h
  go_enter Try.func18, Try.ntmps18
  go_wp2_with fail
  refine (index_any A m c f w H.out hm).mono ?_
  rintro e w' ⟨rfl, ⟨hok, rfl⟩ | ⟨k, hk, hok, rfl⟩⟩
  · have HO := Lib.hid hok
    clear hok
    go_wp2_with fail
    go_ret
    exact ⟨ret_bool (by rw [HO.out]; rfl), rfl⟩
  · have HO := Lib.hid hok
    clear hok
    go_wp2_with fail
    go_ret
    exact ⟨ret_bool (by rw [HO.out]; rfl), rfl⟩
theorem pow_bd {N : Nat} (h : N ≤ 4) : (1 : Int) ≤ 2 ^ N ∧ (2 : Int) ^ N ≤ 16 ∧ 1 ≤ 2 ^ N ∧ 2 ^ N ≤ 16 := by
  match N, h with
  | 0, _ => decide
  | 1, _ => decide
  | 2, _ => decide
  | 3, _ => decide
  | 4, _ => decide
set_option maxRecDepth 100000 in
theorem wrong_any (n : Int) (A : Option Addr) (m c : Nat) (f : Nat → Int) (w : World) (h : Rd w A m (fun i => .int .i64 (f i))) (hm : m ≤ maxLen) :
    Calls Try.prog 17 #[.int .i64 n, .slice A m c] w fun e w' => e = .returned (.int .i64 (prE n m f)) ∧ w = w' := by
  have H := Lib.hid h
  have HM := Lib.hid hm
  unfold maxLen at hm
  clear h
  unfold prE
  by_cases hn : 1 ≤ n ∧ n ≤ 4
  · rw [if_pos hn]
    obtain ⟨n0, n4⟩ := hn
    obtain ⟨N, rfl⟩ := Int.eq_ofNat_of_zero_le (show 0 ≤ n by omega)
    obtain ⟨p0, p1, _, _⟩ := pow_bd (N := N) (by omega)
    rw [Int.toNat_natCast]
    by_cases he : m = 2 ^ N
    · rw [if_pos he]
      have hq : ((m : Int) != 2 ^ N) = false := by rw [bne_eq_false_iff_eq, he]; simp
      cases hb : insB 7 m f with
      | true =>
        rw [if_pos rfl]
        clear he
        go_enter Try.func17, Try.ntmps17
        go_wp2_with (go_at_call 18; refine (contains_any A m c f w H.out HM.out).mono ?_; rintro e w' ⟨rfl, rfl⟩)
        go_ret
        exact ⟨rfl, rfl⟩
      | false =>
        rw [if_neg (by simp)]
        clear he
        go_enter Try.func17, Try.ntmps17
        go_wp2_with (go_at_call 18; refine (contains_any A m c f w H.out HM.out).mono ?_; rintro e w' ⟨rfl, rfl⟩)
        go_ret
        exact ⟨rfl, rfl⟩
    · rw [if_neg he]
      have hq : ((m : Int) != 2 ^ N) = true := by rw [bne_iff_ne]; intro hh; exact he (by exact_mod_cast hh)
      clear he
      go_enter Try.func17, Try.ntmps17
      go_wp2_with fail
      go_ret
      exact ⟨rfl, rfl⟩
  · rw [if_neg hn]
    by_cases h0 : n < 1
    · clear hn
      go_enter Try.func17, Try.ntmps17
      go_wp2_with fail
      go_ret
      exact ⟨rfl, rfl⟩
    · have h1 : 4 < n := by omega
      clear hn
      go_enter Try.func17, Try.ntmps17
      go_wp2_with fail
      go_ret
      exact ⟨rfl, rfl⟩
set_option maxRecDepth 100000 in
theorem sumCheck_any (n : Int) (A : Option Addr) (m c : Nat) (f : Nat → Int) (w : World) (h : Rd w A m (fun i => .int .i64 (f i))) (hm : m ≤ maxLen) :
    Calls Try.prog 16 #[.int .i64 n, .slice A m c] w fun e w' => e = .returned (.int .i64 (prE n m f)) ∧ w = w' := by
  have H := Lib.hid h
  have HM := Lib.hid hm
  unfold maxLen at hm
  clear h
  unfold prE
  by_cases hn : 1 ≤ n ∧ n ≤ 4
  · rw [if_pos hn]
    have hi := inB_yes hn.1 hn.2
    obtain ⟨n0, n4⟩ := hn
    obtain ⟨N, rfl⟩ := Int.eq_ofNat_of_zero_le (show 0 ≤ n by omega)
    obtain ⟨p0, p1, _, _⟩ := pow_bd (N := N) (by omega)
    rw [Int.toNat_natCast]
    by_cases he : m = 2 ^ N
    · rw [if_pos he]
      have hq : ((m : Int) != 2 ^ N) = false := by rw [bne_eq_false_iff_eq, he]; simp
      cases hb : insB 7 m f with
      | true =>
        rw [if_pos rfl]
        clear he
        go_enter Try.func16, Try.ntmps16
        go_wp2_with (first
          | (go_at_call 24; refine (within_any _ _ _ _).mono ?_; rintro e w' ⟨rfl, rfl⟩)
          | (go_at_call 9; refine (inside_any 7 A m c f w H.out HM.out).mono ?_; rintro e w' ⟨rfl, rfl⟩))
        go_ret
        exact ⟨rfl, rfl⟩
      | false =>
        rw [if_neg (by simp)]
        clear he
        go_enter Try.func16, Try.ntmps16
        go_wp2_with (first
          | (go_at_call 24; refine (within_any _ _ _ _).mono ?_; rintro e w' ⟨rfl, rfl⟩)
          | (go_at_call 9; refine (inside_any 7 A m c f w H.out HM.out).mono ?_; rintro e w' ⟨rfl, rfl⟩))
        go_ret
        exact ⟨rfl, rfl⟩
    · rw [if_neg he]
      have hq : ((m : Int) != 2 ^ N) = true := by rw [bne_iff_ne]; intro hh; exact he (by exact_mod_cast hh)
      clear he
      go_enter Try.func16, Try.ntmps16
      go_wp2_with (go_at_call 24; refine (within_any _ _ _ _).mono ?_; rintro e w' ⟨rfl, rfl⟩)
      go_ret
      exact ⟨rfl, rfl⟩
  · rw [if_neg hn]
    have hi := inB_no hn
    clear hn
    go_enter Try.func16, Try.ntmps16
    go_wp2_with (go_at_call 24; refine (within_any _ _ _ _).mono ?_; rintro e w' ⟨rfl, rfl⟩)
    go_ret
    exact ⟨rfl, rfl⟩
def isZ (x : Int) : Bool := x == 0
set_option maxRecDepth 100000 in
theorem proved_any (n : Int) (A : Option Addr) (m c : Nat) (f : Nat → Int) (w : World) (h : Rd w A m (fun i => .int .i64 (f i))) (hm : m ≤ maxLen) :
    Calls Try.prog 6 #[.int .i64 n, .slice A m c] w fun e w' => e = .returned (.bool (isZ (prE n m f))) ∧ w = w' := by
  have H := Lib.hid h
  clear h
  go_enter Try.func6, Try.ntmps6
  go_wp2_with (go_at_call 16; refine (sumCheck_any n A m c f w H.out hm).mono ?_; rintro e w' ⟨rfl, rfl⟩)
  go_ret
  exact ⟨rfl, rfl⟩
set_option maxRecDepth 100000 in
theorem line_any (p q x : Int) (w : World) (hp : 0 ≤ p ∧ p ≤ 6) (hq : 0 ≤ q ∧ q ≤ 6) (hx : 0 ≤ x ∧ x ≤ 6) :
    Calls Try.prog 26 #[.agg #[.int .i64 p, .int .i64 q], .int .i64 x] w fun e w' => e = .returned (.int .i64 (LN p q x)) ∧ Below w.heap.size w w' := by
  have m1 := mul_bd (x := p) (X := 6) (y := 8 - x) (Y := 8) ⟨by omega, by omega⟩ ⟨by omega, by omega⟩
  have m2 := mul_bd (x := q) (X := 6) (y := x) (Y := 6) ⟨by omega, by omega⟩ ⟨by omega, by omega⟩
  have g1 : 0 ≤ p * (8 - x) := Int.mul_nonneg (by omega) (by omega)
  have g2 : 0 ≤ q * x := Int.mul_nonneg (by omega) (by omega)
  have w1 : IntKind.i64.wrap (8 - x) = 8 - x := IntWalk.i64_in _ (by omega)
  have w2 : IntKind.i64.wrap (p * (8 - x)) = p * (8 - x) := IntWalk.i64_in _ (by omega)
  have w3 : IntKind.i64.wrap (q * x) = q * x := IntWalk.i64_in _ (by omega)
  have w4 : IntKind.i64.wrap (p * (8 - x) + q * x) = p * (8 - x) + q * x := IntWalk.i64_in _ (by omega)
  have w5 : (p * (8 - x) + q * x).tmod 7 = (p * (8 - x) + q * x) % 7 := Int.tmod_eq_emod_of_nonneg (by omega)
  have w6 : IntKind.i64.wrap ((p * (8 - x) + q * x) % 7) = (p * (8 - x) + q * x) % 7 := IntWalk.i64_in _ (by omega)
  clear m1 m2 g1 g2 hp hq hx
  go_enter Try.func26, Try.ntmps26
  go_wp2_with fail
  go_ret
  exact ⟨rfl, (Below.refl _ _).alloc (Nat.le_refl _) _⟩
end Go.Proofs.Ythcednankgaogaa
