/- What guess.table, guess.Sums and guess.Apart compute. Conditions: the slice reads as a function of its index. -/
import Derived.Test.YtoodmoliglhpiaaTabled
import Derived.Test.YtoodmoliglhpiaaGuessLaw
import Derived.Test.YtoodmoliglhpiaaOnes
namespace Go.Proofs.Ytoodmoliglhpiaa
open WaveM Go.ChangeShapes Go.WideShapes Go.ChangeAt Go.RowKit
set_option linter.unusedVariables false
theorem xor_nat (a b : Nat) (ha : a < 9223372036854775808) (hb : b < 9223372036854775808) : bits .xor .i64 (a : Int) (b : Int) = ((a ^^^ b : Nat) : Int) := by
  have hx : a ^^^ b < 2 ^ 63 := Nat.xor_lt_two_pow (by omega) (by omega)
  show IntKind.i64.wrap ((BitVec.ofInt 64 (a : Int) ^^^ BitVec.ofInt 64 (b : Int)).toNat : Int) = _
  rw [BitVec.toNat_xor, ofInt64 a ha, ofInt64 b hb, IntKind.wrap_i64]
  omega
theorem tab_zero {n : Int} {m : Nat} (h : tabE n m 0 = 0) : ∃ N : Nat, n = N ∧ N ≤ 4 ∧ m = 2 ^ N := by
  unfold tabE at h
  by_cases hn : 0 ≤ n ∧ n ≤ 4
  · rw [if_pos hn] at h
    by_cases hm : m = 2 ^ n.toNat
    · exact ⟨n.toNat, by omega, by omega, hm⟩
    · rw [if_neg hm] at h; omega
  · rw [if_neg hn] at h; omega
set_option maxRecDepth 100000 in
theorem table_any (n : Int) (A : Option Addr) (m c : Nat) (w : World) (hm : m ≤ maxLen) :
    Calls Try.prog 22 #[.int .i64 n, .slice A m c] w fun e w' => e = .returned (.int .i64 (tabE n m 0)) ∧ w = w' := by
  unfold maxLen at hm
  unfold tabE
  by_cases hn : 0 ≤ n ∧ n ≤ 4
  · rw [if_pos hn]
    obtain ⟨n0, n4⟩ := hn
    obtain ⟨N, rfl⟩ := Int.eq_ofNat_of_zero_le n0
    obtain ⟨p0, p1, p2, p3⟩ := tpow_bd (N := N) (by omega)
    rw [Int.toNat_natCast]
    by_cases he : m = 2 ^ N
    · rw [if_pos he, if_pos (by omega)]
      have hq : ((m : Int) != 2 ^ N) = false := by rw [bne_eq_false_iff_eq, he]; simp
      clear he
      go_enter Try.func22, Try.ntmps22
      go_wp2_with fail
      go_ret
      exact ⟨rfl, rfl⟩
    · rw [if_neg he]
      have hq : ((m : Int) != 2 ^ N) = true := by rw [bne_iff_ne]; intro hh; exact he (by exact_mod_cast hh)
      clear he
      go_enter Try.func22, Try.ntmps22
      go_wp2_with fail
      go_ret
      exact ⟨rfl, rfl⟩
  · rw [if_neg hn]
    by_cases h1 : n < 0
    · clear hn
      go_enter Try.func22, Try.ntmps22
      go_wp2_with fail
      go_ret
      exact ⟨rfl, rfl⟩
    · have h2 : 4 < n := by omega
      clear hn
      go_enter Try.func22, Try.ntmps22
      go_wp2_with fail
      go_ret
      exact ⟨rfl, rfl⟩
set_option maxRecDepth 100000 in
theorem sums_bad (n : Int) (A : Option Addr) (m c : Nat) (w : World) (hm : m ≤ maxLen) (hv : tabE n m 0 ≠ 0) :
    Calls Try.prog 9 #[.int .i64 n, .slice A m c] w fun e w' => e = .returned (.tuple #[.int .i64 0, .int .i64 (tabE n m 0)]) ∧ w = w' := by
  have hq : (tabE n m 0 != 0) = true := by rw [bne_iff_ne]; exact hv
  clear hv
  go_enter Try.func9, Try.ntmps9
  go_wp2_with (go_at_call 22; refine (table_any n A m c _ hm).mono ?_; rintro e w' ⟨rfl, rfl⟩)
  go_ret2
  exact ⟨rfl, rfl⟩
theorem rowT_le (f : Nat → Bool) (m k : Nat) : rowT f m k ≤ k * m := by
  induction k with
  | zero => exact Nat.zero_le _
  | succ k ih => simp only [rowT]; have := cnI_le (tell f k) m; rw [Nat.add_mul]; omega
set_option maxRecDepth 100000 in
set_option maxHeartbeats 1000000 in
theorem sums_good (N : Nat) (A : Option Addr) (m c : Nat) (f : Nat → Bool) (w : World) (h : Rd w A m (fun i => .bool (f i))) (hN : N ≤ 4) (hm : m = 2 ^ N) :
    Calls Try.prog 9 #[.int .i64 N, .slice A m c] w fun e w' => e = .returned (.tuple #[.int .i64 (rowT f m m : Nat), .int .i64 0]) ∧ w = w' := by
  obtain ⟨_, _, p2, p3⟩ := tpow_bd hN
  have hm1 : 1 ≤ m := by omega
  have hm16 : m ≤ 16 := by omega
  have hv : tabE N m 0 = 0 := by unfold tabE; rw [if_pos (by omega), Int.toNat_natCast, if_pos hm, if_pos (by omega)]
  have H := Lib.hid h
  have HM := Lib.hid hm
  clear h hm p2 p3
  go_enter Try.func9, Try.ntmps9
  go_wp2_with (go_at_call 22; refine (table_any N A m c _ (by unfold maxLen; omega)).mono ?_; rintro e w' ⟨rfl, rfl⟩)
  clear hv
  go_loop [7, 20] (fun s7 s20 => ∃ x : Nat, x ≤ m ∧ s20 = .int .i64 x ∧ s7 = .int .i64 (rowT f m x : Nat)) (fun _ s20 => m - (intOf s20).toNat)
  case atStart => exact ⟨0, Nat.zero_le _, rfl, rfl⟩
  case round =>
    obtain ⟨x, hx, rfl, rfl⟩ := hrel
    by_cases hlx : x < m
    · obtain ⟨b1, o1, rfl, _, cx⟩ := H.out.at_ hlx
      have hro := rowT_le f m x
      have hr16 : x * m ≤ 16 * 16 := Nat.mul_le_mul (by omega) hm16
      have hrn : rowT f m (x + 1) = rowT f m x + cnI (tell f x) m := rfl
      obtain ⟨R, hR⟩ : ∃ R, R = rowT f m x := ⟨_, rfl⟩
      rw [← hR] at hro hrn ⊢
      have hR256 : R ≤ 256 := by omega
      have HRN := Lib.hid hrn
      clear hR hrn hro hr16
      obtain ⟨a, ha⟩ : ∃ a, a = f x := ⟨_, rfl⟩
      rw [← ha] at cx
      have HA := Lib.hid ha
      clear ha
      go_wp2_with fail
      go_loop [7, 27] (fun s7 s27 => ∃ y : Nat, y ≤ m ∧ s27 = .int .i64 y ∧ s7 = .int .i64 ((R + cnI (tell f x) y : Nat) : Int)) (fun _ s27 => m - (intOf s27).toNat)
      case atStart => exact ⟨0, Nat.zero_le _, rfl, rfl⟩
      case round =>
        obtain ⟨y, hy, rfl, rfl⟩ := hrel
        by_cases hly : y < m
        · obtain ⟨b2, o2, e2, _, cy⟩ := H.out.at_ hly
          injection e2 with e2; injection e2 with eb eo; subst eb; subst eo
          have hxl := xor_lt N hN x (by rw [← HM.out]; exact hlx) y (by rw [← HM.out]; exact hly)
          rw [← HM.out] at hxl
          obtain ⟨b3, o3, e3, _, cz⟩ := H.out.at_ hxl
          injection e3 with e3; injection e3 with eb eo; subst eb; subst eo
          have hxr := xor_nat x y (by omega) (by omega)
          have hcl := cnI_le (tell f x) y
          have hcn : cnI (tell f x) (y + 1) = cnI (tell f x) y + (f (x ^^^ y) != (a != f y)).toNat := by rw [HA.out]; rfl
          obtain ⟨b, hb⟩ : ∃ b, b = f y := ⟨_, rfl⟩
          obtain ⟨d, hd⟩ : ∃ d, d = f (x ^^^ y) := ⟨_, rfl⟩
          obtain ⟨z, hz⟩ : ∃ z, z = x ^^^ y := ⟨_, rfl⟩
          rw [← hb] at cy hcn
          rw [← hd] at cz hcn
          rw [← hz] at cz hxr hxl
          obtain ⟨S, hS⟩ : ∃ S, S = cnI (tell f x) y := ⟨_, rfl⟩
          rw [← hS] at hcl hcn ⊢
          have HCN := Lib.hid hcn
          clear hcn hb hd hz hS
          cases a <;> cases b <;> cases d
          all_goals
            go_wp2_with fail
            go_round
            case rel => exact ⟨y + 1, by omega, by go_num, by rw [HCN.out]; first | rfl | go_num⟩
            case measure => simp [intOf]; omega
        · obtain rfl : y = m := by omega
          go_wp2_with fail
          go_round
          case rel => exact ⟨x + 1, by omega, by go_num, by rw [HRN.out]⟩
          case measure => simp [intOf]; omega
    · obtain rfl : x = m := by omega
      go_wp2_with fail
      go_ret2
      exact ⟨rfl, rfl⟩
end Go.Proofs.Ytoodmoliglhpiaa
