/- What math/bits.OnesCount tells of a number below 65536. Condition: the number is below 65536. -/
import Derived.Test.YtnfibchffbdmpaaLib
import Derived.Test.YtnfibchffbdmpaaBits
import Derived.Test.YtnfibchffbdmpaaOnesWChk
import Derived.IntWalk
namespace Go.Proofs.Ytnfibchffbdmpaa
open Go.ChangeShapes Go.WideShapes Go.ChangeAt Go.RowKit
set_option linter.unusedVariables false
set_option linter.unusedSimpArgs false
theorem andU (a b : Nat) (ha : a < 9223372036854775808) (hb : b < 9223372036854775808) : bits .and .u64 (a : Int) (b : Int) = ((a &&& b : Nat) : Int) := by
  have hx : a &&& b < 2 ^ 63 := Nat.and_lt_two_pow _ (by omega)
  show IntKind.u64.wrap ((BitVec.ofInt 64 (a : Int) &&& BitVec.ofInt 64 (b : Int)).toNat : Int) = _
  rw [BitVec.toNat_and, ofInt64 a ha, ofInt64 b hb]
  exact IntWalk.u64_in _ (by omega)
theorem orU (a b : Nat) (ha : a < 9223372036854775808) (hb : b < 9223372036854775808) : bits .or .u64 (a : Int) (b : Int) = ((a ||| b : Nat) : Int) := by
  have hx : a ||| b < 2 ^ 63 := Nat.or_lt_two_pow (by omega) (by omega)
  show IntKind.u64.wrap ((BitVec.ofInt 64 (a : Int) ||| BitVec.ofInt 64 (b : Int)).toNat : Int) = _
  rw [BitVec.toNat_or, ofInt64 a ha, ofInt64 b hb]
  exact IntWalk.u64_in _ (by omega)
theorem wr8W {x : Nat} (h : x ≤ 10000000) : wrap64 (x : Int) = (x : Int) ∧ IntKind.i64.wrap (x : Int) = (x : Int) := ⟨IntWalk.wrap64_in _ (by omega), IntWalk.i64_in _ (by omega)⟩
theorem sumUW {a b c : Nat} (h : c = a + b) (hc : c ≤ 10000000) : IntKind.u64.wrap ((a : Int) + b) = (c : Int) := by rw [IntWalk.u64_in _ (by omega)]; omega
set_option maxRecDepth 100000 in
set_option maxHeartbeats 2000000 in
theorem onesW64_any (u : Nat) (hu : u < 65536) (w : World) : Calls Try.prog 31 #[.int .u64 u] w fun e w' => e = .returned (.int .i64 (popN 16 u : Nat)) ∧ w = w' := by
  have hpop := oWf_pop hu
  obtain ⟨P, hP⟩ : ∃ P, P = popN 16 u := ⟨_, rfl⟩
  rw [← hP] at hpop ⊢
  have HPOP := Lib.hid hpop
  clear hP hpop
  have l1 := @Nat.and_le_left (u / 2) 6148914691236517205
  have l2 := @Nat.and_le_left u 6148914691236517205
  have a1 := andU (u / 2) 6148914691236517205 (by omega) (by omega)
  have a2 := andU u 6148914691236517205 (by omega) (by omega)
  obtain ⟨y1, hy1⟩ : ∃ y, y = (u / 2) &&& 6148914691236517205 := ⟨_, rfl⟩
  obtain ⟨y2, hy2⟩ : ∃ y, y = u &&& 6148914691236517205 := ⟨_, rfl⟩
  obtain ⟨x1, hx1⟩ : ∃ x, x = y1 + y2 := ⟨_, rfl⟩
  rw [← hy1] at a1 l1
  rw [← hy2] at a2 l2
  have n1 : x1 ≤ 100000 := by omega
  have HY1 := Lib.hid hy1
  have HY2 := Lib.hid hy2
  have HX1 := Lib.hid hx1
  clear hy1 hy2 hx1 l1 l2
  have l3 := @Nat.and_le_left (x1 / 4) 3689348814741910323
  have l4 := @Nat.and_le_left x1 3689348814741910323
  have a3 := andU (x1 / 4) 3689348814741910323 (by omega) (by omega)
  have a4 := andU x1 3689348814741910323 (by omega) (by omega)
  obtain ⟨y3, hy3⟩ : ∃ y, y = (x1 / 4) &&& 3689348814741910323 := ⟨_, rfl⟩
  obtain ⟨y4, hy4⟩ : ∃ y, y = x1 &&& 3689348814741910323 := ⟨_, rfl⟩
  obtain ⟨x2, hx2⟩ : ∃ x, x = y3 + y4 := ⟨_, rfl⟩
  rw [← hy3] at a3 l3
  rw [← hy4] at a4 l4
  have n2 : x2 ≤ 200000 := by omega
  have HY3 := Lib.hid hy3
  have HY4 := Lib.hid hy4
  have HX2 := Lib.hid hx2
  clear hy3 hy4 hx2 l3 l4
  have l5 := @Nat.and_le_left (x2 / 16 + x2) 1085102592571150095
  have a5 := andU (x2 / 16 + x2) 1085102592571150095 (by omega) (by omega)
  obtain ⟨x3, hx3⟩ : ∃ y, y = (x2 / 16 + x2) &&& 1085102592571150095 := ⟨_, rfl⟩
  rw [← hx3] at a5 l5
  have n3 : x3 ≤ 300000 := by omega
  have n3' : x2 / 16 + x2 ≤ 300000 := by omega
  have HX3 := Lib.hid hx3
  clear hx3 l5
  obtain ⟨x4, hx4⟩ : ∃ x, x = x3 + x3 / 256 := ⟨_, rfl⟩
  have n4 : x4 ≤ 400000 := by omega
  have HX4 := Lib.hid hx4
  clear hx4
  obtain ⟨x5, hx5⟩ : ∃ x, x = x4 + x4 / 65536 := ⟨_, rfl⟩
  have n5 : x5 ≤ 500000 := by omega
  have HX5 := Lib.hid hx5
  clear hx5
  obtain ⟨x6, hx6⟩ : ∃ x, x = x5 + x5 / 4294967296 := ⟨_, rfl⟩
  have n6 : x6 ≤ 600000 := by omega
  have HX6 := Lib.hid hx6
  clear hx6
  have a6 := and_nat x6 127 (by omega) (by omega)
  have hfin : x6 &&& 127 = P := by
    rw [← HPOP.out]
    rw [HX6.out, HX5.out, HX4.out, HX3.out, HX2.out, HY3.out, HY4.out, HX1.out, HY1.out, HY2.out]
    rfl
  rw [hfin] at a6
  have b1 : bits .and .u64 ((u : Int) / 2) 6148914691236517205 = (y1 : Int) := a1
  have b2 : bits .and .u64 (u : Int) 6148914691236517205 = (y2 : Int) := a2
  have e1 : IntKind.u64.wrap ((y1 : Int) + y2) = (x1 : Int) := sumUW HX1.out (Nat.le_trans n1 (by decide))
  have b3 : bits .and .u64 ((x1 : Int) / 4) 3689348814741910323 = (y3 : Int) := a3
  have b4 : bits .and .u64 (x1 : Int) 3689348814741910323 = (y4 : Int) := a4
  have e2 : IntKind.u64.wrap ((y3 : Int) + y4) = (x2 : Int) := sumUW HX2.out (Nat.le_trans n2 (by decide))
  have e3 : IntKind.u64.wrap ((x2 : Int) / 16 + x2) = ((x2 / 16 + x2 : Nat) : Int) := sumUW (a := x2 / 16) rfl (Nat.le_trans n3' (by decide))
  have b5 : bits .and .u64 ((x2 / 16 + x2 : Nat) : Int) 1085102592571150095 = (x3 : Int) := a5
  have e4 : IntKind.u64.wrap ((x3 : Int) + x3 / 256) = (x4 : Int) := sumUW (b := x3 / 256) HX4.out (Nat.le_trans n4 (by decide))
  have e5 : IntKind.u64.wrap ((x4 : Int) + x4 / 65536) = (x5 : Int) := sumUW (b := x4 / 65536) HX5.out (Nat.le_trans n5 (by decide))
  have e6 : IntKind.u64.wrap ((x5 : Int) + x5 / 4294967296) = (x6 : Int) := sumUW (b := x5 / 4294967296) HX6.out (Nat.le_trans n6 (by decide))
  have e7 : wrap64 (x6 : Int) = (x6 : Int) := (wr8W (Nat.le_trans n6 (by decide))).1
  have e8 : IntKind.i64.wrap (x6 : Int) = (x6 : Int) := (wr8W (Nat.le_trans n6 (by decide))).2
  have a6' : bits .and .i64 (x6 : Int) 127 = (P : Int) := a6
  have B1 := Lib.hid b1
  have B2 := Lib.hid b2
  have B3 := Lib.hid b3
  have B4 := Lib.hid b4
  have B5 := Lib.hid b5
  have E1 := Lib.hid e1
  have E2 := Lib.hid e2
  have E3 := Lib.hid e3
  have E4 := Lib.hid e4
  have E5 := Lib.hid e5
  have E6 := Lib.hid e6
  have E7 := Lib.hid e7
  have E8 := Lib.hid e8
  have A6 := Lib.hid a6'
  clear b1 b2 b3 b4 b5 e1 e2 e3 e4 e5 e6 e7 e8 a6' a1 a2 a3 a4 a5 a6 hfin n1 n2 n3 n3' n4 n5 n6
  go_enter Try.func31, Try.ntmps31
  go_wp2_with fail
  go_ret
  refine ⟨ret_int ?_, rfl⟩
  simp only [B1.out, B2.out, E1.out, B3.out, B4.out, E2.out, E3.out, B5.out, E4.out, E5.out, E6.out, E7.out, E8.out, A6.out]
set_option maxRecDepth 100000 in
theorem onesW_any (u : Nat) (hu : u < 65536) (w : World) : Calls Try.prog 19 #[.int .u64 u] w fun e w' => e = .returned (.int .i64 (popN 16 u : Nat)) ∧ w = w' := by
  go_enter Try.func19, Try.ntmps19
  go_wp2_with (go_at_call 31; refine (onesW64_any u hu _).mono ?_; rintro e w' ⟨rfl, rfl⟩)
  go_ret
  exact ⟨rfl, rfl⟩
end Go.Proofs.Ytnfibchffbdmpaa
