/- The walk of BusyBest. Condition: the number fits its kind. -/
import Derived.Test.YtlnaplebhlcpaaaBusyMost
import Derived.Test.YtlnaplebhlcpaaaInside
namespace Go.Proofs.Ytlnaplebhlcpaaa
open Go.ChangeShapes Go.WideShapes Go.ChangeAt Go.RowKit
set_option linter.unusedVariables false
set_option maxRecDepth 100000 in
set_option maxHeartbeats 2000000 in
theorem busyBest.walk (w : World) (steps : Int) (ws : (Lit.int .i64 steps).wf = true) :
    Calls Try.prog 4 #[.int .i64 steps] w fun e w' => e = .returned (.bool true) ∧ Below w.heap.size w w' := by
  clear ws
  by_cases hs : 0 ≤ steps ∧ steps ≤ 60
  · obtain ⟨sn, rfl⟩ := Int.eq_ofNat_of_zero_le hs.1
    obtain ⟨-, h60⟩ := hs
    go_enter Try.func4, Try.ntmps4
    go_wp2_with fail
    refine (most_good 1 sn w (.inl rfl) (by omega)).mono ?_
    rintro e w1 ⟨⟨a, b, n, rfl, hm1⟩, hb1⟩
    have HB1 := Lib.hid hb1
    obtain ⟨⟨a0, a1⟩, ⟨b0, b1⟩, ⟨n0, n1⟩, hx1, -⟩ := hm1
    have n64 : n ≤ 64 := n1
    have HX1 := Lib.hid hx1
    clear hb1 hx1 n1
    go_wp2_with fail
    refine (within_any _ _ _ _).mono ?_
    rintro e w' ⟨rfl, rfl⟩
    rw [inB_yes (by omega) (by omega)]
    go_wp2_with fail
    refine (most_good 2 sn w1 (.inr rfl) (by omega)).mono ?_
    rintro e w2 ⟨⟨c, d, k, rfl, hm2⟩, hb2⟩
    have HB2 := Lib.hid (HB1.out.trans (hb2.mono HB1.out.size))
    obtain ⟨⟨c0, c1⟩, ⟨d0, d1⟩, ⟨k0, k1⟩, -, hx2⟩ := hm2
    have k64 : k ≤ 20736 := k1
    have HX2 := Lib.hid hx2
    clear hb2 hx2 k1
    by_cases h6 : (sn : Int) < 6
    · have q1 : decide (a ≤ (sn : Int)) = true := by rw [decide_eq_true_eq]; omega
      have q2 : decide (c ≤ (sn : Int)) = true := by rw [decide_eq_true_eq]; omega
      have q3 : decide (b ≤ a) = true := by rw [decide_eq_true_eq]; omega
      have q4 : decide (d ≤ c) = true := by rw [decide_eq_true_eq]; omega
      go_wp2_with fail
      go_ret
      exact ⟨rfl, HB2.out⟩
    · obtain ⟨x1, x2, x3⟩ := HX1.out (by omega) (by first | rfl | trivial)
      obtain ⟨y1, y2, y3⟩ := HX2.out (by omega) (by first | rfl | trivial)
      obtain ⟨x4, x5⟩ := x3 (by unfold pwB; decide)
      obtain ⟨y4, y5⟩ := y3 (by unfold pwB; decide)
      have en : n = 32 := x2.trans cn1_64
      obtain rfl : a = 1 := by omega
      obtain rfl : b = 1 := by omega
      obtain rfl : c = 6 := by omega
      obtain rfl : d = 4 := by omega
      subst en
      clear x1 x2 x3 x4 x5 y1 y2 y3 y4 y5
      go_wp2_with fail
      go_ret
      exact ⟨rfl, HB2.out⟩
  · have hs' : steps < 0 ∨ 60 < steps := by omega
    have HS := Lib.hid hs
    have HS' := Lib.hid hs'
    clear hs hs'
    go_enter Try.func4, Try.ntmps4
    go_wp2_with fail
    refine (most_bad 1 steps w (.inl rfl) HS'.out).mono ?_
    rintro e w1 ⟨rfl, rfl⟩
    go_wp2_with fail
    refine (within_any _ _ _ _).mono ?_
    rintro e w' ⟨rfl, rfl⟩
    rw [inB_no HS.out]
    go_wp2_with fail
    go_ret
    exact ⟨rfl, Below.refl _ _⟩
end Go.Proofs.Ytlnaplebhlcpaaa
