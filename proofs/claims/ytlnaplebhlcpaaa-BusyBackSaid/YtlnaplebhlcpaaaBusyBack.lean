/- Machines and their numbers correspond one to one. No condition. -/
import Derived.Test.YtlnaplebhlcpaaaBusyBuild
namespace Go.Proofs.Ytlnaplebhlcpaaa.busyBack
open Go.ChangeShapes Go.WideShapes Go.ChangeAt Go.RowKit
set_option linter.unusedVariables false
theorem bdE_zero {n k : Int} (h : bdE n k = 0) : ∃ m : Nat, n = m ∧ (m = 1 ∨ m = 2) ∧ 0 ≤ k ∧ k < pwB m := by
  unfold bdE at h
  by_cases e : n < 1 ∨ 2 < n
  · rw [if_pos e] at h; omega
  · rw [if_neg e] at h
    by_cases e2 : k < 0 ∨ (pwB n.toNat : Int) ≤ k
    · rw [if_pos e2] at h; omega
    · exact ⟨n.toNat, by omega, by omega, by omega, by omega⟩
/-- either a machine that reads so, or none -/
theorem build_any (n k : Int) (w : World) :
    Calls Try.prog 5 #[.int .i64 n, .int .i64 k] w fun e w' => ((bdE n k ≠ 0 ∧ e = .returned (.tuple #[zeroM, .int .i64 (bdE n k)])) ∨ (bdE n k = 0 ∧ ∃ (m : Nat) (T : Option Addr) (tc : Nat) (R : Nat → SI), n = m ∧ (m = 1 ∨ m = 2) ∧ e = .returned (.tuple #[.agg #[.int .i64 n, .int .i64 2, .slice T m tc], .int .i64 0]) ∧ Tm w' T m R ∧ BkR m R ∧ nmB m R (2 * m) = k)) ∧ Below w.heap.size w w' := by
  by_cases h : bdE n k = 0
  · obtain ⟨m, rfl, hm, k0, k1⟩ := bdE_zero h
    refine (build_good m k w hm k0 k1).mono ?_
    rintro e w' ⟨⟨T, tc, R, rfl, _, _, hT, hB, hn⟩, hb⟩
    exact ⟨.inr ⟨h, m, T, tc, R, rfl, hm, rfl, hT, hB, hn⟩, hb⟩
  · refine (build_bad n k w h).mono ?_
    rintro e w' ⟨rfl, hb⟩
    exact ⟨.inl ⟨h, rfl⟩, hb⟩
set_option maxRecDepth 100000 in
set_option maxHeartbeats 2000000 in
theorem walk (w : World) (n a b : Int) (wn : (Lit.int .i64 n).wf = true) (wa : (Lit.int .i64 a).wf = true) (wb : (Lit.int .i64 b).wf = true) :
    Calls Try.prog 3 #[.int .i64 n, .int .i64 a, .int .i64 b] w fun e w' => e = .returned (.bool true) ∧ Below w.heap.size w w' := by
  clear wn wa wb
  go_enter Try.func3, Try.ntmps3
  go_wp2_with fail
  refine (build_any n a w).mono ?_
  rintro e w1 ⟨⟨h1, rfl⟩ | ⟨h1, m, T, tc, R, hnm, hm, rfl, hT, hB, hN⟩, hb1⟩
  · have hq : (bdE n a != 0) = true := by rw [bne_iff_ne]; exact h1
    have sz1 := hb1.size
    have B2 := hb1.alloc sz1 (.cells #[.int .i64 0, .int .i64 0, .slice none 0 0] 24)
    unfold zeroM
    clear h1
    go_wp2_with fail
    refine (build_any n b _).mono ?_
    have g1 : w1.heap.size < (w1.alloc (.cells #[.int .i64 0, .int .i64 0, .slice none 0 0] 24)).heap.size := by simp
    have d2 : (w1.alloc (.cells #[.int .i64 0, .int .i64 0, .slice none 0 0] 24)).cell? ⟨w1.heap.size, 2, none⟩ = some (.slice none 0 0) := by simp [go_sem]
    rintro e w2 ⟨⟨h2, rfl⟩ | ⟨h2, m, T, tc, R, hnm, hm, rfl, hT, hB, hN⟩, hb2⟩
    · have e2 := (hb2.cell (p := ⟨w1.heap.size, 2, none⟩) g1).trans d2
      have B3 := B2.trans (hb2.mono B2.size)
      have s3 : w1.heap.size < w2.heap.size := by have := hb2.size; omega
      have B4 := B3.alloc B3.size (.cells #[.int .i64 0, .int .i64 0, .slice none 0 0] 24)
      unfold zeroM
      clear h2
      go_wp2_with fail
      go_ret
      exact ⟨rfl, B4⟩
    · have e2 := (hb2.cell (p := ⟨w1.heap.size, 2, none⟩) g1).trans d2
      have B3 := B2.trans (hb2.mono B2.size)
      have s3 : w1.heap.size < w2.heap.size := by have := hb2.size; omega
      have B4 := B3.alloc B3.size (.cells #[.int .i64 n, .int .i64 2, .slice T m tc] 24)
      clear h2 hT hB hN hnm
      go_wp2_with fail
      go_ret
      exact ⟨rfl, B4⟩
  · subst hnm
    have HM := Lib.hid hm
    have m12 : 1 ≤ m ∧ m ≤ 2 := by omega
    obtain ⟨ma, mb⟩ := m12
    have hm0 : ((m : Int) == 0) = false := by rw [beq_eq_false_iff_ne]; omega
    have sz1 := hb1.size
    have B2 := hb1.alloc sz1 (.cells #[.int .i64 m, .int .i64 2, .slice T m tc] 24)
    have T1 := Lib.hid hT
    have HB := Lib.hid hB
    have HN := Lib.hid hN
    clear h1 hT hB hN hm
    go_wp2_with fail
    refine (build_any m b _).mono ?_
    have T2 := Lib.hid (T1.out.below ((Below.refl _ _).alloc (Nat.le_refl _) (.cells #[.int .i64 m, .int .i64 2, .slice T m tc] 24)))
    have g1 : w1.heap.size < (w1.alloc (.cells #[.int .i64 (m : Int), .int .i64 2, .slice T m tc] 24)).heap.size := by simp
    have d0 : (w1.alloc (.cells #[.int .i64 (m : Int), .int .i64 2, .slice T m tc] 24)).cell? ⟨w1.heap.size, 0, none⟩ = some (.int .i64 m) := by simp [go_sem]
    have d1 : (w1.alloc (.cells #[.int .i64 (m : Int), .int .i64 2, .slice T m tc] 24)).cell? ⟨w1.heap.size, 1, none⟩ = some (.int .i64 2) := by simp [go_sem]
    have d2 : (w1.alloc (.cells #[.int .i64 (m : Int), .int .i64 2, .slice T m tc] 24)).cell? ⟨w1.heap.size, 2, none⟩ = some (.slice T m tc) := by simp [go_sem]
    rintro e w2 ⟨⟨h2, rfl⟩ | ⟨h2, m', T', tc', R', hnm, hm', rfl, hT', hB', hN'⟩, hb2⟩
    · have hq : (bdE m b != 0) = true := by rw [bne_iff_ne]; exact h2
      have e2 := (hb2.cell (p := ⟨w1.heap.size, 2, none⟩) g1).trans d2
      have B3 := B2.trans (hb2.mono B2.size)
      have s3 : w1.heap.size < w2.heap.size := by have := hb2.size; omega
      have B4 := B3.alloc B3.size (.cells #[.int .i64 0, .int .i64 0, .slice none 0 0] 24)
      unfold zeroM
      clear h2 d0 d1 d2
      go_wp2_with fail
      go_ret
      exact ⟨rfl, B4⟩
    · obtain rfl : m = m' := by omega
      have e0 := (hb2.cell (p := ⟨w1.heap.size, 0, none⟩) g1).trans d0
      have e1 := (hb2.cell (p := ⟨w1.heap.size, 1, none⟩) g1).trans d1
      have e2 := (hb2.cell (p := ⟨w1.heap.size, 2, none⟩) g1).trans d2
      have B3 := B2.trans (hb2.mono B2.size)
      have s3 : w1.heap.size < w2.heap.size := by have := hb2.size; omega
      have B4 := B3.alloc B3.size (.cells #[.int .i64 m, .int .i64 2, .slice T' m tc'] 24)
      have T3 := Lib.hid ((T2.out.below hb2).below ((Below.refl _ _).alloc (Nat.le_refl _) (.cells #[.int .i64 m, .int .i64 2, .slice T' m tc'] 24)))
      have T3' := Lib.hid (hT'.below ((Below.refl _ _).alloc (Nat.le_refl _) (.cells #[.int .i64 m, .int .i64 2, .slice T' m tc'] 24)))
      have HB' := Lib.hid hB'
      have HN' := Lib.hid hN'
      have f0 : (w2.alloc (.cells #[.int .i64 (m : Int), .int .i64 2, .slice T' m tc'] 24)).cell? ⟨w2.heap.size, 0, none⟩ = some (.int .i64 m) := by simp [go_sem]
      have f1 : (w2.alloc (.cells #[.int .i64 (m : Int), .int .i64 2, .slice T' m tc'] 24)).cell? ⟨w2.heap.size, 1, none⟩ = some (.int .i64 2) := by simp [go_sem]
      have f2 : (w2.alloc (.cells #[.int .i64 (m : Int), .int .i64 2, .slice T' m tc'] 24)).cell? ⟨w2.heap.size, 2, none⟩ = some (.slice T' m tc') := by simp [go_sem]
      have g2 : w2.heap.size < (w2.alloc (.cells #[.int .i64 (m : Int), .int .i64 2, .slice T' m tc'] 24)).heap.size := by simp
      have F0 := Lib.hid f0
      have F1 := Lib.hid f1
      have F2 := Lib.hid f2
      have G2 := Lib.hid g2
      clear h2 d0 d1 d2 hT' hB' hN' hm' hnm f0 f1 f2 g2
      go_wp2_with fail
      refine (number_any T m tc R _ T3.out HB.out HM.out).mono ?_
      rintro e w3 ⟨rfl, hb3⟩
      rw [HN.out]
      have k0 := (hb3.cell (p := ⟨w2.heap.size, 0, none⟩) G2.out).trans F0.out
      have k1 := (hb3.cell (p := ⟨w2.heap.size, 1, none⟩) G2.out).trans F1.out
      have k2 := (hb3.cell (p := ⟨w2.heap.size, 2, none⟩) G2.out).trans F2.out
      have B5 := B4.trans (hb3.mono B4.size)
      have T4 := Lib.hid (T3'.out.below hb3)
      clear e0 e1 e2 hb3
      go_wp2_with fail
      refine (number_any T' m tc' R' _ T4.out HB'.out HM.out).mono ?_
      rintro e w4 ⟨rfl, hb4⟩
      rw [HN'.out]
      go_wp2_with fail
      go_ret
      exact ⟨rfl, B5.trans (hb4.mono B5.size)⟩
end Go.Proofs.Ytlnaplebhlcpaaa.busyBack
