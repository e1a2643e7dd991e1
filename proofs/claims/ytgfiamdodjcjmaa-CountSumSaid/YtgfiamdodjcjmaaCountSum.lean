/- The counters stay non-negative, and their sum grows by at most one per instruction. No condition. -/
import Derived.Test.YtgfiamdodjcjmaaCountRun
namespace Go.Proofs.Ytgfiamdodjcjmaa
open Go.ChangeShapes Go.WideShapes Go.ChangeAt Go.RowKit
set_option linter.unusedVariables false
def cntB (cs : Int) (n : Nat) (F : Nat → Int) (m : Nat) (t : Int) (f : Nat → Int) : Bool := decide (crE cs n F m t f = 0)
set_option maxRecDepth 100000 in
theorem counted_any (cs t : Int) (A B : Option Addr) (n c m d : Nat) (F f : Nat → Int) (w : World) (h : Rd w A (n * 4) (fun q => .int .i64 (F q))) (hf : Rd w B m (fun q => .int .i64 (f q))) (hn : n ≤ 1000000000000000) (hm : m ≤ maxLen) :
    Calls Try.prog 6 #[.int .i64 cs, .slice A n c, .slice B m d, .int .i64 t] w fun e w' => e = .returned (.bool (cntB cs n F m t f)) ∧ Below w.heap.size w w' := by
  have H := Lib.hid h
  have G := Lib.hid hf
  clear h hf
  by_cases hck : ckO cs n F = 0
  · have er : crE cs n F m t f = haE cs m t f := if_pos hck
    have hz : haE cs m t f = 0 → cntB cs n F m t f = true := fun h => decide_eq_true (er.trans h)
    have hnz : haE cs m t f ≠ 0 → cntB cs n F m t f = false := fun h => decide_eq_false (by rw [er]; exact h)
    by_cases hh : haE cs m t f = 0
    · have e := hz hh
      rw [e]
      clear hz hnz er e
      go_enter Try.func6, Try.ntmps6
      go_wp2_with fail
      refine (countCheck_any cs A n c F w H.out hn).mono ?_
      rintro e w1 ⟨rfl, hb1⟩
      rw [hck]
      go_wp2_with fail
      refine (haveCheck_any cs t B m d f _ (G.out.below hb1) hm).mono ?_
      rintro e w' ⟨rfl, rfl⟩
      rw [hh]
      go_wp2_with fail
      go_ret
      exact ⟨rfl, hb1⟩
    · have e := hnz hh
      have hq : (haE cs m t f == 0) = false := by rw [beq_eq_false_iff_ne]; exact hh
      rw [e]
      clear hz hnz er e hh
      go_enter Try.func6, Try.ntmps6
      go_wp2_with fail
      refine (countCheck_any cs A n c F w H.out hn).mono ?_
      rintro e w1 ⟨rfl, hb1⟩
      rw [hck]
      go_wp2_with fail
      refine (haveCheck_any cs t B m d f _ (G.out.below hb1) hm).mono ?_
      rintro e w' ⟨rfl, rfl⟩
      go_wp2_with fail
      go_ret
      exact ⟨rfl, hb1⟩
  · have e : cntB cs n F m t f = false := decide_eq_false (by unfold crE; rw [if_neg hck]; exact hck)
    have hq : (ckO cs n F == 0) = false := by rw [beq_eq_false_iff_ne]; exact hck
    rw [e]
    clear e hck
    go_enter Try.func6, Try.ntmps6
    go_wp2_with fail
    refine (countCheck_any cs A n c F w H.out hn).mono ?_
    rintro e w1 ⟨rfl, hb1⟩
    go_wp2_with fail
    go_ret
    exact ⟨rfl, hb1⟩
theorem crE_zero {cs : Int} {n : Nat} {F : Nat → Int} {m : Nat} {t : Int} {f : Nat → Int} (h : crE cs n F m t f = 0) :
    (1 ≤ cs ∧ cs ≤ 4 ∧ 1 ≤ n ∧ n ≤ 12) ∧ (∀ k, k < n → oE cs n F k = 0) ∧ (m : Int) = cs ∧ (∀ i, i < m → 0 ≤ f i ∧ f i ≤ 20) ∧ 0 ≤ t ∧ t ≤ 400 := by
  unfold crE at h
  by_cases hck : ckO cs n F = 0
  · rw [if_pos hck] at h
    obtain ⟨h1, h2⟩ := ckO_zero hck
    unfold haE at h
    by_cases hm : (m : Int) = cs
    · rw [if_pos hm] at h
      by_cases hr : fstE (rgE f) m = 0
      · rw [if_pos hr] at h
        by_cases ht : 0 ≤ t ∧ t ≤ 400
        · exact ⟨h1, h2, hm, rgE_bd hr, ht⟩
        · rw [if_neg ht] at h; omega
      · rw [if_neg hr] at h; omega
    · rw [if_neg hm] at h; omega
  · rw [if_neg hck] at h; exact absurd h hck
namespace countSum
set_option maxRecDepth 100000 in
set_option maxHeartbeats 1000000 in
theorem walk (w : World) (cs : Int) (A : Option Addr) (n c : Nat) (F : Nat → Int) (B : Option Addr) (m d : Nat) (f : Nat → Int) (t : Int) (wc : (Lit.int .i64 cs).wf = true)
    (h : Rd w A (n * 4) (fun q => .int .i64 (F q))) (wf : ∀ i, (Lit.int .i64 (F i)).wf = true) (hl : n ≤ c) (hm : c ≤ maxLen) (z : c * 32 ≤ 140737488351232) (h2 : Rd w B m (fun q => .int .i64 (f q))) (wf2 : ∀ i, (Lit.int .i64 (f i)).wf = true) (hl2 : m ≤ d) (hm2 : d ≤ maxLen) (z2 : d * 8 ≤ 140737488351232) (wt : (Lit.int .i64 t).wf = true) :
    Calls Try.prog 3 #[.int .i64 cs, .slice A n c, .slice B m d, .int .i64 t] w fun e w' => e = .returned (.bool true) ∧ Below w.heap.size w w' := by
  have hnl : n ≤ 1000000000000000 := by omega
  have hml : m ≤ 1000000000000000 := by omega
  have H := Lib.hid h
  have G := Lib.hid h2
  clear wc wf hl hm z wf2 hl2 hm2 z2 wt h h2
  go_enter Try.func3, Try.ntmps3
  go_wp2_with fail
  refine (run_any cs t A B n c m d F f w H.out G.out (by unfold maxLen; omega) (by unfold maxLen; omega)).mono ?_
  rintro e w1 ⟨hb1, ⟨hne, rfl⟩ | ⟨hz, A1, c1, rfl, hrd, hmc⟩⟩
  · have hq : (crE cs n F m t f != 0) = true := by rw [bne_iff_ne]; exact hne
    have hcb : cntB cs n F m t f = false := decide_eq_false hne
    clear hne
    go_wp2_with fail
    refine (counted_any cs t A B n c m d F f w1 (H.out.below hb1) (G.out.below hb1) hnl (by unfold maxLen; omega)).mono ?_
    rintro e w2 ⟨rfl, hb2⟩
    rw [hcb]
    go_wp2_with fail
    go_ret
    exact ⟨rfl, hb1.trans (hb2.mono hb1.size)⟩
  · have hcb : cntB cs n F m t f = true := decide_eq_true hz
    obtain ⟨⟨q1, q2, q3, q4⟩, hoe, hmcs, hfb, t0, t4⟩ := crE_zero hz
    obtain ⟨T, rfl⟩ := Int.eq_ofNat_of_zero_le t0
    rw [Int.toNat_natCast] at hrd
    rw [Int.toNat_natCast]
    have hinv := run_inv (m := m) (M := 20) (C := f) (a := 0) (by omega) hoe ⟨Int.le_refl 0, by omega⟩ hfb T
    have hsum := run_sum (m := m) (M := 20) (C := f) (a := 0) (by omega) hoe ⟨Int.le_refl 0, by omega⟩ hfb f (fun _ => rfl) T
    have hdl := runD_le (F := F) (n := n) (C := f) (a := 0) T
    have hds : (runS F n f 0 T).2 < n → runD F n f 0 T = T := runD_stands
    obtain ⟨s, hs⟩ : ∃ s, s = runS F n f 0 T := ⟨_, rfl⟩
    obtain ⟨D, hD⟩ : ∃ D, D = runD F n f 0 T := ⟨_, rfl⟩
    rw [← hs] at hinv hsum hrd hds ⊢
    rw [← hD] at hsum hdl hds ⊢
    obtain ⟨⟨i0, i1⟩, i2⟩ := hinv
    have I2 := Lib.hid i2
    have HSUM := Lib.hid hsum
    have HFB := Lib.hid hfb
    have R := Lib.hid hrd
    clear hs hD hoe hfb hsum i2 hrd hz
    have hqm : ((m : Int) != cs) = false := by rw [bne_eq_false_iff_eq]; exact hmcs
    have HMCS := Lib.hid hmcs
    clear hmcs
    go_wp2_with fail
    refine (counted_any cs T A B n c m d F f w1 (H.out.below hb1) (G.out.below hb1) hnl (by unfold maxLen; omega)).mono ?_
    rintro e w2 ⟨rfl, hb2⟩
    rw [hcb]
    clear hcb
    have hB2 := hb1.trans (hb2.mono hb1.size)
    have R2 := Lib.hid (R.out.below hb2)
    have G2 := Lib.hid (G.out.below hB2)
    have bd : ∀ j, j ≤ m → -2000 ≤ smF (fun i => s.1 i - f i) j ∧ smF (fun i => s.1 i - f i) j ≤ 2000 := fun j hj => by
      have := smF_bd (h := fun i => s.1 i - f i) (lo := -20) (hi := 420) (m := m) (fun i hi => by have h1 := I2.out i hi; have h2 := HFB.out i hi; show -20 ≤ s.1 i - f i ∧ s.1 i - f i ≤ 420; omega) j hj
      have := HMCS.out
      omega
    have BD := Lib.hid bd
    have dT : decide ((T : Int) < 0) = false := decide_eq_false (by omega)
    have d0 : decide (s.2 < 0) = false := decide_eq_false (by omega)
    clear bd
    by_cases hat : s.2 < n
    · obtain rfl := hds hat
      clear hds
      go_wp2_with fail
      go_loop [13, 74] (fun s13 s74 => ∃ j : Nat, j ≤ m ∧ s74 = .int .i64 j ∧ s13 = .int .i64 (smF (fun i => s.1 i - f i) j)) (fun _ s74 => m - (intOf s74).toNat)
      case atStart => exact ⟨0, Nat.zero_le _, rfl, rfl⟩
      case round =>
        obtain ⟨j, hj, rfl, rfl⟩ := hrel
        by_cases hlt : j < m
        · obtain ⟨b1, o1, rfl, _, cc1⟩ := R2.out.at_ hlt
          obtain ⟨b2, o2, rfl, _, cc2⟩ := G2.out.at_ hlt
          obtain ⟨b0, b1'⟩ := BD.out j hj
          obtain ⟨x0, x1⟩ := I2.out j hlt
          obtain ⟨y0, y1⟩ := HFB.out j hlt
          have hsn : smF (fun i => s.1 i - f i) (j + 1) = smF (fun i => s.1 i - f i) j + (s.1 j - f j) := rfl
          obtain ⟨S, hS⟩ : ∃ S, S = smF (fun i => s.1 i - f i) j := ⟨_, rfl⟩
          rw [← hS] at b0 b1' hsn
          obtain ⟨X, hX⟩ : ∃ X, X = s.1 j := ⟨_, rfl⟩
          rw [← hX] at x0 x1 hsn cc1
          obtain ⟨Y, hY⟩ : ∃ Y, Y = f j := ⟨_, rfl⟩
          rw [← hY] at y0 y1 hsn cc2
          rw [← hS]
          have HSN := Lib.hid hsn
          clear hS hsn hX hY
          go_wp2_with fail
          go_round
          case rel => exact ⟨j + 1, by omega, by go_num, by rw [HSN.out]; go_num⟩
          case measure => simp [intOf]; omega
        · obtain rfl : j = m := by omega
          obtain ⟨b0, b1'⟩ := BD.out j hj
          obtain ⟨g0, g1⟩ := HSUM.out
          obtain ⟨S, hS⟩ : ∃ S, S = smF (fun i => s.1 i - f i) j := ⟨_, rfl⟩
          rw [← hS] at b0 b1' g0 g1 ⊢
          clear hS
          go_wp2_with fail
          go_ret
          exact ⟨rfl, hB2⟩

    · clear hds
      have hat' : (n : Int) ≤ s.2 := by omega
      go_wp2_with fail
      go_loop [13, 74] (fun s13 s74 => ∃ j : Nat, j ≤ m ∧ s74 = .int .i64 j ∧ s13 = .int .i64 (smF (fun i => s.1 i - f i) j)) (fun _ s74 => m - (intOf s74).toNat)
      case atStart => exact ⟨0, Nat.zero_le _, rfl, rfl⟩
      case round =>
        obtain ⟨j, hj, rfl, rfl⟩ := hrel
        by_cases hlt : j < m
        · obtain ⟨b1, o1, rfl, _, cc1⟩ := R2.out.at_ hlt
          obtain ⟨b2, o2, rfl, _, cc2⟩ := G2.out.at_ hlt
          obtain ⟨b0, b1'⟩ := BD.out j hj
          obtain ⟨x0, x1⟩ := I2.out j hlt
          obtain ⟨y0, y1⟩ := HFB.out j hlt
          have hsn : smF (fun i => s.1 i - f i) (j + 1) = smF (fun i => s.1 i - f i) j + (s.1 j - f j) := rfl
          obtain ⟨S, hS⟩ : ∃ S, S = smF (fun i => s.1 i - f i) j := ⟨_, rfl⟩
          rw [← hS] at b0 b1' hsn
          obtain ⟨X, hX⟩ : ∃ X, X = s.1 j := ⟨_, rfl⟩
          rw [← hX] at x0 x1 hsn cc1
          obtain ⟨Y, hY⟩ : ∃ Y, Y = f j := ⟨_, rfl⟩
          rw [← hY] at y0 y1 hsn cc2
          rw [← hS]
          have HSN := Lib.hid hsn
          clear hS hsn hX hY
          go_wp2_with fail
          go_round
          case rel => exact ⟨j + 1, by omega, by go_num, by rw [HSN.out]; go_num⟩
          case measure => simp [intOf]; omega
        · obtain rfl : j = m := by omega
          obtain ⟨b0, b1'⟩ := BD.out j hj
          obtain ⟨g0, g1⟩ := HSUM.out
          obtain ⟨S, hS⟩ : ∃ S, S = smF (fun i => s.1 i - f i) j := ⟨_, rfl⟩
          rw [← hS] at b0 b1' g0 g1 ⊢
          clear hS
          go_wp2_with fail
          go_ret
          exact ⟨rfl, hB2⟩

end countSum
end Go.Proofs.Ytgfiamdodjcjmaa
