/- The walk of CodeBack. Conditions: the arguments read as told. -/
import Derived.Test.YthdonbgimehkjaaDigits
import Derived.Test.YthdonbgimehkjaaInts
import Derived.Test.YthdonbgimehkjaaCountMath
import Derived.BigQuiet
import Derived.Deep.QuietTactic
namespace Go.Proofs.Ythdonbgimehkjaa
open Go.ChangeShapes Go.WideShapes Go.ChangeAt Go.RowKit
set_option linter.unusedVariables false
theorem ordE_zero {cs : Int} {M : Nat} {g : Nat → Int} (h : ordE cs M g = 0) : M % 4 = 0 ∧ (∀ k, k < M / 4 → bdO g k = false) ∧ ckO cs (M / 4) g = 0 := by
  unfold ordE at h
  by_cases h1 : M % 4 ≠ 0
  · rw [if_pos h1] at h; cases h
  · rw [if_neg h1] at h
    by_cases h2 : anyB (bdO g) (M / 4) = true
    · rw [if_pos h2] at h; cases h
    · rw [if_neg h2] at h
      exact ⟨by omega, anyB_false.1 (by simpa using h2), h⟩
theorem dgF_of_ok {M : Nat} {g : Nat → Int} (h4 : M % 4 = 0) (h : ∀ k, k < M / 4 → bdO g k = false) {q : Nat} (hq : q < M) : dgF g q = g q := by
  unfold dgF
  by_cases e : q % 4 = 3 ∧ g (q - 3) = 1
  · rw [if_pos e]
    have hb := h (q / 4) (by omega)
    unfold bdO at hb
    have hb := of_decide_eq_false hb
    have e1 : 4 * (q / 4) = q - 3 := by omega
    rw [e1] at hb
    have : q - 3 + 3 = q := by omega
    rw [this] at hb
    exact (Classical.byContradiction fun hne => hb ⟨e.2, fun h0 => hne h0.symm⟩)
  · rw [if_neg e]
theorem bdO_dg (F : Nat → Int) (k : Nat) : bdO (dgF F) k = false := by
  obtain ⟨d0, d1, d2, d3⟩ := dgF_at F k
  refine decide_eq_false ?_
  rw [d0, d3]
  intro h
  rw [if_pos h.1] at h
  exact h.2 rfl
theorem oE_dg (cs : Int) (n : Nat) (F : Nat → Int) (k : Nat) : oE cs n (dgF F) k = oE cs n F k := by
  obtain ⟨d0, d1, d2, d3⟩ := dgF_at F k
  unfold oE
  rw [d0, d1, d2, d3]
  by_cases h1 : F (4 * k) = 1
  · rw [if_pos h1]
    have h2 : ¬ F (4 * k) = 2 := by omega
    simp only [h2, false_and]
  · rw [if_neg h1]
theorem ckO_dg (cs : Int) (n : Nat) (F : Nat → Int) : ckO cs n (dgF F) = ckO cs n F := by
  unfold ckO
  rw [fstE_congr (fun k _ => oE_dg cs n F k)]
theorem ordE_dg {cs : Int} {n : Nat} {F : Nat → Int} (h : ckO cs n F = 0) : ordE cs (4 * n) (dgF F) = 0 := by
  unfold ordE
  rw [if_neg (by omega), show 4 * n / 4 = n by omega, if_neg (by rw [anyB_no fun k _ => bdO_dg F k]; decide), ckO_dg, h]
theorem ckO_n {cs : Int} {n : Nat} {F : Nat → Int} (h : ckO cs n F = 0) : n ≤ 12 ∧ ∀ k, k < n → oE cs n F k = 0 := by
  unfold ckO at h
  by_cases e : cs < 1 ∨ 4 < cs ∨ n < 1 ∨ 12 < n
  · rw [if_pos e] at h; cases h
  · rw [if_neg e] at h; exact ⟨by omega, fstE_zero.1 h⟩
set_option maxRecDepth 100000 in
set_option maxHeartbeats 2000000 in
theorem codeBack.walk (w : World) (a0 : Int) (A1 : Option Addr) (n c1 : Nat) (F : Nat → Int) (A2 : Option Addr) (M c2 : Nat) (g : Nat → Int)
    (w0 : (Lit.int .i64 a0).wf = true) (r1 : Rd w A1 (n * 4) (fun q => .int .i64 (F q))) (wf1 : ∀ q, (Lit.int .i64 (F q)).wf = true) (l1 : n ≤ c1) (m1 : c1 ≤ maxLen) (z1 : c1 * 32 ≤ 140737488351232)
    (r2 : Rd w A2 M (fun q => .int .i64 (g q))) (wf2 : ∀ q, (Lit.int .i64 (g q)).wf = true) (l2 : M ≤ c2) (m2 : c2 ≤ maxLen) (z2 : c2 * 8 ≤ 140737488351232) :
    Calls Try.prog 3 #[.int .i64 a0, .slice A1 n c1, .slice A2 M c2] w fun e w' => e = .returned (.bool true) ∧ Below w.heap.size w w' := by
  unfold maxLen at m1 m2
  have HORD2 : Hid (∀ W, Below w.heap.size w W → Calls Try.prog 7 #[.int .i64 a0, .slice A2 M c2] W (OrdRet a0 M g W)) := Lib.hid fun W hW => orders_any a0 A2 M c2 g W (r2.below hW) l2 m2 (by omega)
  have HL := Lib.hid r1
  have HN := Lib.hid r2
  have HNUM := Lib.hid (number_any a0 A1 n c1 F w r1 (by unfold maxLen; omega))
  clear r1 r2 w0 wf1 wf2
  by_cases h0 : ckO a0 n F = 0
  · obtain ⟨hn12, hoe⟩ := ckO_n h0
    have HOE := Lib.hid hoe
    have H0 := Lib.hid h0
    clear h0 hoe
    go_enter Try.func3, Try.ntmps3
    go_wp2_with fail
    refine HNUM.out.mono ?_
    intro e w1 hr
    obtain ⟨hb1, hr⟩ := hr
    rcases hr with ⟨hne, rfl⟩ | ⟨_, A3, c3, rfl, hR3, hl3, hm3⟩
    · exact absurd H0.out hne
    obtain ⟨D, hD⟩ : ∃ D, D = 4 * n := ⟨_, rfl⟩
    have hord := orders_any a0 A3 (4 * n) c3 (dgF F) w1 hR3 hl3 hm3 (by omega)
    rw [← hD] at hord hR3 hl3 ⊢
    have HORD := Lib.hid hord
    have HB1 := Lib.hid hb1
    have HR3 := Lib.hid hR3
    have HD := Lib.hid hD
    have hD48 : D ≤ 48 := by omega
    clear hord hb1 hR3 hD
    go_wp2_with fail
    refine HORD.out.mono ?_
    intro e w2 hr
    obtain ⟨hb2, hr⟩ := hr
    have HB2 := Lib.hid (HB1.out.trans (hb2.mono HB1.out.size))
    clear hb2 HORD
    have hz : ordE a0 D (dgF F) = 0 := by rw [HD.out]; exact ordE_dg H0.out
    have hD4 : D / 4 = n := by have := HD.out; omega
    rcases hr with ⟨hne, rfl⟩ | ⟨_, A4, c4, rfl, hR4, hl4, hm4⟩
    · exact absurd hz hne
    rw [hD4] at hR4 hl4 ⊢
    have HR4 := Lib.hid hR4
    clear hR4 hz hD4
    go_wp2_with fail
    go_loopw [41] (fun s41 wr => ∃ k : Nat, k ≤ n ∧ s41 = .int .i64 (k : Nat) ∧ Hid (Below w2.heap.size w2 wr)) (fun s41 _ => n - (intOf s41).toNat)
    case atStart => exact ⟨0, Nat.zero_le _, rfl, Lib.hid (Below.refl _ _)⟩
    case round =>
      obtain ⟨wo, rfl⟩ : ∃ wo : World, wo = wr := ⟨_, rfl⟩
      obtain ⟨k, hk, rfl, HBO⟩ := hrel
      have HBK := Lib.hid (HB2.out.trans (HBO.out.mono HB2.out.size))
      by_cases hlt : k < n
      · obtain ⟨b, off, rfl, hb, f0, f1, f2, f3⟩ := (HL.out.below HBK.out).at4 hlt
        obtain ⟨b', off', rfl, hb', g0, g1, g2, g3⟩ := (HR4.out.below HBO.out).at4 hlt
        obtain ⟨d0, d1, d2, d3⟩ := dgF_at F k
        rw [d0] at g0
        rw [d1] at g1
        rw [d2] at g2
        rw [d3] at g3
        obtain ⟨o1, -, -, -⟩ := oE_zero (HOE.out k hlt)
        obtain ⟨x0, h0⟩ : ∃ x, x = F (4 * k) := ⟨_, rfl⟩
        obtain ⟨x1, h1⟩ : ∃ x, x = F (4 * k + 1) := ⟨_, rfl⟩
        obtain ⟨x2, h2⟩ : ∃ x, x = F (4 * k + 2) := ⟨_, rfl⟩
        obtain ⟨x3, h3⟩ : ∃ x, x = F (4 * k + 3) := ⟨_, rfl⟩
        rw [← h0] at f0 g0 g3 o1
        rw [← h1] at f1 g1
        rw [← h2] at f2 g2
        rw [← h3] at f3 g3
        have i1 : (0 : Int) ≤ (k : Int) := by omega
        have i2 : (k : Int) < (n : Int) := by omega
        clear d0 d1 d2 d3 h0 h1 h2 h3
        rcases o1 with rfl | rfl
        · rw [if_pos rfl] at g3
          go_wp2_with fail
          go_quiet (fail)
          go_wp2_with fail
          go_roundw
          case rel => exact ⟨k + 1, by omega, by go_num, Lib.hid (below_drewN HBO.out _)⟩
          case measure => simp [intOf]; omega
        · rw [if_neg (by decide)] at g3
          go_wp2_with fail
          go_quiet (fail)
          go_wp2_with fail
          go_roundw
          case rel => exact ⟨k + 1, by omega, by go_num, Lib.hid (below_drewN HBO.out _)⟩
          case measure => simp [intOf]; omega
      · obtain rfl : k = n := by omega
        go_wp2_with fail
        refine (HORD2.out _ HBK.out).mono ?_
        intro e w3 hr
        obtain ⟨hb3, hr⟩ := hr
        have HB3 := Lib.hid (HBK.out.trans (hb3.mono HBK.out.size))
        clear hb3
        rcases hr with ⟨hne, rfl⟩ | ⟨hz0, A3, c3, rfl, hR3, hl3, hm3⟩
        · obtain ⟨E2, hE2⟩ : ∃ x, x = ordE a0 M g := ⟨_, rfl⟩
          rw [← hE2] at hne
          rw [← hE2]
          have q2 : (E2 != 0) = true := by rw [bne_iff_ne]; exact hne
          clear hne hE2
          go_wp2_with fail
          go_ret
          exact ⟨rfl, HB3.out⟩
        · have HOK := Lib.hid (ordE_zero hz0)
          obtain ⟨m4, hm4⟩ : ∃ x, x = M / 4 := ⟨_, rfl⟩
          rw [← hm4] at hR3 hl3
          rw [← hm4]
          have hnum := number_any a0 A3 m4 c3 g w3 hR3 (by omega)
          have HNUM2 := Lib.hid hnum
          have HM4 := Lib.hid hm4
          clear hnum hm4 hz0 hR3
          go_wp2_with fail
          refine HNUM2.out.mono ?_
          intro e w4 hr
          obtain ⟨hb4, hr⟩ := hr
          have HB4 := Lib.hid (HB3.out.trans (hb4.mono HB3.out.size))
          clear hb4 HNUM2
          have h41 : 4 * m4 = M := by have := HOK.out.1; have := HM4.out; omega
          rcases hr with ⟨hne, rfl⟩ | ⟨_, A4, c4, rfl, hR4, hl4, hm5⟩
          · exact absurd (by have := HOK.out.2.2; rwa [← HM4.out] at this) hne
          · rw [h41] at hR4 hl4 ⊢
            have HR4 := Lib.hid hR4
            clear hR4
            have HS : Hid (sameI M M (dgF g) g = true) := Lib.hid (sameI_iff.2 ⟨rfl, fun q hq => dgF_of_ok HOK.out.1 HOK.out.2.1 hq⟩)
            go_wp2_with fail
            refine (ints_any A4 A2 M c4 M c2 (dgF g) g _ HR4.out (HN.out.below HB4.out) (by omega) (by omega)).mono ?_
            rintro e w5 ⟨rfl, hb5⟩
            have HB5 := Lib.hid (HB4.out.trans (hb5.mono HB4.out.size))
            clear hb5
            rw [HS.out]
            go_wp2_with fail
            go_ret
            exact ⟨rfl, HB5.out⟩
  · go_enter Try.func3, Try.ntmps3
    go_wp2_with fail
    refine HNUM.out.mono ?_
    intro e w1 hr
    obtain ⟨hb1, hr⟩ := hr
    have HBK := Lib.hid hb1
    rcases hr with ⟨hne, rfl⟩ | ⟨hz, _⟩
    · obtain ⟨E, hE⟩ : ∃ x, x = ckO a0 n F := ⟨_, rfl⟩
      rw [← hE] at hne
      rw [← hE]
      have q0 : (E == 0) = false := by rw [beq_eq_false_iff_ne]; exact hne
      clear hne hE hb1 HNUM h0
      go_wp2_with fail
      refine (HORD2.out _ HBK.out).mono ?_
      intro e w3 hr
      obtain ⟨hb3, hr⟩ := hr
      have HB3 := Lib.hid (HBK.out.trans (hb3.mono HBK.out.size))
      clear hb3
      rcases hr with ⟨hne, rfl⟩ | ⟨hz0, A3, c3, rfl, hR3, hl3, hm3⟩
      · obtain ⟨E2, hE2⟩ : ∃ x, x = ordE a0 M g := ⟨_, rfl⟩
        rw [← hE2] at hne
        rw [← hE2]
        have q2 : (E2 != 0) = true := by rw [bne_iff_ne]; exact hne
        clear hne hE2
        go_wp2_with fail
        go_ret
        exact ⟨rfl, HB3.out⟩
      · have HOK := Lib.hid (ordE_zero hz0)
        obtain ⟨m4, hm4⟩ : ∃ x, x = M / 4 := ⟨_, rfl⟩
        rw [← hm4] at hR3 hl3
        rw [← hm4]
        have hnum := number_any a0 A3 m4 c3 g w3 hR3 (by omega)
        have HNUM2 := Lib.hid hnum
        have HM4 := Lib.hid hm4
        clear hnum hm4 hz0 hR3
        go_wp2_with fail
        refine HNUM2.out.mono ?_
        intro e w4 hr
        obtain ⟨hb4, hr⟩ := hr
        have HB4 := Lib.hid (HB3.out.trans (hb4.mono HB3.out.size))
        clear hb4 HNUM2
        have h41 : 4 * m4 = M := by have := HOK.out.1; have := HM4.out; omega
        rcases hr with ⟨hne, rfl⟩ | ⟨_, A4, c4, rfl, hR4, hl4, hm5⟩
        · exact absurd (by have := HOK.out.2.2; rwa [← HM4.out] at this) hne
        · rw [h41] at hR4 hl4 ⊢
          have HR4 := Lib.hid hR4
          clear hR4
          have HS : Hid (sameI M M (dgF g) g = true) := Lib.hid (sameI_iff.2 ⟨rfl, fun q hq => dgF_of_ok HOK.out.1 HOK.out.2.1 hq⟩)
          go_wp2_with fail
          refine (ints_any A4 A2 M c4 M c2 (dgF g) g _ HR4.out (HN.out.below HB4.out) (by omega) (by omega)).mono ?_
          rintro e w5 ⟨rfl, hb5⟩
          have HB5 := Lib.hid (HB4.out.trans (hb5.mono HB4.out.size))
          clear hb5
          rw [HS.out]
          go_wp2_with fail
          go_ret
          exact ⟨rfl, HB5.out⟩
    · exact absurd hz h0
end Go.Proofs.Ythdonbgimehkjaa
