/- The walk of TopDigits. Conditions: the arguments read as told. -/
import Derived.Test.YtmdcfbofjlpbmaaBoth
import Derived.Test.YtmdcfbofjlpbmaaDecoded
import Derived.Test.YtmdcfbofjlpbmaaCounted
import Derived.Test.YtmdcfbofjlpbmaaCodeRun
namespace Go.Proofs.Ytmdcfbofjlpbmaa
open Go.ChangeShapes Go.WideShapes Go.ChangeAt Go.RowKit
set_option linter.unusedVariables false
theorem dcB_dg {N : Nat} (F : Nat → Int) : dcB (4 * N) (dgF F) = true := decide_eq_true ⟨by omega, fun k _ => bdO_dg F k⟩
theorem DecRet.yes {M : Nat} {g : Nat → Int} {w w' : World} {e : Ending} (h : DecRet M g w e w') (hd : dcB M g = true) : Below w.heap.size w w' ∧ ∃ A c, e = .returned (.tuple #[.slice A (M / 4) c, .bool true]) ∧ Rd w' A ((M / 4) * 4) (fun q => .int .i64 (g q)) ∧ M / 4 ≤ c ∧ c ≤ maxLen := by
  obtain ⟨hb, ⟨h1, _⟩ | ⟨_, h2⟩⟩ := h
  · rw [hd] at h1; cases h1
  · exact ⟨hb, h2⟩
theorem oE_dgAll {cs : Int} {n : Nat} {F : Nat → Int} (h : ∀ i, i < n → oE cs n F i = 0) : fstE (oE cs n (dgF F)) n = 0 := fstE_zero.2 fun i hi => by rw [oE_dg]; exact h i hi
def bigB (f : Nat → Int) (i : Nat) : Bool := decide (20 < f i)
set_option maxRecDepth 100000 in
theorem tooMuch_any (A : Option Addr) (m c : Nat) (f : Nat → Int) (w : World) (h : Rd w A m (fun i => .int .i64 (f i))) (hm : m ≤ maxLen) :
    Calls Try.prog 7 #[.slice A m c] w fun e w' => e = .returned (.bool (anyB (bigB f) m)) ∧ w = w' := by
  unfold maxLen at hm
  go_enter Try.func7, Try.ntmps7
  go_wp2_with fail
  go_loop [7] (fun s7 => ∃ k : Nat, k ≤ m ∧ s7 = .int .i64 (k : Nat) ∧ Hid (∀ j, j < k → bigB f j = false)) (fun s7 => m - (intOf s7).toNat)
  case atStart => exact ⟨0, Nat.zero_le _, rfl, Lib.hid (fun j hj => absurd hj (Nat.not_lt_zero _))⟩
  case round =>
    obtain ⟨k, hk, rfl, HA⟩ := hrel
    by_cases hlt : k < m
    · obtain ⟨b, off, rfl, hb, hc⟩ := h.at_ hlt
      have H := Lib.hid h
      have hq : bigB f k = decide (20 < f k) := rfl
      obtain ⟨x, hx⟩ : ∃ x, x = f k := ⟨_, rfl⟩
      rw [← hx] at hc hq
      have HQ := Lib.hid hq
      clear h hx hq
      by_cases h20 : 20 < x
      · have HY : Hid (anyB (bigB f) m = true) := Lib.hid (anyB_yes hlt (by rw [HQ.out]; exact decide_eq_true h20))
        go_wp2_with fail
        go_ret
        exact ⟨ret_bool HY.out.symm, rfl⟩
      · have HY : Hid (bigB f k = false) := Lib.hid (by rw [HQ.out]; exact decide_eq_false h20)
        go_wp2_with fail
        go_round
        case rel => exact ⟨k + 1, by omega, by go_num, Lib.hid fun j hj => by
          by_cases e : j = k
          · subst e; exact HY.out
          · exact HA.out j (Nat.lt_of_le_of_ne (Nat.le_of_lt_succ hj) e)⟩
        case measure => simp [intOf]; omega
    · obtain rfl : k = m := by omega
      go_wp2_with fail
      go_ret
      exact ⟨ret_bool (anyB_no HA.out).symm, rfl⟩
set_option maxRecDepth 100000 in
set_option maxHeartbeats 4000000 in
theorem topDigits.walk (w : World) (a0 : Int) (A1 : Option Addr) (n1 c1 : Nat) (F : Nat → Int) (A2 : Option Addr) (n2 c2 : Nat) (G : Nat → Int) (A3 : Option Addr) (m c3 : Nat) (f : Nat → Int)
    (w0 : (Lit.int .i64 a0).wf = true) (r1 : Rd w A1 (n1 * 4) (fun q => .int .i64 (F q))) (wf1 : ∀ q, (Lit.int .i64 (F q)).wf = true) (l1 : n1 ≤ c1) (m1 : c1 ≤ maxLen) (z1 : c1 * 32 ≤ 140737488351232)
    (r2 : Rd w A2 (n2 * 4) (fun q => .int .i64 (G q))) (wf2 : ∀ q, (Lit.int .i64 (G q)).wf = true) (l2 : n2 ≤ c2) (m2 : c2 ≤ maxLen) (z2 : c2 * 32 ≤ 140737488351232)
    (r3 : Rd w A3 m (fun q => .int .i64 (f q))) (wf3 : ∀ q, (Lit.int .i64 (f q)).wf = true) (l3 : m ≤ c3) (m3 : c3 ≤ maxLen) (z3 : c3 * 8 ≤ 140737488351232) :
    Calls Try.prog 3 #[.int .i64 a0, .slice A1 n1 c1, .slice A2 n2 c2, .slice A3 m c3] w fun e w' => e = .returned (.bool true) ∧ Below w.heap.size w w' := by
  have hn1 : n1 ≤ maxLen := by omega
  have hn2 : n2 ≤ maxLen := by omega
  have hmm : m ≤ maxLen := by omega
  have HN1 := Lib.hid hn1
  have HN2 := Lib.hid hn2
  have HMM := Lib.hid hmm
  have HL_w := Lib.hid r1
  have HK_w := Lib.hid r2
  have HH_w := Lib.hid r3
  have HW_w := Lib.hid (Below.refl w.heap.size w)
  have hb0 := (Below.refl w.heap.size w).alloc (Nat.le_refl _) (.cells #[.int .i64 1, .int .i64 0, .int .i64 1, .int .i64 0] 28)
  have HONE := Lib.hid (number_any 1 (some ⟨w.heap.size, 0, none⟩) 1 1 oneF _ (rdOne w 28) (by decide))
  obtain ⟨T1, hT1⟩ : ∃ T : Nat, Int.toNat 150 = T := ⟨_, rfl⟩
  obtain ⟨T2, hT2⟩ : ∃ T : Nat, T = 20000 := ⟨_, rfl⟩
  have t1 : T1 + T1 = 300 := by rw [← hT1]; rfl
  have t12 : T1 + T1 ≤ T2 := by omega
  have t2 : T2 ≤ 20000 := by omega
  have e2 : ((T2 : Nat) : Int) = 20000 := by rw [hT2]; rfl
  have E2 := Lib.hid e2
  have HT1 := Lib.hid hT1
  have HT11 := Lib.hid t1
  have t1b : T1 = 150 := by omega
  have HB0 := Lib.hid hb0
  clear r1 r2 r3 w0 wf1 wf2 wf3 hn1 hn2 hmm hT1 hT2 e2 t1 t1b hb0 l1 l2 l3 m1 m2 m3 z1 z2 z3
  go_enter Try.func3, Try.ntmps3
  go_wp2_with fail
  refine HONE.out.mono ?_
  intro e w1 hr
  obtain ⟨hb1', hr⟩ := hr
  have hb1 : Below w.heap.size w w1 := HB0.out.trans (hb1'.mono HB0.out.size)
  have HW_w1 := Lib.hid (HW_w.out.trans (hb1.mono HW_w.out.size))
  have HL_w1 := Lib.hid (HL_w.out.below hb1)
  have HK_w1 := Lib.hid (HK_w.out.below hb1)
  have HH_w1 := Lib.hid (HH_w.out.below hb1)
  clear HW_w HL_w HK_w HH_w
  clear HONE hb1 hb1' HB0
  rcases hr with ⟨hne, rfl⟩ | ⟨_, A4, c4, rfl, -, -, -⟩
  · exact absurd ckOne hne
  have hn4 : (((4 * 1 : Nat) : Int)) = 4 := rfl
  go_wp2_with fail
  clear hn4
  refine (number_any a0 A1 n1 c1 F w1 HL_w1.out HN1.out).mono ?_
  intro e w2 hr
  obtain ⟨hb2, hr⟩ := hr
  have HW_w2 := Lib.hid (HW_w1.out.trans (hb2.mono HW_w1.out.size))
  have HL_w2 := Lib.hid (HL_w1.out.below hb2)
  have HK_w2 := Lib.hid (HK_w1.out.below hb2)
  have HH_w2 := Lib.hid (HH_w1.out.below hb2)
  clear HW_w1 HL_w1 HK_w1 HH_w1
  clear hb2
  rcases hr with ⟨hne, rfl⟩ | ⟨hz1, A5, c5, rfl, hR5, hl5, hm5⟩
  · obtain ⟨E, hE⟩ : ∃ y, y = ckO a0 n1 F := ⟨_, rfl⟩
    rw [← hE] at hne
    rw [← hE]
    have q0 : (E != 0) = true := by rw [bne_iff_ne]; exact hne
    clear hne hE
    go_wp2_with fail
    refine (number_any a0 A2 n2 c2 G w2 HK_w2.out HN2.out).mono ?_
    intro e w3 hr
    obtain ⟨hb3, hr⟩ := hr
    have HW_w3 := Lib.hid (HW_w2.out.trans (hb3.mono HW_w2.out.size))
    clear hb3
    rcases hr with ⟨_, rfl⟩ | ⟨_, A6, c6, rfl, -, -, -⟩
    · go_wp2_with fail
      go_ret
      exact ⟨rfl, HW_w3.out⟩
    · go_wp2_with fail
      go_ret
      exact ⟨rfl, HW_w3.out⟩
  obtain ⟨hn12, hoe1⟩ := ckO_n hz1
  have HZ1 := Lib.hid hz1
  have HOE1 := Lib.hid hoe1
  obtain ⟨D1, hD1⟩ : ∃ D, D = 4 * n1 := ⟨_, rfl⟩
  rw [← hD1] at hR5 hl5
  rw [← hD1]
  have HD1 := Lib.hid hD1
  have hd1 : D1 ≤ 48 := by omega
  have HX_w2 := Lib.hid hR5
  clear hz1 hoe1 hR5 hD1
  go_wp2_with fail
  refine (number_any a0 A2 n2 c2 G w2 HK_w2.out HN2.out).mono ?_
  intro e w3 hr
  obtain ⟨hb3, hr⟩ := hr
  have HW_w3 := Lib.hid (HW_w2.out.trans (hb3.mono HW_w2.out.size))
  have HL_w3 := Lib.hid (HL_w2.out.below hb3)
  have HK_w3 := Lib.hid (HK_w2.out.below hb3)
  have HH_w3 := Lib.hid (HH_w2.out.below hb3)
  have HX_w3 := Lib.hid (HX_w2.out.below hb3)
  clear HW_w2 HL_w2 HK_w2 HH_w2 HX_w2
  clear hb3
  rcases hr with ⟨hne, rfl⟩ | ⟨hz2, A6, c6, rfl, hR6, hl6, hm6⟩
  · obtain ⟨E, hE⟩ : ∃ y, y = ckO a0 n2 G := ⟨_, rfl⟩
    rw [← hE] at hne
    rw [← hE]
    have q0 : (E != 0) = true := by rw [bne_iff_ne]; exact hne
    clear hne hE
    go_wp2_with fail
    all_goals
      go_ret
      exact ⟨rfl, HW_w3.out⟩
  obtain ⟨hn22, hoe2⟩ := ckO_n hz2
  have HZ2 := Lib.hid hz2
  have HOE2 := Lib.hid hoe2
  obtain ⟨D2, hD2⟩ : ∃ D, D = 4 * n2 := ⟨_, rfl⟩
  rw [← hD2] at hR6 hl6
  rw [← hD2]
  have HD2 := Lib.hid hD2
  have hd2 : D2 ≤ 48 := by omega
  have HY_w3 := Lib.hid hR6
  have ho1 : ordE a0 D1 (dgF F) = 0 := by rw [HD1.out]; exact ordE_dg HZ1.out
  have ho2 : ordE a0 D2 (dgF G) = 0 := by rw [HD2.out]; exact ordE_dg HZ2.out
  have dv1 : D1 / 4 = n1 := by have := HD1.out; omega
  have dv2 : D2 / 4 = n2 := by have := HD2.out; omega
  have hboth := both_any a0 A5 D1 c5 (dgF F) A6 D2 c6 (dgF G) w3 HX_w3.out hl5 hm5 (by omega) hR6 hl6 hm6 (by omega) ho1 ho2
  rw [dv1, dv2] at hboth
  have HBOTH := Lib.hid hboth
  clear hz2 hoe2 hR6 hD2 ho1 ho2 dv1 dv2 hboth
  go_wp2_with fail
  refine HBOTH.out.mono ?_
  rintro e w4 ⟨hb4, A7, c7, rfl, hR7, hl7, hm7⟩
  have HW_w4 := Lib.hid (HW_w3.out.trans (hb4.mono HW_w3.out.size))
  have HL_w4 := Lib.hid (HL_w3.out.below hb4)
  have HK_w4 := Lib.hid (HK_w3.out.below hb4)
  have HH_w4 := Lib.hid (HH_w3.out.below hb4)
  have HX_w4 := Lib.hid (HX_w3.out.below hb4)
  have HY_w4 := Lib.hid (HY_w3.out.below hb4)
  clear HW_w3 HL_w3 HK_w3 HH_w3 HX_w3 HY_w3
  obtain ⟨N, hN⟩ : ∃ N, N = n1 + n2 := ⟨_, rfl⟩
  rw [← hN] at hR7 hl7
  rw [← hN]
  have HNN := Lib.hid hN
  have hN24 : N ≤ 24 := by omega
  obtain ⟨D3, hD3⟩ : ∃ D, D = 4 * N := ⟨_, rfl⟩
  rw [← hD3] at hR7 hl7
  rw [← hD3]
  have HD3 := Lib.hid hD3
  have hd3 : D3 ≤ 96 := by omega
  have HM_w4 := Lib.hid hR7
  clear hb4 hR7 hN hD3 HBOTH
  go_wp2_with fail
  refine (run_any a0 150 A1 A3 n1 c1 m c3 F f w4 HL_w4.out HH_w4.out HN1.out HMM.out).mono ?_
  intro e w5 hr
  obtain ⟨hb5, hr⟩ := hr
  have HW_w5 := Lib.hid (HW_w4.out.trans (hb5.mono HW_w4.out.size))
  have HL_w5 := Lib.hid (HL_w4.out.below hb5)
  have HK_w5 := Lib.hid (HK_w4.out.below hb5)
  have HH_w5 := Lib.hid (HH_w4.out.below hb5)
  have HX_w5 := Lib.hid (HX_w4.out.below hb5)
  have HY_w5 := Lib.hid (HY_w4.out.below hb5)
  have HM_w5 := Lib.hid (HM_w4.out.below hb5)
  clear HW_w4 HL_w4 HK_w4 HH_w4 HX_w4 HY_w4 HM_w4
  clear hb5
  rcases hr with ⟨hne, rfl⟩ | ⟨hcr1, A8, c8, he, hR8, hl8⟩
  · obtain ⟨E, hE⟩ : ∃ y, y = crE a0 n1 F m 150 f := ⟨_, rfl⟩
    rw [← hE] at hne
    rw [← hE]
    have q0 : (E != 0) = true := by rw [bne_iff_ne]; exact hne
    clear hne hE
    go_wp2_with fail
    go_ret
    exact ⟨rfl, HW_w5.out⟩
  rw [HT1.out] at he hR8
  have hha : haE a0 m 150 f = 0 := by
    have : crE a0 n1 F m 150 f = haE a0 m 150 f := if_pos HZ1.out
    rw [← this]; exact hcr1
  have hma : (m : Int) = a0 := Classical.byContradiction fun h => by
    unfold haE at hha; rw [if_neg h] at hha; cases hha
  have hrg : fstE (rgE f) m = 0 := Classical.byContradiction fun h => by
    unfold haE at hha; rw [if_pos hma, if_neg h] at hha; cases hha
  have hfb := rgE_bd hrg
  have HMA := Lib.hid hma
  have HFB := Lib.hid hfb
  obtain ⟨⟨cs1, cs4, -, -⟩, -⟩ := ckO_zero HZ1.out
  have hm1 : 1 ≤ m := by omega
  have hm4' : m ≤ 4 := by omega
  obtain ⟨cf, hcf⟩ : ∃ cf, cf = (runS F n1 f 0 T1).1 := ⟨_, rfl⟩
  have hR8' : Rd w5 A8 m (fun i => .int .i64 (cf i)) := by rw [hcf]; exact hR8
  have HCF := Lib.hid hcf
  have HC_w5 := Lib.hid hR8'
  obtain ⟨S1, hS1⟩ : ∃ y, y = (runS F n1 f 0 T1).2 := ⟨_, rfl⟩
  rw [← hS1] at he
  have HS1 := Lib.hid hS1
  obtain ⟨K1, hK1⟩ : ∃ y, y = runD F n1 f 0 T1 := ⟨_, rfl⟩
  rw [← hK1] at he
  have HK1 := Lib.hid hK1
  have hk1 : K1 ≤ T1 := by rw [hK1]; exact runD_le T1
  have hT150 : T1 ≤ 150 := by have := HT11.out; omega
  subst he
  clear hcr1 hR8 hR8' hha hma hrg hfb hcf hS1 hK1
  by_cases hat : S1 < (n1 : Int)
  case' pos =>
    go_wp2_with fail
    go_ret
    exact ⟨rfl, HW_w5.out⟩
  have hat' : (n1 : Int) ≤ S1 := by omega
  clear hat
  cases htm : anyB (bigB cf) m with
  | true =>
    have HTM := Lib.hid htm
    clear htm
    go_wp2_with fail
    refine (tooMuch_any A8 m c8 cf w5 HC_w5.out HMM.out).mono ?_
    rintro e w' ⟨rfl, rfl⟩
    rw [HTM.out]
    go_wp2_with fail
    go_ret
    exact ⟨rfl, HW_w5.out⟩
  | false =>
    have HTM := Lib.hid htm
    have hcb : ∀ i, i < m → 0 ≤ cf i ∧ cf i ≤ 20 := fun i hi => by
      have h1 := (run_inv (m := m) (M := 20) (C := f) (cs := a0) (by have := HMA.out; omega) HOE1.out ⟨Int.le_refl 0, by omega⟩ HFB.out T1).2 i hi
      rw [← HCF.out] at h1
      have h2 := of_decide_eq_false (anyB_false.1 HTM.out i hi)
      omega
    have hcr2 : crE a0 n2 G m 150 cf = 0 := by
      have e1 : crE a0 n2 G m 150 cf = haE a0 m 150 cf := if_pos HZ2.out
      rw [e1]; unfold haE
      rw [if_pos HMA.out, if_pos, if_pos (by decide)]
      refine fstE_zero.2 fun i hi => ?_
      unfold rgE
      rw [if_pos (hcb i hi)]
    have HCR2 := Lib.hid hcr2
    clear htm hcb hcr2
    go_wp2_with fail
    refine (tooMuch_any A8 m c8 cf w5 HC_w5.out HMM.out).mono ?_
    rintro e w' ⟨rfl, rfl⟩
    rw [HTM.out]
    go_wp2_with fail
    refine (run_any a0 150 A2 A8 n2 c2 m c8 G cf w5 HK_w5.out HC_w5.out HN2.out HMM.out).mono ?_
    intro e w6 hr
    obtain ⟨hb6, hr⟩ := hr
    have HW_w6 := Lib.hid (HW_w5.out.trans (hb6.mono HW_w5.out.size))
    have HL_w6 := Lib.hid (HL_w5.out.below hb6)
    have HK_w6 := Lib.hid (HK_w5.out.below hb6)
    have HH_w6 := Lib.hid (HH_w5.out.below hb6)
    have HX_w6 := Lib.hid (HX_w5.out.below hb6)
    have HY_w6 := Lib.hid (HY_w5.out.below hb6)
    have HM_w6 := Lib.hid (HM_w5.out.below hb6)
    have HC_w6 := Lib.hid (HC_w5.out.below hb6)
    clear HW_w5 HL_w5 HK_w5 HH_w5 HX_w5 HY_w5 HM_w5 HC_w5
    clear hb6
    rcases hr with ⟨hne, _⟩ | ⟨_, A9, c9, he, hR9, hl9⟩
    · exact absurd HCR2.out hne
    rw [HT1.out] at he hR9
    have HD_w6 := Lib.hid hR9
    obtain ⟨S2, hS2⟩ : ∃ y, y = (runS G n2 cf 0 T1).2 := ⟨_, rfl⟩
    rw [← hS2] at he
    have HS2 := Lib.hid hS2
    obtain ⟨K2, hK2⟩ : ∃ y, y = runD G n2 cf 0 T1 := ⟨_, rfl⟩
    rw [← hK2] at he
    have HK2 := Lib.hid hK2
    have hk2 : K2 ≤ T1 := by rw [hK2]; exact runD_le T1
    subst he
    clear hR9 hS2 hK2
    by_cases hon : S2 < (n2 : Int)
    case' pos =>
      go_wp2_with fail
      go_ret
      exact ⟨rfl, HW_w6.out⟩
    have hon' : (n2 : Int) ≤ S2 := by omega
    clear hon
    have hlaw := both_law (F := dgF F) (G := dgF G) (cs := a0) (n := n1) (m := n2) (T := T1) (T2 := T2) (fun i hi => by rw [oE_dg]; exact HOE1.out i hi) (fun i hi => by rw [oE_dg]; exact HOE2.out i hi) f t12
      (by rw [runS_dg, ← HS1.out]; omega) (by rw [runS_dg, runS_dg, ← HCF.out, ← HS2.out]; omega)
    rw [runS_dg, runS_dg, ← HCF.out, ← HNN.out, ← HS2.out] at hlaw
    have HLAW := Lib.hid hlaw.1
    have hk12 : (K1 : Int) + (K2 : Int) ≤ 300 := by have := HT11.out; omega
    have hk1' : K1 ≤ 150 := by omega
    have hk2' : K2 ≤ 150 := by omega
    clear hlaw
    go_wp2_with fail
    refine (decoded_any A7 D3 c7 _ w6 HM_w6.out (by omega)).mono ?_
    intro e w7 hr
    obtain ⟨hb7, A10, c10, rfl, hR10, hl10, hm10⟩ := hr.yes (by rw [HD3.out]; exact dcB_dg _)
    clear hr
    have HW_w7 := Lib.hid (HW_w6.out.trans (hb7.mono HW_w6.out.size))
    have HL_w7 := Lib.hid (HL_w6.out.below hb7)
    have HK_w7 := Lib.hid (HK_w6.out.below hb7)
    have HH_w7 := Lib.hid (HH_w6.out.below hb7)
    have HX_w7 := Lib.hid (HX_w6.out.below hb7)
    have HY_w7 := Lib.hid (HY_w6.out.below hb7)
    have HM_w7 := Lib.hid (HM_w6.out.below hb7)
    have HC_w7 := Lib.hid (HC_w6.out.below hb7)
    have HD_w7 := Lib.hid (HD_w6.out.below hb7)
    clear HW_w6 HL_w6 HK_w6 HH_w6 HX_w6 HY_w6 HM_w6 HC_w6 HD_w6
    have e3 : D3 / 4 = N := by have := HD3.out; omega
    rw [e3] at hR10 hl10
    rw [e3]
    have HO_w7 := Lib.hid hR10
    clear hb7 hR10 e3
    have hoeN : ∀ i, i < N → oE a0 N (btF (dgF F) n1 (dgF G)) i = 0 := fun i hi => by
      rw [HNN.out]
      exact oE_bt (fun i hi => by rw [oE_dg]; exact HOE1.out i hi) (fun i hi => by rw [oE_dg]; exact HOE2.out i hi) i (by rw [← HNN.out]; exact hi)
    have HOEN := Lib.hid hoeN
    clear hoeN
    go_wp2_with fail
    refine (ordersCheck_any a0 A10 N c10 _ w7 HO_w7.out (by omega)).mono ?_
    rintro e w8 ⟨rfl, hb8⟩
    rw [oE_dgAll HOEN.out]
    have HW_w8 := Lib.hid (HW_w7.out.trans (hb8.mono HW_w7.out.size))
    have HL_w8 := Lib.hid (HL_w7.out.below hb8)
    have HK_w8 := Lib.hid (HK_w7.out.below hb8)
    have HH_w8 := Lib.hid (HH_w7.out.below hb8)
    have HX_w8 := Lib.hid (HX_w7.out.below hb8)
    have HY_w8 := Lib.hid (HY_w7.out.below hb8)
    have HM_w8 := Lib.hid (HM_w7.out.below hb8)
    have HC_w8 := Lib.hid (HC_w7.out.below hb8)
    have HD_w8 := Lib.hid (HD_w7.out.below hb8)
    have HO_w8 := Lib.hid (HO_w7.out.below hb8)
    clear HW_w7 HL_w7 HK_w7 HH_w7 HX_w7 HY_w7 HM_w7 HC_w7 HD_w7 HO_w7
    clear hb8
    go_wp2_with fail
    have hc3 := counted_any A10 N c10 (dgF (btF (dgF F) n1 (dgF G))) A3 m c3 f T2 w8 HO_w8.out HH_w8.out (by omega) hm1 hm4' (fun i hi => by rw [oE_dg, HMA.out]; exact HOEN.out i hi) (fun i hi => by have := HFB.out i hi; omega) t2
    rw [E2.out] at hc3
    have HC3 := Lib.hid hc3
    clear hc3
    refine HC3.out.mono ?_
    intro e w9 hr
    obtain ⟨hb9, A11, c11, he, hR11, -, -⟩ := hr
    have HW_w9 := Lib.hid (HW_w8.out.trans (hb9.mono HW_w8.out.size))
    have HL_w9 := Lib.hid (HL_w8.out.below hb9)
    have HK_w9 := Lib.hid (HK_w8.out.below hb9)
    have HH_w9 := Lib.hid (HH_w8.out.below hb9)
    have HX_w9 := Lib.hid (HX_w8.out.below hb9)
    have HY_w9 := Lib.hid (HY_w8.out.below hb9)
    have HM_w9 := Lib.hid (HM_w8.out.below hb9)
    have HC_w9 := Lib.hid (HC_w8.out.below hb9)
    have HD_w9 := Lib.hid (HD_w8.out.below hb9)
    have HO_w9 := Lib.hid (HO_w8.out.below hb9)
    clear HW_w8 HL_w8 HK_w8 HH_w8 HX_w8 HY_w8 HM_w8 HC_w8 HD_w8 HO_w8
    rw [runS_dg, HLAW.out] at hR11 he
    have HP_w9 := Lib.hid hR11
    change e = .returned (.tuple #[.slice A11 m c11, .int .i64 (S2 + (n1 : Int)), .int .i64 (runD (dgF (btF (dgF F) n1 (dgF G))) N f 0 T2)]) at he
    obtain ⟨S3, hS3⟩ : ∃ y, y = S2 + (n1 : Int) := ⟨_, rfl⟩
    rw [← hS3] at he
    have hto : (N : Int) ≤ S3 := by have := HNN.out; omega
    subst he
    clear hb9 hR11 HC3 hS3
    go_wp2_with fail
    refine (ints_any A11 A9 m c11 m c9 _ _ _ HP_w9.out HD_w9.out HMM.out HMM.out).mono ?_
    rintro e w10 ⟨rfl, hb10⟩
    have HW_w10 := Lib.hid (HW_w9.out.trans (hb10.mono HW_w9.out.size))
    clear hb10
    rw [show sameI m m (fun i => (runS G n2 cf 0 T1).1 i) (fun i => (runS G n2 cf 0 T1).1 i) = true from sameI_iff.2 ⟨rfl, fun _ _ => rfl⟩]
    go_wp2_with fail
    go_ret
    exact ⟨rfl, HW_w10.out⟩
end Go.Proofs.Ytmdcfbofjlpbmaa
