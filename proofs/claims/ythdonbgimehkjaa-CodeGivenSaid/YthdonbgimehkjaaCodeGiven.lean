/- The walk of CodeGiven. Conditions: the arguments read as told. -/
import Derived.Test.YthdonbgimehkjaaGivenLaw
import Derived.Test.YthdonbgimehkjaaDecoded
import Derived.Test.YthdonbgimehkjaaCounted
namespace Go.Proofs.Ythdonbgimehkjaa
open Go.ChangeShapes Go.WideShapes Go.ChangeAt Go.RowKit
set_option linter.unusedVariables false
theorem dcB_dg {N : Nat} (F : Nat → Int) : dcB (4 * N) (dgF F) = true := decide_eq_true ⟨by omega, fun k _ => bdO_dg F k⟩
theorem DecRet.yes {M : Nat} {g : Nat → Int} {w w' : World} {e : Ending} (h : DecRet M g w e w') (hd : dcB M g = true) : Below w.heap.size w w' ∧ ∃ A c, e = .returned (.tuple #[.slice A (M / 4) c, .bool true]) ∧ Rd w' A ((M / 4) * 4) (fun q => .int .i64 (g q)) ∧ M / 4 ≤ c ∧ c ≤ maxLen := by
  obtain ⟨hb, ⟨h1, _⟩ | ⟨_, h2⟩⟩ := h
  · rw [hd] at h1; cases h1
  · exact ⟨hb, h2⟩
theorem oE_dgAll {cs : Int} {n : Nat} {F : Nat → Int} (h : ∀ i, i < n → oE cs n F i = 0) : fstE (oE cs n (dgF F)) n = 0 := fstE_zero.2 fun i hi => by rw [oE_dg]; exact h i hi
set_option maxRecDepth 100000 in
set_option maxHeartbeats 4000000 in
theorem codeGiven.walk (w : World) (a0 : Int) (A1 : Option Addr) (M c1 : Nat) (g : Nat → Int) (x : Int) (A2 : Option Addr) (m c2 : Nat) (f : Nat → Int)
    (w0 : (Lit.int .i64 a0).wf = true) (r1 : Rd w A1 M (fun q => .int .i64 (g q))) (wf1 : ∀ q, (Lit.int .i64 (g q)).wf = true) (l1 : M ≤ c1) (m1 : c1 ≤ maxLen) (z1 : c1 * 8 ≤ 140737488351232)
    (wx : (Lit.int .u8 x).wf = true) (r2 : Rd w A2 m (fun q => .int .i64 (f q))) (wf2 : ∀ q, (Lit.int .i64 (f q)).wf = true) (l2 : m ≤ c2) (m2 : c2 ≤ maxLen) (z2 : c2 * 8 ≤ 140737488351232) :
    Calls Try.prog 4 #[.int .i64 a0, .slice A1 M c1, .int .u8 x, .slice A2 m c2] w fun e w' => e = .returned (.bool true) ∧ Below w.heap.size w w' := by
  have hx : 0 ≤ x ∧ x ≤ 255 := by simp [Lit.wf, IntKind.min, IntKind.max, IntKind.signed, IntKind.bits] at wx; omega
  obtain ⟨x0, x1⟩ := hx
  obtain ⟨k, hk⟩ : ∃ k : Nat, x % 4 = (k : Int) := ⟨(x % 4).toNat, by omega⟩
  have hk3 : k ≤ 3 := by omega
  have hmm : m ≤ maxLen := by omega
  have HMM := Lib.hid hmm
  have HMC := Lib.hid (⟨l1, m1⟩ : M ≤ c1 ∧ c1 ≤ maxLen)
  have hz : M * 8 ≤ 140737488351232 := by omega
  have HZ := Lib.hid hz
  have HN_w := Lib.hid r1
  have HH_w := Lib.hid r2
  have HW_w := Lib.hid (Below.refl w.heap.size w)
  have HG1 : Hid (Calls Try.prog 9 #[.int .i64 a0, .slice A1 M c1, .int .i64 (x % 4)] w (GivRet a0 M g k w)) := Lib.hid (by
    rw [hk]; exact given_any a0 A1 M c1 g k w r1 l1 m1 hz hk3)
  have HG0 : Hid (∀ W, Below w.heap.size w W → Calls Try.prog 9 #[.int .i64 a0, .slice A1 M c1, .int .i64 0] W (GivRet a0 M g 0 W)) := Lib.hid fun W hW => given_any a0 A1 M c1 g 0 W (r1.below hW) l1 m1 hz (by omega)
  have HK := Lib.hid hk
  clear w0 r1 wf1 wx r2 wf2 z1 z2 hmm hz m1 m2 hk l1 l2
  go_enter Try.func4, Try.ntmps4
  go_wp2_with fail
  refine HG1.out.mono ?_
  intro e w1 hr
  obtain ⟨hb1, hr⟩ := hr
  have HW_w1 := Lib.hid (HW_w.out.trans (hb1.mono HW_w.out.size))
  have HN_w1 := Lib.hid (HN_w.out.below hb1)
  have HH_w1 := Lib.hid (HH_w.out.below hb1)
  clear HW_w HN_w HH_w
  clear HG1 hb1
  rcases hr with ⟨hne, rfl⟩ | ⟨hz0, A3, c3, rfl, hR3, hl3, hm3⟩
  · obtain ⟨E, hE⟩ : ∃ y, y = ordE a0 M g := ⟨_, rfl⟩
    have HE := Lib.hid hE
    rw [← hE] at hne
    rw [← hE]
    have q0 : (E != 0) = true := by rw [bne_iff_ne]; exact hne
    have HNE := Lib.hid hne
    clear hne hE
    go_wp2_with fail
    refine (HG0.out _ HW_w1.out).mono ?_
    intro e w2 hr
    obtain ⟨hb2, hr⟩ := hr
    have HW_w2 := Lib.hid (HW_w1.out.trans (hb2.mono HW_w1.out.size))
    clear hb2
    rcases hr with ⟨_, rfl⟩ | ⟨hz, _⟩
    · go_wp2_with fail
      go_ret
      exact ⟨rfl, HW_w2.out⟩
    · exact absurd (HE.out.trans hz) HNE.out
  obtain ⟨h4, hbd, hck⟩ := ordE_zero hz0
  obtain ⟨⟨b1, b2, b3, b4⟩, -⟩ := ord_bd hz0
  have hDC : dcB M g = true := decide_eq_true ⟨h4, hbd⟩
  obtain ⟨-, hoe⟩ := ckO_n hck
  have HDC := Lib.hid hDC
  have HCK := Lib.hid hck
  have HZ0 := Lib.hid hz0
  obtain ⟨n, hn⟩ : ∃ n, n = M / 4 := ⟨_, rfl⟩
  rw [← hn] at hR3 hl3 b1 b2 hoe
  rw [← hn]
  have HOE := Lib.hid hoe
  have HNE := Lib.hid hn
  obtain ⟨D3, hD3⟩ : ∃ y, y = 4 * (k + n) := ⟨_, rfl⟩
  rw [← hD3] at hR3 hl3
  rw [← hD3]
  have HD3 := Lib.hid hD3
  have hD3b : D3 ≤ 60 := by omega
  have HM_w1 := Lib.hid hR3
  clear h4 hbd hck hDC hoe hn hD3 hR3 hz0
  go_wp2_with fail
  refine (HG0.out _ HW_w1.out).mono ?_
  intro e w2 hr
  obtain ⟨hb2, hr⟩ := hr
  have HW_w2 := Lib.hid (HW_w1.out.trans (hb2.mono HW_w1.out.size))
  have HN_w2 := Lib.hid (HN_w1.out.below hb2)
  have HH_w2 := Lib.hid (HH_w1.out.below hb2)
  have HM_w2 := Lib.hid (HM_w1.out.below hb2)
  clear HW_w1 HN_w1 HH_w1 HM_w1
  clear hb2 HG0
  rcases hr with ⟨hne, _⟩ | ⟨_, A4, c4, rfl, hR4, hl4, hm4⟩
  · exact absurd HZ0.out hne
  rw [← HNE.out] at hR4 hl4
  rw [← HNE.out]
  obtain ⟨D4, hD4⟩ : ∃ y, y = 4 * (0 + n) := ⟨_, rfl⟩
  rw [← hD4] at hR4 hl4
  rw [← hD4]
  have HD4 := Lib.hid hD4
  have hD4b : D4 ≤ 60 := by omega
  have HO_w2 := Lib.hid hR4
  clear hR4 hD4
  go_wp2_with fail
  refine (decoded_any A3 D3 c3 _ w2 HM_w2.out (by omega)).mono ?_
  intro e w3 hr
  obtain ⟨hb3, A5, c5, rfl, hR5, hl5, hm5⟩ := hr.yes (by rw [HD3.out]; exact dcB_dg _)
  clear hr
  have HW_w3 := Lib.hid (HW_w2.out.trans (hb3.mono HW_w2.out.size))
  have HN_w3 := Lib.hid (HN_w2.out.below hb3)
  have HH_w3 := Lib.hid (HH_w2.out.below hb3)
  have HM_w3 := Lib.hid (HM_w2.out.below hb3)
  have HO_w3 := Lib.hid (HO_w2.out.below hb3)
  clear HW_w2 HN_w2 HH_w2 HM_w2 HO_w2
  have e3 : D3 / 4 = k + n := by have := HD3.out; omega
  rw [e3] at hR5 hl5
  rw [e3]
  have HA_w3 := Lib.hid hR5
  clear hb3 hR5 e3
  obtain ⟨N, hN⟩ : ∃ N, N = k + n := ⟨_, rfl⟩
  rw [← hN] at HA_w3 hl5
  rw [← hN]
  have HNN := Lib.hid hN
  have hN15 : N ≤ 15 := by omega
  clear hN
  go_wp2_with fail
  refine (decoded_any A4 D4 c4 _ w3 HO_w3.out (by omega)).mono ?_
  intro e w4 hr
  obtain ⟨hb4, A6, c6, rfl, hR6, hl6, hm6⟩ := hr.yes (by rw [HD4.out]; exact dcB_dg _)
  clear hr
  have HW_w4 := Lib.hid (HW_w3.out.trans (hb4.mono HW_w3.out.size))
  have HN_w4 := Lib.hid (HN_w3.out.below hb4)
  have HH_w4 := Lib.hid (HH_w3.out.below hb4)
  have HM_w4 := Lib.hid (HM_w3.out.below hb4)
  have HO_w4 := Lib.hid (HO_w3.out.below hb4)
  have HA_w4 := Lib.hid (HA_w3.out.below hb4)
  clear HW_w3 HN_w3 HH_w3 HM_w3 HO_w3 HA_w3
  have e4 : D4 / 4 = n := by have := HD4.out; omega
  rw [e4, gvF_zero] at hR6
  rw [e4] at hl6
  rw [e4]
  have HB_w4 := Lib.hid hR6
  clear hb4 hR6 e4
  go_wp2_with fail
  refine (decoded_any A1 M c1 g w4 HN_w4.out HZ.out).mono ?_
  intro e w5 hr
  obtain ⟨hb5, A7, c7, rfl, hR7, hl7, hm7⟩ := hr.yes HDC.out
  clear hr
  have HW_w5 := Lib.hid (HW_w4.out.trans (hb5.mono HW_w4.out.size))
  have HN_w5 := Lib.hid (HN_w4.out.below hb5)
  have HH_w5 := Lib.hid (HH_w4.out.below hb5)
  have HM_w5 := Lib.hid (HM_w4.out.below hb5)
  have HO_w5 := Lib.hid (HO_w4.out.below hb5)
  have HA_w5 := Lib.hid (HA_w4.out.below hb5)
  have HB_w5 := Lib.hid (HB_w4.out.below hb5)
  clear HW_w4 HN_w4 HH_w4 HM_w4 HO_w4 HA_w4 HB_w4
  rw [← HNE.out] at hR7 hl7
  rw [← HNE.out]
  have HL_w5 := Lib.hid hR7
  clear hb5 hR7
  go_wp2_with fail
  refine (digitsCheck_any a0 A1 M c1 g w5 HN_w5.out HZ.out HDC.out).mono ?_
  rintro e w6 ⟨rfl, hb6⟩
  rw [HCK.out]
  have HW_w6 := Lib.hid (HW_w5.out.trans (hb6.mono HW_w5.out.size))
  have HN_w6 := Lib.hid (HN_w5.out.below hb6)
  have HH_w6 := Lib.hid (HH_w5.out.below hb6)
  have HM_w6 := Lib.hid (HM_w5.out.below hb6)
  have HO_w6 := Lib.hid (HO_w5.out.below hb6)
  have HA_w6 := Lib.hid (HA_w5.out.below hb6)
  have HB_w6 := Lib.hid (HB_w5.out.below hb6)
  have HL_w6 := Lib.hid (HL_w5.out.below hb6)
  clear HW_w5 HN_w5 HH_w5 HM_w5 HO_w5 HA_w5 HB_w5 HL_w5
  clear hb6
  go_wp2_with fail
  refine (ordersCheck_any a0 A5 N c5 _ w6 HA_w6.out (by omega)).mono ?_
  rintro e w7 ⟨rfl, hb7⟩
  rw [show fstE (oE a0 N (dgF (gvF g k))) N = 0 by rw [HNN.out]; exact oE_dgAll (oE_gv k b3 HOE.out)]
  have HW_w7 := Lib.hid (HW_w6.out.trans (hb7.mono HW_w6.out.size))
  have HN_w7 := Lib.hid (HN_w6.out.below hb7)
  have HH_w7 := Lib.hid (HH_w6.out.below hb7)
  have HM_w7 := Lib.hid (HM_w6.out.below hb7)
  have HO_w7 := Lib.hid (HO_w6.out.below hb7)
  have HA_w7 := Lib.hid (HA_w6.out.below hb7)
  have HB_w7 := Lib.hid (HB_w6.out.below hb7)
  have HL_w7 := Lib.hid (HL_w6.out.below hb7)
  clear HW_w6 HN_w6 HH_w6 HM_w6 HO_w6 HA_w6 HB_w6 HL_w6
  clear hb7
  go_wp2_with fail
  refine (ordersCheck_any a0 A6 n c6 _ w7 HB_w7.out (by omega)).mono ?_
  rintro e w8 ⟨rfl, hb8⟩
  rw [show fstE (oE a0 n (dgF g)) n = 0 from oE_dgAll HOE.out]
  have HW_w8 := Lib.hid (HW_w7.out.trans (hb8.mono HW_w7.out.size))
  have HN_w8 := Lib.hid (HN_w7.out.below hb8)
  have HH_w8 := Lib.hid (HH_w7.out.below hb8)
  have HM_w8 := Lib.hid (HM_w7.out.below hb8)
  have HO_w8 := Lib.hid (HO_w7.out.below hb8)
  have HA_w8 := Lib.hid (HA_w7.out.below hb8)
  have HB_w8 := Lib.hid (HB_w7.out.below hb8)
  have HL_w8 := Lib.hid (HL_w7.out.below hb8)
  clear HW_w7 HN_w7 HH_w7 HM_w7 HO_w7 HA_w7 HB_w7 HL_w7
  clear hb8
  by_cases hma : (m : Int) = a0
  case' neg =>
    have qm : ((m : Int) != a0) = true := by rw [bne_iff_ne]; exact hma
    clear hma
    go_wp2_with fail
    go_ret
    exact ⟨rfl, HW_w8.out⟩
  have qm : ((m : Int) != a0) = false := by rw [bne_eq_false_iff_eq]; exact hma
  have HMA := Lib.hid hma
  clear hma
  by_cases hin : insB 17 m f = true
  case' neg =>
    have hin : insB 17 m f = false := by simpa using hin
    go_wp2_with fail
    refine (inside_any 17 A2 m c2 f w8 HH_w8.out HMM.out).mono ?_
    rintro e w9 ⟨rfl, rfl⟩
    rw [hin]
    clear hin
    go_wp2_with fail
    go_ret
    exact ⟨rfl, HW_w8.out⟩
  have hf : ∀ i, i < m → 0 ≤ f i ∧ f i < 17 := insB_iff.1 hin
  have HF := Lib.hid hf
  have hm1 : 1 ≤ m := by have := HMA.out; omega
  have hm4' : m ≤ 4 := by have := HMA.out; omega
  have f0 := hf 0 hm1
  obtain ⟨f0a, f0b⟩ := f0
  have HIN := Lib.hid hin
  clear hf hin
  have hR8 : Rd w8 A2 m (fun q => .int .i64 (f q)) := HH_w8.out
  have HSZ : w.heap.size ≤ w8.heap.size := HW_w8.out.size
  obtain ⟨v0, hv0⟩ : ∃ y, y = f 0 := ⟨_, rfl⟩
  rw [← hv0] at f0a f0b
  have HV0 := Lib.hid hv0
  clear hv0
  go_wp2_with fail
  refine (inside_any 17 A2 m c2 f w8 HH_w8.out HMM.out).mono ?_
  rintro e w9 ⟨rfl, rfl⟩
  rw [HIN.out]
  have hk3' : (x % 4 : Int) ≤ 3 := by have := HK.out; omega
  have hk0' : (0 : Int) ≤ x % 4 := by have := HK.out; omega
  go_wp2_with (at_builtin; refine wpList_app _ rfl (.tmp 108) (.tmp 109) 23 rfl EIc rfl (Own.empty w8 w8.heap.size 3 1 (fun _ => .int .i64 0) (Nat.le_refl _)) rfl (l := m) (by omega) (hR8.alloc _) (fun _ _ => rfl) (by unfold maxLen; omega) (by omega) (by simp) m m (by omega) (by omega) ?_; intro A8 c8 w9 hown9 hg9 hat9 hbl9; have HO9 := Lib.hid hown9; have HB9 := Lib.hid (((Below.refl w8.heap.size w8).alloc (Nat.le_refl _) (.cells #[] 3)).trans hbl9); obtain ⟨g8, R8, rfl, hg8, hrow8, hmc8, hR8f⟩ := hown9.row hm1; have hc8 := hrow8.cell (i := 0) (by omega); rw [hR8f 0 hm1, cat_ge (Nat.zero_le _)] at hc8; have hc80 : w9.cell? ⟨g8, 0, none⟩ = some (.int .i64 v0) := hc8.trans (by rw [HV0.out]); have hz80 := hrow8.frozen 0; have hm0I : (0 : Int) < (m : Int) := (by omega); have HR8F : Hid (∀ i, i < m → R8 i = .int .i64 (f i)) := Lib.hid (fun i hi => (by rw [hR8f i hi, cat_ge (Nat.zero_le _), Nat.sub_zero])); have hle8 := hown9.le.2; clear hown9 hg9 hat9 hbl9 hR8f hc8)
  have hb10 := HB9.out.setCell (p := ⟨g8, 0, none⟩) hg8 (.int .i64 (v0 + x % 4))
  have hmore := (Rd.of_row (hrow8.set 0 (.int .i64 (v0 + x % 4))) hmc8).congr (C' := fun i => .int .i64 (upd f 0 (f 0 + (k : Int)) i)) (fun i hi => by
    show (if i = 0 then _ else R8 i) = _
    unfold upd
    by_cases e : i = 0
    · rw [if_pos e, if_pos e, HK.out, HV0.out]
    · rw [if_neg e, if_neg e, HR8F.out i hi])
  obtain ⟨mf, hmf⟩ : ∃ mf, mf = upd f 0 (f 0 + (k : Int)) := ⟨_, rfl⟩
  rw [← hmf] at hmore
  have HMF := Lib.hid hmf
  obtain ⟨w10, hw10⟩ : ∃ W, W = w9.setCell ⟨g8, 0, none⟩ (.int .i64 (v0 + x % 4)) := ⟨_, rfl⟩
  rw [← hw10] at hb10 hmore ⊢
  have HY_w10 := Lib.hid hmore
  clear hmore hw10 hrow8 hc80 hz80 HR8F HO9 HB9 hR8 hmf
  have HW_w10 := Lib.hid (HW_w8.out.trans (hb10.mono HW_w8.out.size))
  have HN_w10 := Lib.hid (HN_w8.out.below hb10)
  have HH_w10 := Lib.hid (HH_w8.out.below hb10)
  have HM_w10 := Lib.hid (HM_w8.out.below hb10)
  have HO_w10 := Lib.hid (HO_w8.out.below hb10)
  have HA_w10 := Lib.hid (HA_w8.out.below hb10)
  have HB_w10 := Lib.hid (HB_w8.out.below hb10)
  have HL_w10 := Lib.hid (HL_w8.out.below hb10)
  clear HW_w8 HN_w8 HH_w8 HM_w8 HO_w8 HA_w8 HB_w8 HL_w8
  clear hb10
  have hoeA : ∀ i, i < N → oE (m : Int) N (dgF (gvF g k)) i = 0 := fun i hi => by
    rw [oE_dg, HMA.out, HNN.out]
    exact oE_gv k b3 HOE.out i (by rw [← HNN.out]; exact hi)
  have hoeL : ∀ i, i < n → oE (m : Int) n g i = 0 := fun i hi => by rw [HMA.out]; exact HOE.out i hi
  have hoeB : ∀ i, i < n → oE (m : Int) n (dgF g) i = 0 := fun i hi => by rw [oE_dg]; exact hoeL i hi
  have hmfb : ∀ i, i < m → 0 ≤ mf i ∧ mf i ≤ 1000 := fun i hi => by
    have h1 := HF.out i hi
    rw [HMF.out]; unfold upd
    by_cases e : i = 0
    · rw [if_pos e]; subst e; omega
    · rw [if_neg e]; omega
  have HOA := Lib.hid hoeA
  have HOB := Lib.hid hoeB
  have HMB := Lib.hid hmfb
  obtain ⟨T1, hT1⟩ : ∃ T : Nat, T = 400 := ⟨_, rfl⟩
  obtain ⟨T2, hT2⟩ : ∃ T : Nat, T = 20000 := ⟨_, rfl⟩
  have t400 : T1 + k ≤ T2 := by omega
  have t401 : T1 ≤ T2 := by omega
  have t402 : T2 ≤ 20000 := by omega
  have e1 : ((T1 : Nat) : Int) = 400 := by rw [hT1]; rfl
  have e2 : ((T2 : Nat) : Int) = 20000 := by rw [hT2]; rfl
  have E2 := Lib.hid e2
  have hc1 := counted_any A7 n c7 g (some ⟨g8, 0, none⟩) m c8 mf T1 w10 HL_w10.out HY_w10.out (by omega) hm1 hm4' hoeL hmfb (by omega)
  rw [e1] at hc1
  have HC1 := Lib.hid hc1
  clear hc1 hoeA hoeL hoeB hmfb e1 e2 hT1 hT2
  refine HC1.out.mono ?_
  intro e w11 hr
  obtain ⟨hb11, A9, c9, rfl, -, -, -⟩ := hr
  have HW_w11 := Lib.hid (HW_w10.out.trans (hb11.mono HW_w10.out.size))
  have HN_w11 := Lib.hid (HN_w10.out.below hb11)
  have HH_w11 := Lib.hid (HH_w10.out.below hb11)
  have HM_w11 := Lib.hid (HM_w10.out.below hb11)
  have HO_w11 := Lib.hid (HO_w10.out.below hb11)
  have HA_w11 := Lib.hid (HA_w10.out.below hb11)
  have HB_w11 := Lib.hid (HB_w10.out.below hb11)
  have HL_w11 := Lib.hid (HL_w10.out.below hb11)
  have HY_w11 := Lib.hid (HY_w10.out.below hb11)
  clear HW_w10 HN_w10 HH_w10 HM_w10 HO_w10 HA_w10 HB_w10 HL_w10 HY_w10
  clear hb11 HC1
  by_cases hat : (runS g n mf 0 T1).2 < n
  case' pos =>
    obtain ⟨S1, hS1⟩ : ∃ y, y = (runS g n mf 0 T1).2 := ⟨_, rfl⟩
    rw [← hS1] at hat
    rw [← hS1]
    clear hS1
    go_wp2_with fail
    go_ret
    exact ⟨rfl, HW_w11.out⟩
  have hlaw := given_law (k := k) HOE.out f (T := T1) (T2 := T2) t400 (by rw [← HMF.out]; exact hat)
  rw [← HMF.out] at hlaw
  have hst := (runS_stop hat T2 t401).1
  have HLAW := Lib.hid hlaw
  have HAT := Lib.hid hat
  have HST := Lib.hid hst
  have hSn : (n : Int) ≤ (runS g n mf 0 T1).2 := by omega
  obtain ⟨S1, hS1⟩ : ∃ y, y = (runS g n mf 0 T1).2 := ⟨_, rfl⟩
  rw [← hS1] at hSn
  rw [← hS1]
  have HS1 := Lib.hid hS1
  clear hlaw hat hst hS1
  go_wp2_with fail
  have hc2 := counted_any A5 N c5 (dgF (gvF g k)) A2 m c2 f T2 w11 HA_w11.out HH_w11.out (by omega) hm1 hm4' HOA.out (fun i hi => by have := HF.out i hi; omega) t402
  rw [E2.out] at hc2
  have HC2 := Lib.hid hc2
  clear hc2
  refine HC2.out.mono ?_
  intro e w12 hr
  obtain ⟨hb12, A10, c10, he, hR10, -, -⟩ := hr
  have HW_w12 := Lib.hid (HW_w11.out.trans (hb12.mono HW_w11.out.size))
  have HN_w12 := Lib.hid (HN_w11.out.below hb12)
  have HH_w12 := Lib.hid (HH_w11.out.below hb12)
  have HM_w12 := Lib.hid (HM_w11.out.below hb12)
  have HO_w12 := Lib.hid (HO_w11.out.below hb12)
  have HA_w12 := Lib.hid (HA_w11.out.below hb12)
  have HB_w12 := Lib.hid (HB_w11.out.below hb12)
  have HL_w12 := Lib.hid (HL_w11.out.below hb12)
  have HY_w12 := Lib.hid (HY_w11.out.below hb12)
  clear HW_w11 HN_w11 HH_w11 HM_w11 HO_w11 HA_w11 HB_w11 HL_w11 HY_w11
  rw [runS_dg, HNN.out, HLAW.out] at hR10 he
  rw [← HNN.out] at he
  have HQ_w12 := Lib.hid hR10
  have hTo : (N : Int) ≤ (runS g n mf 0 T2).2 + (k : Int) := by rw [HST.out, ← HS1.out, HNN.out]; omega
  have hOn : (n : Int) ≤ (runS g n mf 0 T2).2 := by rw [HST.out, ← HS1.out]; exact hSn
  change e = .returned (.tuple #[.slice A10 m c10, .int .i64 ((runS g n mf 0 T2).2 + (k : Int)), .int .i64 (runD (dgF (gvF g k)) N f 0 T2)]) at he
  obtain ⟨S2, hS2⟩ : ∃ y, y = (runS g n mf 0 T2).2 + (k : Int) := ⟨_, rfl⟩
  rw [← hS2] at hTo he
  obtain ⟨S3, hS3⟩ : ∃ y, y = (runS g n mf 0 T2).2 := ⟨_, rfl⟩
  rw [← hS3] at hOn
  have HS3 := Lib.hid hS3
  subst he
  clear hb12 hR10 HC2 hS2 hS3
  go_wp2_with fail
  have hc3 := counted_any A6 n c6 (dgF g) (some ⟨g8, 0, none⟩) m c8 mf T2 w12 HB_w12.out HY_w12.out (by omega) hm1 hm4' HOB.out HMB.out t402
  rw [E2.out] at hc3
  have HC3 := Lib.hid hc3
  clear hc3
  refine HC3.out.mono ?_
  intro e w13 hr
  obtain ⟨hb13, A11, c11, he, hR11, -, -⟩ := hr
  have HW_w13 := Lib.hid (HW_w12.out.trans (hb13.mono HW_w12.out.size))
  have HN_w13 := Lib.hid (HN_w12.out.below hb13)
  have HH_w13 := Lib.hid (HH_w12.out.below hb13)
  have HM_w13 := Lib.hid (HM_w12.out.below hb13)
  have HO_w13 := Lib.hid (HO_w12.out.below hb13)
  have HA_w13 := Lib.hid (HA_w12.out.below hb13)
  have HB_w13 := Lib.hid (HB_w12.out.below hb13)
  have HL_w13 := Lib.hid (HL_w12.out.below hb13)
  have HY_w13 := Lib.hid (HY_w12.out.below hb13)
  have HQ_w13 := Lib.hid (HQ_w12.out.below hb13)
  clear HW_w12 HN_w12 HH_w12 HM_w12 HO_w12 HA_w12 HB_w12 HL_w12 HY_w12 HQ_w12
  rw [runS_dg] at hR11 he
  rw [← HS3.out] at he
  have HP_w13 := Lib.hid hR11
  subst he
  clear hb13 hR11 HC3
  go_wp2_with fail
  refine (ints_any A10 A11 m c10 m c11 _ _ _ HQ_w13.out HP_w13.out HMM.out HMM.out).mono ?_
  rintro e w14 ⟨rfl, hb14⟩
  have HW_w14 := Lib.hid (HW_w13.out.trans (hb14.mono HW_w13.out.size))
  clear hb14
  rw [show sameI m m (fun i => (runS g n mf 0 T2).1 i) (fun i => (runS g n mf 0 T2).1 i) = true from sameI_iff.2 ⟨rfl, fun _ _ => rfl⟩]
  go_wp2_with fail
  go_ret
  exact ⟨rfl, HW_w14.out⟩
end Go.Proofs.Ythdonbgimehkjaa
