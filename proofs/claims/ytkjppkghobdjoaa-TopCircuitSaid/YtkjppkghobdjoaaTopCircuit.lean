/- A circuit can be true just if its clauses can, just if so many of their dots are free as there are clauses. No condition. -/
import Derived.Test.YtkjppkghobdjoaaNameBuild
import Derived.Test.YtkjppkghobdjoaaGateRef
import Derived.Test.YtkjppkghobdjoaaRefBits
import Derived.Test.YtkjppkghobdjoaaHardKarp
import Derived.IntWalk
namespace Go.Proofs.Ytkjppkghobdjoaa
open Go.ChangeShapes Go.WideShapes Go.ChangeAt Go.RowKit
set_option linter.unusedVariables false
set_option linter.unusedSimpArgs false
theorem w64N {x : Nat} (h : x ≤ 1000000) : wrap64 (x : Int) = (x : Int) := IntWalk.wrap64_in _ (by omega)
theorem v_okN {inn : Int} {F : Nat → Int} {g : Nat → Bool} {n p : Nat} (hc : ckE inn F n = 0) (hp : (p : Int) = inn) : vE inn F n p = 0 ∧ vB inn F g n p = val F g (n - 1) := by
  have h1 : vE inn F n p = 0 := by unfold vE; rw [if_pos hc, if_pos hp]
  refine ⟨h1, ?_⟩
  unfold vB
  rw [if_pos h1]
  exact VA_val F g (by have := (ckE_zero hc).2.2.1; omega)
theorem vin_bad {V : Nat} {s : SI} (h : varsIn V s) : anyB (badV (V : Int) s.f) s.n = false := anyB_false.2 fun i hi => decide_eq_false (by have := h i hi; omega)
theorem hd_ok {V m : Nat} {Y N : Nat → SI} (hV : V ≤ 8) (hm : m ≤ 12) (h2 : ∀ i, i < m → (Y i).n ≤ 2 ∧ (N i).n ≤ 2 ∧ (Y i).n + (N i).n ≤ 3) (hv : VIn m V Y N) : hdE (V : Int) m Y N = 0 := by
  unfold hdE
  have e1 : anyB (bigC Y N) m = false := anyB_false.2 fun k hk => decide_eq_false (by have := h2 k hk; omega)
  have e2 : anyB (badC (V : Int) Y N) m = false := anyB_false.2 fun k hk => by
    unfold badC
    rw [vin_bad (hv k hk).1, vin_bad (hv k hk).2]; rfl
  rw [if_neg (by omega), e1, e2]
  rfl
namespace topCircuit
set_option maxRecDepth 100000 in
set_option maxHeartbeats 2000000 in
theorem walk (w : World) (inn : Int) (A : Option Addr) (n c : Nat) (F : Nat → Int) (wn : (Lit.int .i64 inn).wf = true) (h : Rd w A (n * 3) (fun q => .int .i64 (F q))) (wf : ∀ i, (Lit.int .i64 (F i)).wf = true) (hl : n ≤ c) (hm : c ≤ maxLen) (z : c * 24 ≤ 140737488351232) :
    Calls Try.prog 3 #[.int .i64 inn, .slice A n c] w fun e w' => e = .returned (.bool true) ∧ Below w.heap.size w w' := by
  have hnl : n ≤ maxLen := by omega
  have H := Lib.hid h
  have HWF := Lib.hid wf
  have HN := Lib.hid hnl
  clear h wf hm hnl
  by_cases hz : ckE inn F n = 0
  · obtain ⟨i0, i5, n1, n40, hgw0⟩ := ckE_zero hz
    obtain ⟨p, rfl⟩ : ∃ p : Nat, inn = (p : Int) := ⟨inn.toNat, by omega⟩
    have HGW : Hid (GW (p : Int) F n) := Lib.hid (gw_zero hgw0)
    have HZ := Lib.hid hz
    clear hgw0 hz
    go_enter Try.func3, Try.ntmps3
    go_wp2_with fail
    refine (nbuild_any p A n c F w H.out HN.out HWF.out HZ.out).mono ?_
    rintro e w1 ⟨A', m, c', Y, N, rfl, hb1, m121, hcls, hl2, hvin, hcon⟩
    obtain ⟨V, hV⟩ : ∃ V, V = p + nonI F n := ⟨_, rfl⟩
    rw [← hV] at hvin ⊢
    have hpV : p ≤ V := by omega
    have HB1 := Lib.hid hb1
    have HV := Lib.hid hV
    have HCLS := Lib.hid hcls
    have HL2 := Lib.hid hl2
    have HVIN := Lib.hid hvin
    have HCON := Lib.hid hcon
    clear hb1 hV hcls hl2 hvin hcon
    go_wp2_with fail
    refine (gateCheck_any (p : Int) A n c F w1 (H.out.below HB1.out) HN.out).mono ?_
    rintro e w2 ⟨rfl, hb2⟩
    rw [HZ.out]
    have HB12 := Lib.hid hb2
    have HB2 := Lib.hid (HB1.out.trans (hb2.mono HB1.out.size))
    clear hb2
    by_cases h8 : 8 < V
    · go_wp2_with fail
      go_ret
      exact ⟨rfl, HB2.out⟩
    by_cases h12 : 12 < m
    · go_wp2_with fail
      go_ret
      exact ⟨rfl, HB2.out⟩
    obtain ⟨P, hP⟩ : ∃ P : Nat, P = 2 ^ p := ⟨_, rfl⟩
    have hP32 : 1 ≤ P ∧ P ≤ 32 := by
      rw [hP]
      exact ⟨Nat.pow_pos (by omega), Nat.pow_le_pow_right (n := 2) (i := p) (j := 5) (by omega) (by omega)⟩
    have hpi : (2 : Int) ^ p = (P : Int) := by rw [hP]; push_cast; rfl
    have HW64 : Hid (wrap64 ((2 : Int) ^ p) = (P : Int)) := Lib.hid (by rw [hpi]; exact w64N (by omega))
    have hhd := hd_ok (by omega) (by omega) HL2.out HVIN.out
    have hms : mnC (V : Int) m Y N = ((cntB (fun w => val F (bitB w) (n - 1)) P : Nat) : Int) := by
      unfold mnC
      rw [if_pos (hd_wr hhd), Int.toNat_natCast, HV.out, many_same HGW.out n1 HCON.out, hP]
    have hcan := many_can hhd
    rw [hms] at hcan
    have HMS := Lib.hid hms
    have HHD := Lib.hid hhd
    obtain ⟨M, hM⟩ : ∃ M, M = cntB (fun w => val F (bitB w) (n - 1)) P := ⟨_, rfl⟩
    rw [← hM] at hcan
    have HCAN := Lib.hid hcan
    have HM := Lib.hid hM
    clear hms hcan hhd hM hpi hP
    go_wp2_with fail
    go_loopw [8, 9] (fun s8 s9 wr => ∃ (i : Nat) (S : Bool), i ≤ P ∧ s9 = .int .i64 (i : Nat) ∧ s8 = .bool S ∧ Hid (S = decide (0 < cntB (fun w => val F (bitB w) (n - 1)) i)) ∧ Below w.heap.size w wr ∧ Below w2.heap.size w2 wr) (fun _ s9 _ => P - (intOf s9).toNat)
    case atStart => exact ⟨0, false, Nat.zero_le _, rfl, rfl, Lib.hid rfl, HB2.out, Below.refl _ _⟩
    case round =>
      obtain ⟨wo, rfl⟩ : ∃ wo : World, wo = wr := ⟨_, rfl⟩
      obtain ⟨i, S, hi, rfl, rfl, HC, hbel, hbel2⟩ := hrel
      have HBE := Lib.hid hbel
      have HBE2 := Lib.hid hbel2
      clear hbel hbel2
      by_cases hlt : i < P
      · have hp8 : p ≤ 8 := by omega
        have hi6 : i < 1000000 := by omega
        have hiP : (i : Int) < (P : Int) := by omega
        have qt : decide ((i : Int) < wrap64 ((2 : Int) ^ p)) = true := by rw [HW64.out]; exact decide_eq_true hiP
        go_wp2_with fail
        refine (refBits_any p i hp8 hi6 wo).mono ?_
        rintro e w5 ⟨⟨S5, sc5, rfl, hr5⟩, hb5⟩
        clear qt
        have HB5 := Lib.hid (HBE.out.trans (hb5.mono HBE.out.size))
        have HB52 := Lib.hid (HBE2.out.trans (hb5.mono HBE2.out.size))
        have hv2 := value_any (p : Int) A S5 n c p sc5 F (bitB i) w5 (H.out.below HB5.out) hr5 HN.out (by unfold maxLen; omega)
        rw [(v_okN (g := bitB i) HZ.out rfl).1, (v_okN (g := bitB i) HZ.out rfl).2] at hv2
        obtain ⟨v, hv⟩ : ∃ v, v = val F (bitB i) (n - 1) := ⟨_, rfl⟩
        rw [← hv] at hv2
        have HV2 := Lib.hid hv2
        have HVV := Lib.hid hv
        clear hr5 hb5 hv2 hv
        go_wp2_with fail
        refine HV2.out.mono ?_
        rintro e w6 ⟨rfl, hb6⟩
        have HB6 := Lib.hid (HB5.out.trans (hb6.mono HB5.out.size))
        have HB62 := Lib.hid (HB52.out.trans (hb6.mono HB52.out.size))
        clear hb6 HV2
        have HS : Hid ((S || v) = decide (0 < cntB (fun w => val F (bitB w) (n - 1)) (i + 1))) := Lib.hid (by
          have hc := HC.out
          have hv := HVV.out
          rw [hc, Bool.eq_iff_iff, Bool.or_eq_true, decide_eq_true_iff, decide_eq_true_iff]
          simp only [cntB]
          rw [← hv]
          cases v <;> simp)
        cases S
        · go_wp2_with fail
          go_roundw
          case rel => exact ⟨i + 1, v, by omega, by go_num, rfl, Lib.hid HS.out, HB6.out, HB62.out⟩
          case measure => simp [intOf]; omega
        · go_wp2_with fail
          go_roundw
          case rel => exact ⟨i + 1, true, by omega, by go_num, rfl, Lib.hid HS.out, HB6.out, HB62.out⟩
          case measure => simp [intOf]; omega
      · obtain rfl : i = P := by omega
        have hiP : ¬ ((i : Int) < (i : Int)) := by omega
        have qf : decide ((i : Int) < wrap64 ((2 : Int) ^ p)) = false := by rw [HW64.out]; exact decide_eq_false hiP
        have hs := HC.out
        rw [← HM.out] at hs
        have HSM := Lib.hid hs
        clear hs
        have H2C : Hid (Cls wo A' m Y N) := Lib.hid ((HCLS.out.below HB12.out).below HBE2.out)
        go_wp2_with fail
        refine (many_any (V : Int) A' m c' Y N wo H2C.out (by unfold maxLen; omega)).mono ?_
        rintro e w3 ⟨rfl, hb3⟩
        rw [hd_wr HHD.out, HMS.out, ← HM.out]
        have HB3 := Lib.hid (HBE.out.trans (hb3.mono HBE.out.size))
        have H3C : Hid (Cls w3 A' m Y N) := Lib.hid (H2C.out.below hb3)
        clear hb3 qf
        go_wp2_with fail
        refine (Dots_any (V : Int) A' m c' Y N w3 H3C.out (by unfold maxLen; omega)).mono ?_
        rintro e w4 ⟨hd, hb4⟩
        have HB4 := Lib.hid (HB3.out.trans (hb4.mono HB3.out.size))
        clear hb4
        rcases hd with ⟨x, hx, hxb, rfl⟩ | ⟨_, A1, c1, L, rfl, hL16, hLo, hrd⟩
        · rw [HHD.out] at hx
          subst hx
          cases hxb
        have HLO := Lib.hid hLo
        have HRD := Lib.hid hrd
        obtain ⟨T, hT⟩ : ∃ T, T = (dotL Y N m).length := ⟨_, rfl⟩
        rw [← hT]
        have hT36 : T ≤ 36 := by
          have := dotL_len (Y := Y) (N := N) (n := m) (fun k hk => decide_eq_false (by have := (hdE_zero HHD.out).2.1 k hk; omega))
          omega
        have HT := Lib.hid hT
        have hS : S = decide (0 < M) := HSM.out
        have hSn : (0 < M) = (S = true) := by rw [hS]; simp
        have HSN := Lib.hid hSn
        have qk : (S != decide (0 < (M : Int))) = false := by rw [hS]; simp
        clear hLo hrd hT hS
        by_cases hT16 : 16 < T
        · clear qk
          cases S
          · have hM0 : ¬ 0 < M := by rw [HSN.out]; decide
            go_wp2_with fail
            go_ret
            exact ⟨rfl, HB4.out⟩
          · have hM1 : 0 < M := by rw [HSN.out]
            go_wp2_with fail
            go_ret
            exact ⟨rfl, HB4.out⟩
        by_cases hTm : T < m
        · have hS0 : S = false := by
            obtain ⟨j, hj, e⟩ := few_dots (Y := Y) (N := N) (n := m) (by rw [← HT.out]; exact hTm)
            cases S
            · rfl
            · have hM1 : 0 < M := by rw [hSn]
              have hx1 : (0 : Int) < (M : Int) := by omega
              obtain ⟨s, hs⟩ := HCAN.out.1 hx1
              have := hs j hj
              rw [empty_no e s] at this; cases this
          subst hS0
          clear hSn qk
          have hM0 : ¬ 0 < M := by rw [HSN.out]; decide
          go_wp2_with fail
          go_ret
          exact ⟨rfl, HB4.out⟩
        have hl200 : L.length ≤ 200 := by
          have := hL16.2
          rw [← HT.out] at this
          exact Nat.le_trans this (tri_16 (by omega))
        have hin := lines_in HLO.out
        rw [← HT.out] at hin
        have hgph : gphE (T : Int) (lnF L) L.length (m : Int) = 0 := by
          unfold gphE
          rw [if_neg (by omega), if_neg, if_neg, if_neg (by omega)]
          · rw [anyB_no fun j hj => by unfold loopL; simpa using hin.2 j hj]; decide
          · rw [anyB_no fun j hj => by unfold outL; exact decide_eq_false (Decidable.not_not.2 (hin.1 j hj))]; decide
        have hkp := karp HLO.out (dots_nonneg HHD.out)
        rw [← HT.out] at hkp
        have hiff := (free_fnd (N := T) (K := m) hin.1 hin.2).trans hkp
        clear hkp
        have HIFF := Lib.hid hiff
        have HGP := Lib.hid hgph
        clear hiff hin hgph hL16
        have hfr := free_any ((T : Nat) : Int) A1 L.length c1 (lnF L) ((m : Nat) : Int) w4 HRD.out (by unfold maxLen; omega)
        have HFR := Lib.hid hfr
        clear hfr hSn
        clear qk
        cases S
        · have hM0 : ¬ 0 < M := by rw [HSN.out]; decide
          go_wp2_with fail
          refine HFR.out.mono ?_
          rintro e w5 ⟨hs, hb5⟩
          have HB5 := Lib.hid (HB4.out.trans (hb5.mono HB4.out.size))
          clear hb5
          rcases hs with ⟨x, hx, hxb, rfl⟩ | ⟨N', K', hN, hK, hz', hf', A4, c4, rfl⟩ | ⟨N', K', hN, hK, hz', hf', rfl⟩
          · rw [HGP.out] at hx
            subst hx
            cases hxb
          · have e2 : N' = T := by omega
            have e3 : K' = m := by omega
            subst e2; subst e3
            have := HCAN.out.2 (HIFF.out.1 hf')
            have h2 : (false : Bool) = true := by rw [← HSN.out]; omega
            cases h2
          · clear hN hK hz' hf'
            go_wp2_with fail
            go_ret
            exact ⟨rfl, HB5.out⟩
        · have hM1 : 0 < M := by rw [HSN.out]
          go_wp2_with fail
          refine HFR.out.mono ?_
          rintro e w5 ⟨hs, hb5⟩
          have HB5 := Lib.hid (HB4.out.trans (hb5.mono HB4.out.size))
          clear hb5
          rcases hs with ⟨x, hx, hxb, rfl⟩ | ⟨N', K', hN, hK, hz', hf', A4, c4, rfl⟩ | ⟨N', K', hN, hK, hz', hf', rfl⟩
          · rw [HGP.out] at hx
            subst hx
            cases hxb
          · clear hN hK hz' hf'
            go_wp2_with fail
            go_ret
            exact ⟨rfl, HB5.out⟩
          · have e2 : N' = T := by omega
            have e3 : K' = m := by omega
            subst e2; subst e3
            exact absurd (HIFF.out.2 (HCAN.out.1 (by omega))) hf'
  · obtain ⟨x, hx⟩ : ∃ x, x = ckE inn F n := ⟨_, rfl⟩
    have hb := nbuild_no inn A n c F w H.out HN.out hz
    rw [← hx] at hb hz
    have q1 : (x != 0) = true := by rw [bne_iff_ne]; exact hz
    have HBN := Lib.hid hb
    have HX := Lib.hid hx
    clear hb hz hx
    go_enter Try.func3, Try.ntmps3
    go_wp2_with fail
    refine HBN.out.mono ?_
    rintro e w1 ⟨rfl, hb1⟩
    have HB1 := Lib.hid hb1
    clear hb1
    go_wp2_with fail
    refine (gateCheck_any inn A n c F w1 (H.out.below HB1.out) HN.out).mono ?_
    rintro e w2 ⟨rfl, hb2⟩
    rw [← HX.out]
    have HB2 := Lib.hid (HB1.out.trans (hb2.mono HB1.out.size))
    clear hb2
    go_wp2_with fail
    go_ret
    exact ⟨rfl, HB2.out⟩
end topCircuit
end Go.Proofs.Ytkjppkghobdjoaa
