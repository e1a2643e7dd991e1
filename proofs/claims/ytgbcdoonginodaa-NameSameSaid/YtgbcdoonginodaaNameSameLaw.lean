/- The clauses of a circuit are true of as many values as there are inputs at which the circuit is. No condition. -/
import Derived.Test.YtgbcdoonginodaaNameBuild
import Derived.Test.YtgbcdoonginodaaGateRef
import Derived.Test.YtgbcdoonginodaaRefBits
import Derived.IntWalk
namespace Go.Proofs.Ytgbcdoonginodaa
open Go.ChangeShapes Go.WideShapes Go.ChangeAt Go.RowKit
set_option linter.unusedVariables false
theorem w64N {x : Nat} (h : x ≤ 1000000) : wrap64 (x : Int) = (x : Int) := IntWalk.wrap64_in _ (by omega)
theorem v_okN {inn : Int} {F : Nat → Int} {g : Nat → Bool} {n p : Nat} (hc : ckE inn F n = 0) (hp : (p : Int) = inn) : vE inn F n p = 0 ∧ vB inn F g n p = val F g (n - 1) := by
  have h1 : vE inn F n p = 0 := by unfold vE; rw [if_pos hc, if_pos hp]
  refine ⟨h1, ?_⟩
  unfold vB
  rw [if_pos h1]
  exact VA_val F g (by have := (ckE_zero hc).2.2.1; omega)
theorem vin_bad {V : Nat} {s : SI} (h : varsIn V s) : anyB (badV (V : Int) s.f) s.n = false := anyB_false.2 fun i hi => decide_eq_false (by have := h i hi; omega)
theorem wrC_ok {V m : Nat} {Y N : Nat → SI} (hV : V ≤ 8) (hm : m ≤ 200) (h2 : ∀ i, i < m → (Y i).n ≤ 2 ∧ (N i).n ≤ 2) (hv : VIn m V Y N) : wrC (V : Int) 8 m Y N = 0 := by
  unfold wrC
  rw [if_neg (by omega)]
  refine fstE_zero.2 fun k hk => ?_
  unfold clE
  have := h2 k hk
  rw [if_neg (by omega), vin_bad (hv k hk).1, vin_bad (hv k hk).2, if_neg (by simp)]
namespace nameSame
set_option maxRecDepth 100000 in
set_option maxHeartbeats 1000000 in
theorem walk (w : World) (inn : Int) (A : Option Addr) (n c : Nat) (F : Nat → Int) (wn : (Lit.int .i64 inn).wf = true) (h : Rd w A (n * 3) (fun q => .int .i64 (F q))) (wf : ∀ i, (Lit.int .i64 (F i)).wf = true) (hl : n ≤ c) (hm : c ≤ maxLen) (z : c * 24 ≤ 140737488351232) :
    Calls Try.prog 4 #[.int .i64 inn, .slice A n c] w fun e w' => e = .returned (.bool true) ∧ Below w.heap.size w w' := by
  have hnl : n ≤ maxLen := by omega
  have H := Lib.hid h
  have HWF := Lib.hid wf
  have HN := Lib.hid hnl
  clear h wf hm hnl
  by_cases hz : ckE inn F n = 0
  · obtain ⟨i0, i5, n1, n40, hgw0⟩ := ckE_zero hz
    obtain ⟨p, rfl⟩ : ∃ p : Nat, inn = (p : Int) := ⟨inn.toNat, by omega⟩
    have HGW : Hid (GW (p : Int) F n) := Lib.hid (gw_zero hgw0)
    have HZ := Lib.hid hz
    clear hgw0 hz
    go_enter Try.func4, Try.ntmps4
    go_wp2_with fail
    refine (nbuild_any p A n c F w H.out HN.out HWF.out HZ.out).mono ?_
    rintro e w1 ⟨A', m, c', Y, N, rfl, hb1, m121, hcls, hl2, hvin, hcon⟩
    obtain ⟨V, hV⟩ : ∃ V, V = p + nonI F n := ⟨_, rfl⟩
    rw [← hV] at hvin ⊢
    have hpV : p ≤ V := by omega
    have HB1 := Lib.hid hb1
    have HV := Lib.hid hV
    have HCLS := Lib.hid hcls
    have HL2 := Lib.hid hl2
    have HVIN := Lib.hid hvin
    have HCON := Lib.hid hcon
    clear hb1 hV hcls hl2 hvin hcon
    go_wp2_with fail
    refine (gateCheck_any (p : Int) A n c F w1 (H.out.below HB1.out) HN.out).mono ?_
    rintro e w2 ⟨rfl, hb2⟩
    rw [HZ.out]
    have HB12 := Lib.hid hb2
    have HB2 := Lib.hid (HB1.out.trans (hb2.mono HB1.out.size))
    clear hb2
    by_cases h8 : V ≤ 8
    · obtain ⟨P, hP⟩ : ∃ P : Nat, P = 2 ^ p := ⟨_, rfl⟩
      have hP32 : 1 ≤ P ∧ P ≤ 32 := by
        rw [hP]
        exact ⟨Nat.pow_pos (by omega), Nat.pow_le_pow_right (n := 2) (i := p) (j := 5) (by omega) (by omega)⟩
      have hpi : (2 : Int) ^ p = (P : Int) := by rw [hP]; push_cast; rfl
      have HW64 : Hid (wrap64 ((2 : Int) ^ p) = (P : Int)) := Lib.hid (by rw [hpi]; exact w64N (by omega))
      have hw0 := wrC_ok h8 (by omega) HL2.out HVIN.out
      have hms : mnC (V : Int) m Y N = ((cntB (fun w => val F (bitB w) (n - 1)) P : Nat) : Int) := by
        unfold mnC
        rw [if_pos hw0, Int.toNat_natCast, HV.out, many_same HGW.out n1 HCON.out, hP]
      have hmany := many_any (V : Int) A' m c' Y N w2 (HCLS.out.below HB12.out) (by unfold maxLen; omega)
      rw [hw0, hms] at hmany
      obtain ⟨M, hM⟩ : ∃ M, M = cntB (fun w => val F (bitB w) (n - 1)) P := ⟨_, rfl⟩
      rw [← hM] at hmany
      have HMANY := Lib.hid hmany
      have HM := Lib.hid hM
      have hM32 : M ≤ 32 := by rw [hM]; exact Nat.le_trans (cntB_le _ _) hP32.2
      clear hw0 hms hmany hM hpi hP
      go_wp2_with fail
      refine HMANY.out.mono ?_
      rintro e w3 ⟨rfl, hb3⟩
      have HB3 := Lib.hid (HB2.out.trans (hb3.mono HB2.out.size))
      clear hb3 HMANY
      go_wp2_with fail
      go_loopw [10, 11] (fun s10 s11 wr => ∃ i C : Nat, i ≤ P ∧ s11 = .int .i64 (i : Nat) ∧ s10 = .int .i64 (C : Nat) ∧ C ≤ i ∧ Hid (C = cntB (fun w => val F (bitB w) (n - 1)) i) ∧ Below w.heap.size w wr) (fun _ s11 _ => P - (intOf s11).toNat)
      case atStart => exact ⟨0, 0, Nat.zero_le _, rfl, rfl, Nat.le_refl _, Lib.hid rfl, HB3.out⟩
      case round =>
        obtain ⟨wo, rfl⟩ : ∃ wo : World, wo = wr := ⟨_, rfl⟩
        obtain ⟨i, C, hi, rfl, rfl, hCi, HC, hbel⟩ := hrel
        have HBE := Lib.hid hbel
        clear hbel
        by_cases hlt : i < P
        · have hp8 : p ≤ 8 := by omega
          have hi6 : i < 1000000 := by omega
          have hiP : (i : Int) < (P : Int) := by omega
          have qt : decide ((i : Int) < wrap64 ((2 : Int) ^ p)) = true := by rw [HW64.out]; exact decide_eq_true hiP
          go_wp2_with fail
          refine (refBits_any p i hp8 hi6 wo).mono ?_
          rintro e w5 ⟨⟨S5, sc5, rfl, hr5⟩, hb5⟩
          clear qt
          have HB5 := Lib.hid (HBE.out.trans (hb5.mono HBE.out.size))
          have hv2 := value_any (p : Int) A S5 n c p sc5 F (bitB i) w5 (H.out.below HB5.out) hr5 HN.out (by unfold maxLen; omega)
          rw [(v_okN (g := bitB i) HZ.out rfl).1, (v_okN (g := bitB i) HZ.out rfl).2] at hv2
          obtain ⟨v, hv⟩ : ∃ v, v = val F (bitB i) (n - 1) := ⟨_, rfl⟩
          rw [← hv] at hv2
          have HV2 := Lib.hid hv2
          have HVV := Lib.hid hv
          clear hr5 hb5 hv2 hv
          go_wp2_with fail
          refine HV2.out.mono ?_
          rintro e w6 ⟨rfl, hb6⟩
          have HB6 := Lib.hid (HB5.out.trans (hb6.mono HB5.out.size))
          clear hb6 HV2
          cases v
          · go_wp2_with fail
            go_roundw
            case rel => exact ⟨i + 1, C, by omega, by go_num, rfl, by omega, Lib.hid (by have hc := HC.out; have hv := HVV.out; simp only [cntB]; rw [← hv, ← hc]; rfl), HB6.out⟩
            case measure => simp [intOf]; omega
          · go_wp2_with fail
            go_roundw
            case rel => exact ⟨i + 1, C + 1, by omega, by go_num, by go_num, by omega, Lib.hid (by have hc := HC.out; have hv := HVV.out; simp only [cntB]; rw [← hv, ← hc]; rfl), HB6.out⟩
            case measure => simp [intOf]; omega
        · obtain rfl : i = P := by omega
          have hiP : ¬ ((i : Int) < (i : Int)) := by omega
          have qf : decide ((i : Int) < wrap64 ((2 : Int) ^ p)) = false := by rw [HW64.out]; exact decide_eq_false hiP
          obtain rfl : C = M := HC.out.trans HM.out.symm
          go_wp2_with fail
          go_ret
          exact ⟨rfl, HBE.out⟩
    · go_wp2_with fail
      go_ret
      exact ⟨rfl, HB2.out⟩
  · obtain ⟨x, hx⟩ : ∃ x, x = ckE inn F n := ⟨_, rfl⟩
    have hb := nbuild_no inn A n c F w H.out HN.out hz
    rw [← hx] at hb hz
    have q1 : (x != 0) = true := by rw [bne_iff_ne]; exact hz
    have HBN := Lib.hid hb
    have HX := Lib.hid hx
    clear hb hz hx
    go_enter Try.func4, Try.ntmps4
    go_wp2_with fail
    refine HBN.out.mono ?_
    rintro e w1 ⟨rfl, hb1⟩
    have HB1 := Lib.hid hb1
    clear hb1
    go_wp2_with fail
    refine (gateCheck_any inn A n c F w1 (H.out.below HB1.out) HN.out).mono ?_
    rintro e w2 ⟨rfl, hb2⟩
    rw [← HX.out]
    have HB2 := Lib.hid (HB1.out.trans (hb2.mono HB1.out.size))
    clear hb2
    go_wp2_with fail
    go_ret
    exact ⟨rfl, HB2.out⟩
end nameSame
end Go.Proofs.Ytgbcdoonginodaa
