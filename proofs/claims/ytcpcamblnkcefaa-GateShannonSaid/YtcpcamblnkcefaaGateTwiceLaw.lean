/- The turned circuit is what the circuit is. No condition. -/
import Derived.Test.YtcpcamblnkcefaaTurn
import Derived.Test.YtcpcamblnkcefaaGateRef
import Derived.Test.YtcpcamblnkcefaaRefBits
import Derived.IntWalk
namespace Go.Proofs.Ytcpcamblnkcefaa
open Go.ChangeShapes Go.WideShapes Go.ChangeAt Go.RowKit
set_option linter.unusedVariables false
theorem w64G {x : Nat} (h : x ≤ 1000000) : wrap64 (x : Int) = (x : Int) := IntWalk.wrap64_in _ (by omega)
theorem v_ok {inn : Int} {F : Nat → Int} {g : Nat → Bool} {n p : Nat} (hc : ckE inn F n = 0) (hp : (p : Int) = inn) : vE inn F n p = 0 ∧ vB inn F g n p = val F g (n - 1) := by
  have h1 : vE inn F n p = 0 := by unfold vE; rw [if_pos hc, if_pos hp]
  refine ⟨h1, ?_⟩
  unfold vB
  rw [if_pos h1]
  exact VA_val F g (by have := (ckE_zero hc).2.2.1; omega)
namespace gateTwice
set_option maxRecDepth 100000 in
set_option maxHeartbeats 1000000 in
theorem walk (w : World) (inn : Int) (A : Option Addr) (n c : Nat) (F : Nat → Int) (a : Int) (wn : (Lit.int .i64 inn).wf = true) (h : Rd w A (n * 3) (fun q => .int .i64 (F q))) (wf : ∀ i, (Lit.int .i64 (F i)).wf = true) (hl : n ≤ c) (hm : c ≤ maxLen) (z : c * 24 ≤ 140737488351232) (wa : (Lit.int .u8 a).wf = true) :
    Calls Try.prog 4 #[.int .i64 inn, .slice A n c, .int .u8 a] w fun e w' => e = .returned (.bool true) ∧ Below w.heap.size w w' := by
  have hnl : n ≤ maxLen := by omega
  have ha : 0 ≤ a ∧ a ≤ 255 := by simp [Lit.wf, IntKind.min, IntKind.max, IntKind.signed, IntKind.bits] at wa; omega
  have H := Lib.hid h
  have HWF := Lib.hid wf
  have HN := Lib.hid hnl
  clear h wf hm hnl wa
  go_enter Try.func4, Try.ntmps4
  go_wp2_with fail
  refine (turn_any inn A n c F w H.out HN.out HWF.out).mono ?_
  rintro e w1 ⟨A', m, c', F', x, rfl, hb1, hcase⟩
  have HC := Lib.hid hcase
  have HB1 := Lib.hid hb1
  clear hcase hb1
  go_wp2_with fail
  refine (gateCheck_any inn A n c F w1 (H.out.below HB1.out) HN.out).mono ?_
  rintro e w2 ⟨rfl, hb2⟩
  have HB2 := Lib.hid (HB1.out.trans (hb2.mono HB1.out.size))
  have HB12 := Lib.hid hb2
  clear hb2
  rcases HC.out with ⟨hc, hx, hm0⟩ | ⟨hc, rfl, hrd, m1, m80, hgw, hval⟩
  · have q1 : (ckE inn F n != 0) = true := by rw [bne_iff_ne]; exact hc
    obtain ⟨y, hy⟩ : ∃ y, y = ckE inn F n := ⟨_, rfl⟩
    rw [← hy] at q1 hx ⊢
    subst hx
    clear hy hc HC
    go_wp2_with fail
    go_ret
    exact ⟨rfl, HB2.out⟩
  · obtain ⟨i0, i5, n1, n40, hgw0⟩ := ckE_zero hc
    rw [hc]
    obtain ⟨N, rfl⟩ : ∃ N : Nat, inn = (N : Int) := ⟨inn.toNat, by omega⟩
    obtain ⟨P, hP⟩ : ∃ P : Nat, P = 2 ^ N := ⟨_, rfl⟩
    have hP32 : 1 ≤ P ∧ P ≤ 32 := by
      rw [hP]
      exact ⟨Nat.pow_pos (by omega), Nat.pow_le_pow_right (n := 2) (i := N) (j := 5) (by omega) (by omega)⟩
    have hpi : (2 : Int) ^ N = (P : Int) := by rw [hP]; push_cast; rfl
    have HW64 : Hid (wrap64 ((2 : Int) ^ N) = (P : Int)) := Lib.hid (by rw [hpi]; exact w64G (by omega))
    obtain ⟨K, hK⟩ : ∃ K : Nat, a % (P : Int) = (K : Int) := ⟨(a % (P : Int)).toNat, by have := Int.emod_nonneg a (b := (P : Int)) (by omega); omega⟩
    have hK32 : K < 32 := by have := Int.emod_lt_of_pos a (b := (P : Int)) (by omega); omega
    have HGW := Lib.hid hgw
    have HVAL := Lib.hid hval
    have HRD := Lib.hid (hrd.below HB12.out)
    have HCK := Lib.hid hc
    have hPz : (P : Int) ≠ 0 := by omega
    clear HC hgw hval hrd hc hgw0 hP hpi
    go_upto_region 6 with fail
    go_upto_region 7 with fail
    case isTrue h => exact absurd (HW64.out.symm.trans h) hPz
    rw [HW64.out, hK]
    clear hK hPz
    go_wp2_with fail
    refine (refBits_any N K (by omega) (by omega) w2).mono ?_
    rintro e w3 ⟨⟨S3, sc3, rfl, hr3⟩, hb3⟩
    have HB3 := Lib.hid (HB2.out.trans (hb3.mono HB2.out.size))
    have HRD3 := Lib.hid (HRD.out.below hb3)
    have hv1 := value_any (N : Int) A S3 n c N sc3 F (bitB K) w3 (H.out.below HB3.out) hr3 HN.out (by unfold maxLen; omega)
    rw [(v_ok (g := bitB K) HCK.out rfl).1, (v_ok (g := bitB K) HCK.out rfl).2] at hv1
    have HV1 := Lib.hid hv1
    clear hr3 hb3 hv1 HRD
    go_wp2_with fail
    refine HV1.out.mono ?_
    rintro e w4 ⟨rfl, hb4⟩
    have HB4 := Lib.hid (HB3.out.trans (hb4.mono HB3.out.size))
    have HRD4 := Lib.hid (HRD3.out.below hb4)
    obtain ⟨v, hv⟩ : ∃ v, v = val F (bitB K) (n - 1) := ⟨_, rfl⟩
    rw [← hv]
    have HVV := Lib.hid hv
    clear hb4 hv HV1 HRD3
    by_cases h40 : m ≤ 40
    · go_wp2_with fail
      refine (refBits_any N K (by omega) (by omega) w4).mono ?_
      rintro e w5 ⟨⟨S5, sc5, rfl, hr5⟩, hb5⟩
      have HB5 := Lib.hid (HB4.out.trans (hb5.mono HB4.out.size))
      have hck : ckE (N : Int) F' m = 0 := by
        unfold ckE
        rw [if_neg (by omega)]
        exact gw_of HGW.out
      have hv2 := value_any (N : Int) A' S5 m c' N sc5 F' (bitB K) w5 (HRD4.out.below hb5) hr5 (by unfold maxLen; omega) (by unfold maxLen; omega)
      rw [(v_ok (g := bitB K) hck rfl).1, (v_ok (g := bitB K) hck rfl).2, HVAL.out, ← HVV.out] at hv2
      have HV2 := Lib.hid hv2
      clear hr5 hb5 hv2 hck HRD4
      go_wp2_with fail
      refine HV2.out.mono ?_
      rintro e w6 ⟨rfl, hb6⟩
      have HB6 := Lib.hid (HB5.out.trans (hb6.mono HB5.out.size))
      clear hb6 HV2
      have hvv : (v == v) = true := by simp
      go_wp2_with fail
      go_ret
      exact ⟨by first | rfl | (cases v <;> rfl), HB6.out⟩
    · go_wp2_with fail
      go_ret
      exact ⟨rfl, HB4.out⟩
end gateTwice
end Go.Proofs.Ytcpcamblnkcefaa
