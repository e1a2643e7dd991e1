/- FuncsBound: a value is below Ackermann's function of the rank and the greatest argument, ranks up to 4. No condition. -/
import Derived.Test.YtjnoolfdlgocjaaFnVal
import Derived.Test.YtjnoolfdlgocjaaFnRank
import Derived.Test.YtjnoolfdlgocjaaFnRef
import Derived.Test.YtjnoolfdlgocjaaFuncsAck
namespace Go.Proofs.Ytjnoolfdlgocjaa.funcsBound
open Go.ChangeShapes Go.WideShapes Go.ChangeAt Go.RowKit
set_option linter.unusedVariables false
set_option linter.unusedSimpArgs false
open AckM funcsAck
/-- where a row has a value, the row before it has -/
theorem ackF_left {m n c : Nat} (h : ackF (m + 1) n = some c) : ∃ d, ackF m n = some d ∧ d < c := by
  have h0 := h
  simp only [ackF] at h
  split at h
  · cases n with
    | zero =>
      obtain ⟨d, hd⟩ := ackF_down (Nat.zero_le 1) h
      exact ⟨d, hd, ackF_row hd h0⟩
    | succ k =>
      simp only [it, Option.bind_eq_some_iff] at h
      obtain ⟨x, hx, hxc⟩ := h
      have hgt := it_gt hx
      obtain ⟨d, hd⟩ := ackF_down (show k + 1 ≤ x by omega) hxc
      exact ⟨d, hd, ackF_row hd h0⟩
  · cases h
theorem ackF_low {m n c : Nat} (h : ackF m n = some c) : n + 1 + m ≤ c := by
  induction m generalizing c with
  | zero => have := ackF_gt _ _ _ h; omega
  | succ m ih =>
    obtain ⟨d, hd, hl⟩ := ackF_left h
    have := ih hd
    omega
set_option maxRecDepth 100000 in
set_option maxHeartbeats 4000000 in
theorem walk (w : World) (A : Option Addr) (n c : Nat) (D : Nat → SF) (B : Option Addr) (bn bc : Nat) (bf : Nat → Int) (h : Rd w A (n * 6) (fcF D)) (hg : ∀ i, (D i).good w) (hl : n ≤ c) (hm : c ≤ maxLen) (z : c * 64 ≤ 140737488351232)
    (hb : Rd w B bn (fun i => .int .i64 (bf i))) (wb : ∀ i, (Lit.int .i64 (bf i)).wf = true) (hbl : bn ≤ bc) (hbm : bc ≤ maxLen) (zb : bc * 8 ≤ 140737488351232) :
    Calls Try.prog 5 #[.slice A n c, .slice B bn bc] w fun e w' => e = .returned (.bool true) ∧ Below w.heap.size w w' := by
  have HR := Lib.hid h
  have HG := Lib.hid hg
  have HA := Lib.hid hb
  have hM0 := (mostF_ge bf bn).1
  have hM1 : mostF bf bn ≤ 9223372036854775807 := mostF_le bf bn _ (by omega) fun t _ => (bounds_i64 (wb t)).2
  have hMM : ∀ q, q ≤ bn → 0 ≤ mostF bf q ∧ mostF bf q ≤ 9223372036854775807 := fun q hq => ⟨(mostF_ge bf q).1, mostF_le bf q _ (by omega) fun t _ => (bounds_i64 (wb t)).2⟩
  have HMM := Lib.hid hMM
  have HWB : Hid (∀ i, -9223372036854775808 ≤ bf i ∧ bf i ≤ 9223372036854775807) := Lib.hid fun i => bounds_i64 (wb i)
  clear h hg hb wb hMM
  go_enter Try.func5, Try.ntmps5
  go_wp2_with fail
  refine (valueG_any D A n c B bn bc bf w (by omega) HR.out HG.out HA.out hbl hbm).mono ?_
  rintro e w2 ⟨⟨v, e1, rfl, v1, v2, v3⟩, hb2⟩
  have HV1 := Lib.hid v1
  have HV2 := Lib.hid v2
  have HV3 := Lib.hid v3
  have HB2 := Lib.hid hb2
  clear v1 v2 v3 hb2
  go_wp2_with fail
  refine (rankG_any D A n c w2 (by omega) (HR.out.below HB2.out) (fun i => (HG.out i).below HB2.out)).mono ?_
  rintro e w3 ⟨⟨r, f1, rfl, r1, r2⟩, hb3⟩
  have HR1 := Lib.hid r1
  have HR2 := Lib.hid r2
  have HB3 := Lib.hid (HB2.out.trans (hb3.mono HB2.out.size))
  clear r1 r2 hb3
  go_wp2_with fail
  refine (frefG_any D A n c w3 (by omega) (HR.out.below HB3.out) (fun i => (HG.out i).below HB3.out)).mono ?_
  rintro e w4 ⟨⟨z2, rfl, hz2⟩, hb4⟩
  have HZ2 := Lib.hid hz2
  have HB4 := Lib.hid (HB3.out.trans (hb4.mono HB3.out.size))
  clear hz2 hb4
  by_cases hok : okFs D n
  case neg =>
    have a1 : (z2 != 0) = true := by simp; exact fun h => hok (HZ2.out.1 h)
    have a2 : (e1 != 0) = true := by simp; exact HV1.out hok
    have a3 : (f1 != 0) = true := by simp; exact HR1.out hok
    clear hok
    go_wp2_with fail
    go_ret
    exact ⟨rfl, HB4.out⟩
  have a1 : (z2 != 0) = false := by simp; exact HZ2.out.2 hok
  obtain ⟨hr, hf⟩ := HR2.out hok
  have a3 : (f1 != 0) = false := by simp; exact hf
  have hrk := rk_of hok.2.2 (n - 1) (by have := hok.1; omega)
  rw [← hr] at hrk
  have hr40 : 1 ≤ r ∧ r ≤ 40 := by have := hok.1; have := hok.2.1; omega
  by_cases he : e1 = 0
  case neg =>
    have a2 : (e1 != 0) = true := by simp; exact he
    have hv0 := HV2.out he
    subst hv0
    clear hok he hrk hr hf
    go_wp2_with fail
    go_ret
    exact ⟨rfl, HB4.out⟩
  have a2 : (e1 != 0) = false := by simp; exact he
  obtain ⟨hv, hv1, hv4⟩ := HV3.out hok he
  rw [← hr] at hv1 hv4
  obtain ⟨M, hMe⟩ : ∃ M, M = mostF bf bn := ⟨_, rfl⟩
  rw [← hMe] at hv1 hv4 hM0 hM1
  have HV14 := Lib.hid (And.intro hv1 hv4)
  have HME := Lib.hid hMe
  have HRK := Lib.hid hrk.1
  clear hok he hrk hr hf hv1 hv4 hMe
  go_wp2_with fail
  go_loop [9, 50] (fun s9 s50 => ∃ (q : Nat) (m : Int), q ≤ bn ∧ Hid (m = mostF bf q) ∧ s9 = .int .i64 m ∧ s50 = .int .i64 (q : Nat)) (fun _ s50 => bn - (intOf s50).toNat)
  case atStart => exact ⟨0, 0, by omega, Lib.hid rfl, rfl, rfl⟩
  case round =>
    obtain ⟨q, m, hq, HMQ, rfl, rfl⟩ := hrel
    by_cases hqb : q < bn
    · obtain ⟨b', o', e', lb', hc⟩ := (HA.out.below HB4.out).at_ hqb
      subst e'
      obtain ⟨y, hy⟩ : ∃ y, y = bf q := ⟨_, rfl⟩
      rw [← hy] at hc
      have HY := Lib.hid hy
      have hyb := HWB.out q
      rw [← hy] at hyb
      clear hy
      have hmb := HMM.out q hq
      rw [← HMQ.out] at hmb
      by_cases hmy : m < y
      · go_wp2_with fail
        go_round
        case rel => exact ⟨q + 1, y, by omega, Lib.hid (by
          show y = if mostF bf q < bf q then bf q else mostF bf q
          rw [← HMQ.out, ← HY.out, if_pos hmy]), rfl, by go_num⟩
        case measure => simp [intOf]; omega
      · go_wp2_with fail
        go_round
        case rel => exact ⟨q + 1, m, by omega, Lib.hid (by
          show m = if mostF bf q < bf q then bf q else mostF bf q
          rw [← HMQ.out, ← HY.out, if_neg hmy]), rfl, by go_num⟩
        case measure => simp [intOf]; omega
    · have hqe : q = bn := by omega
      have hmM : m = M := by rw [HMQ.out, HME.out, hqe]
      subst hmM
      clear hqe
      have hqI : ¬ (q : Int) < (bn : Int) := by omega
      by_cases h4 : 4 < r
      · go_wp2_with fail
        go_ret
        exact ⟨rfl, HB4.out⟩
      · have hA : 0 ≤ r ∧ 0 ≤ m ∧ r ≤ 4 := ⟨by omega, by omega, by omega⟩
        cases hF : ackF r.toNat m.toNat with
        | none =>
          obtain ⟨x1, x2⟩ := a_none hA hF
          clear hA hF
          go_wp2_with fail
          refine (Ack_any r m w4 (by omega)).mono ?_
          rintro e w' ⟨rfl, rfl⟩
          rw [x1, x2]
          go_wp2_with fail
          go_ret
          exact ⟨rfl, HB4.out⟩
        | some ak =>
          obtain ⟨x1, x2⟩ := a_some hA hF
          have hlow := ackF_low hF
          have hva : v < (ak : Int) := by
            have h14 := HV14.out
            rcases HRK.out with h1 | h3
            · have := h14.1 (by omega); omega
            · have := h14.2 (by omega); omega
          clear hA hF hlow
          go_wp2_with fail
          refine (Ack_any r m w4 (by omega)).mono ?_
          rintro e w' ⟨rfl, rfl⟩
          rw [x1, x2]
          go_wp2_with fail
          go_ret
          exact ⟨rfl, HB4.out⟩
end Go.Proofs.Ytjnoolfdlgocjaa.funcsBound
