/- What all.Play computes on a plan that is one. Conditions: as the theorem states. -/
import Derived.Test.YtkogobnnimincaaAllPlanFns
namespace Go.Proofs.Ytkogobnnimincaa
open Go.ChangeShapes Go.WideShapes Go.ChangeAt Go.RowKit
set_option linter.unusedVariables false
theorem or_pow {s v : Nat} (hs : s < 2 ^ v) (hv : v ≤ 8) : bits .or .i64 (s : Int) ((2 ^ v : Nat) : Int) = ((s + 2 ^ v : Nat) : Int) := by
  obtain ⟨p0, p1, p2, p3⟩ := pow8 (V := v) hv
  rw [or_nat s (2 ^ v) (by omega) (by omega)]
  have h := Nat.two_pow_add_eq_or_of_lt hs 1
  rw [Nat.mul_one] at h
  rw [Nat.or_comm, ← h, Nat.add_comm]
theorem bit_f {s v : Nat} {h : Nat → Bool} (hs : s < 2 ^ v) (hb : ∀ i, i < v → bitN s i = h i) : s < 2 ^ (v + 1) ∧ ∀ i, i < v + 1 → bitN s i = setB h v false i := by
  have := bit_more hs hb false
  rwa [show s + Bool.toNat false * 2 ^ v = s by simp] at this
theorem bit_t {s v : Nat} {h : Nat → Bool} (hs : s < 2 ^ v) (hb : ∀ i, i < v → bitN s i = h i) : s + 2 ^ v < 2 ^ (v + 1) ∧ ∀ i, i < v + 1 → bitN (s + 2 ^ v) i = setB h v true i := by
  have := bit_more hs hb true
  rwa [show s + Bool.toNat true * 2 ^ v = s + 2 ^ v by simp] at this
theorem rd_cut {w : World} {b off n c p : Nat} {C : Nat → Value} (h : Rd w (some ⟨b, off, none⟩) n C) (hn : n ≤ c) (hp : p ≤ n) : Rd w (if c = p then some ⟨b, off, none⟩ else some ⟨b, off + p, none⟩) (n - p) (fun i => C (p + i)) := by
  by_cases e : c = p
  · rw [show n - p = 0 by omega]; exact Rd.zero _ _ _
  · rw [if_neg e]; exact h.cut
theorem alE_ok {m n : Nat} {Y N : Nat → SI} (he : alE m n Y N = 0) : m ≤ 8 ∧ wrC m 200 n Y N = 0 := by
  unfold alE at he
  by_cases e : 8 < m ∨ 12 < n
  · rw [if_pos e] at he; omega
  · rw [if_neg e] at he
    exact ⟨by omega, by rw [← he]; exact wrC_most (by omega) (by omega)⟩
set_option maxRecDepth 100000 in
set_option maxHeartbeats 4000000 in
theorem play_any (KA A PA0 MA0 : Option Addr) (m kc n c pc0 mc0 : Nat) (K C F : Nat → Bool) (Y N : Nat → SI) (w : World) (hC : Cls w A n Y N) (hK : Rd w KA m (fun i => .bool (K i))) (hn : n ≤ maxLen) (hE : alE m n Y N = 0)
    (hP : Rd w PA0 (offK K m) (fun i => .bool (C i))) (hM : Rd w MA0 (cntF K m) (fun i => .bool (F i))) (hpc : offK K m ≤ pc0) (hpm : pc0 ≤ maxLen) (hmc : cntF K m ≤ mc0) (hmm : mc0 ≤ maxLen)
    (hdep : ∀ g h : Nat → Bool, (∀ i, i < m → g i = h i) → isC n Y N g = isC n Y N h) (hok : PlanOk K m (isC n Y N) m C) (hwin : winS K m (isC n Y N) m (fun _ => false) = true) :
    Calls Try.prog 10 #[.slice KA m kc, .slice A n c, .slice PA0 (offK K m) pc0, .slice MA0 (cntF K m) mc0] w fun e w' => e = .returned (.tuple #[.bool true, .int .i64 0]) ∧ Below w.heap.size w w' := by
  obtain ⟨h8, hw200⟩ := alE_ok hE
  have H := Lib.hid hC
  have GK := Lib.hid hK
  have GP := Lib.hid hP
  have GM := Lib.hid hM
  have HN := Lib.hid hn
  have HE := Lib.hid hE
  have HOK := Lib.hid hok
  have HDEP := Lib.hid hdep
  have HW200 := Lib.hid hw200
  have HWIN := Lib.hid hwin
  have om := offK_lt K m
  have cm := cntF_le K m
  obtain ⟨q0, q1, q2, q3⟩ := pow8 (V := m) h8
  have om2 : offK K m ≤ 256 := by omega
  obtain ⟨ot, hot⟩ : ∃ o, o = offK K m := ⟨_, rfl⟩
  obtain ⟨ft, hft⟩ : ∃ f, f = cntF K m := ⟨_, rfl⟩
  have GP2 := GP.out
  have GM2 := GM.out
  rw [← hot] at om2 hpc GP2 ⊢
  rw [← hft] at cm hmc GM2 ⊢
  have OT := Lib.hid hot
  have FT := Lib.hid hft
  have GP' := Lib.hid GP2
  have GM' := Lib.hid GM2
  clear hC hK hP hM hn hE hok hdep hw200 hwin GP GM GP2 GM2 hot hft om q0 q1 q2 q3
  go_enter Try.func10, Try.ntmps10
  go_wp2_with fail
  refine (allWrong_any KA A m kc n c Y N w H.out HN.out (by unfold maxLen; omega)).mono ?_
  rintro e w1 ⟨rfl, hb1⟩
  rw [HE.out]
  have B1 := Lib.hid hb1
  clear hb1
  go_wp2_with fail
  go_loop [11, 12, 30] (fun s11 s12 s30 => ∃ v : Nat, v ≤ m ∧ s30 = .int .i64 v ∧ s11 = .int .i64 (offK K v) ∧ s12 = .int .i64 (cntF K v)) (fun _ _ s30 => m - (intOf s30).toNat)
  case atStart => exact ⟨0, Nat.zero_le _, rfl, rfl, rfl⟩
  case round =>
    obtain ⟨v, hv, rfl, rfl, rfl⟩ := hrel
    have ho := offK_lt K v
    have hc := cntF_le K v
    have ho1 := @offK_yes K v
    have ho2 := @offK_no K v
    have hc1 := @cntF_yes K v
    have hc2 := @cntF_no K v
    obtain ⟨p0, p1, p2, p3⟩ := pow8 (V := v) (by omega)
    obtain ⟨P, hP⟩ : ∃ P, P = 2 ^ v := ⟨_, rfl⟩
    have hPI : (2 : Int) ^ v = (P : Int) := by rw [hP]; simp
    rw [hPI] at p0 p1
    rw [← hP] at ho p2 p3 ho1
    obtain ⟨o, hO⟩ : ∃ o, o = offK K v := ⟨_, rfl⟩
    obtain ⟨f, hF⟩ : ∃ f, f = cntF K v := ⟨_, rfl⟩
    rw [← hO] at ho ho1 ho2 ⊢
    rw [← hF] at hc hc1 hc2 ⊢
    have HO := Lib.hid hO
    have HF := Lib.hid hF
    by_cases hlt : v < m
    · obtain ⟨b, off, rfl, _, hcl⟩ := (GK.out.below B1.out).at_ hlt
      cases hk : K v with
      | true =>
        rw [hk] at hcl
        have X := Lib.hid (And.intro (ho1 hk) (hc1 hk))
        clear ho1 ho2 hc1 hc2 hO hF hk hP
        go_wp2_with fail
        go_round
        case rel => exact ⟨v + 1, by omega, by go_num, by rw [X.out.1, ← hPI]; first | rfl | go_num, by rw [X.out.2]⟩
        case measure => simp [intOf]; omega
      | false =>
        rw [hk] at hcl
        have X := Lib.hid (And.intro (ho2 hk) (hc2 hk))
        clear ho1 ho2 hc1 hc2 hO hF hk hP
        go_wp2_with fail
        go_round
        case rel => exact ⟨v + 1, by omega, by go_num, by rw [X.out.1], by rw [X.out.2]; first | rfl | go_num⟩
        case measure => simp [intOf]; omega
    · obtain rfl : v = m := by omega
      obtain rfl : o = ot := by rw [HO.out, OT.out]
      obtain rfl : f = ft := by rw [HF.out, FT.out]
      clear ho1 ho2 hc1 hc2 hO hF hP hPI HO HF ho hc p0 p1 p2 p3 hlt hv P
      go_wp2_with fail
      go_loopw [2, 3, 15, 16, 55] (fun s2 s3 s15 s16 s55 wr => ∃ (j : Nat) (PA : Option Addr) (pn pc : Nat) (MA : Option Addr) (mn mc : Nat) (S : Option Addr) (sc s : Nat) (h : Nat → Bool), j ≤ v ∧ s55 = .int .i64 j ∧ (s2 = .slice PA pn pc ∧ pn = o - offK K j ∧ pn ≤ pc ∧ pc ≤ maxLen ∧ Rd w PA pn (fun i => .bool (C (offK K j + i)))) ∧ (s3 = .slice MA mn mc ∧ mn = f - cntF K j ∧ mn ≤ mc ∧ mc ≤ maxLen ∧ Rd w MA mn (fun i => .bool (F (cntF K j + i)))) ∧
        (s15 = .slice S j sc ∧ Own wr w.heap.size 4 1 S j sc j (fun q => .bool (h q))) ∧ (s16 = .int .i64 s ∧ s < 2 ^ j ∧ ∀ i, i < j → bitN s i = h i) ∧ winS K v (isC n Y N) (v - j) h = true ∧ Below w.heap.size w wr) (fun _ _ _ _ s55 _ => v - (intOf s55).toNat)
      case atStart => exact ⟨0, PA0, o, pc0, MA0, f, mc0, none, 0, 0, fun _ => false, Nat.zero_le _, rfl, ⟨rfl, rfl, hpc, hpm, GP'.out.congr fun i _ => by rw [show offK K 0 = 0 from rfl, Nat.zero_add]⟩, ⟨rfl, rfl, hmc, hmm, GM'.out.congr fun i _ => by rw [show cntF K 0 = 0 from rfl, Nat.zero_add]⟩, ⟨rfl, Own.nil _ _ _ _ _⟩, ⟨rfl, by decide, fun i hi => absurd hi (Nat.not_lt_zero _)⟩, HWIN.out, B1.out⟩
      case round =>
        obtain ⟨wo, rfl⟩ : ∃ wo : World, wo = wr := ⟨_, rfl⟩
        obtain ⟨j, PA, pn, pc, MA, mn, mc, S, sc, s, h, hj, rfl, ⟨rfl, hpn, hpl, hpx, hprd⟩, ⟨rfl, hmn, hml, hmx, hmrd⟩, ⟨rfl, hown⟩, ⟨rfl, hs, hbit⟩, hw, hbel⟩ := hrel
        have sz := hbel.size
        by_cases hlt : j < v
        · obtain ⟨kb, ko, rfl, _, hkc⟩ := (GK.out.below hbel).at_ hlt
          have hst := fun x hx => play_step (x := x) HDEP.out hlt HOK.out hs hbit hw hx
          have hmf := bit_f hs hbit
          have hmt := bit_t hs hbit
          have hor := or_pow hs (by omega)
          obtain ⟨p0, p1, p2, p3⟩ := pow8 (V := j) (by omega)
          have mo := offK_mono K (show j + 1 ≤ v by omega)
          have mc' := cntF_mono K (show j + 1 ≤ v by omega)
          rw [← OT.out] at mo
          rw [← FT.out] at mc'
          have hoy := @offK_yes K j
          have hon := @offK_no K j
          have hcy := @cntF_yes K j
          have hcn := @cntF_no K j
          obtain ⟨P, hP⟩ : ∃ P, P = 2 ^ j := ⟨_, rfl⟩
          have hPI : (2 : Int) ^ j = (P : Int) := by rw [hP]; simp
          rw [hPI] at p0 p1
          rw [← hP] at hs p2 p3 hor hoy hmt
          have HMF := Lib.hid hmf
          have HMT := Lib.hid hmt
          have HPP := Lib.hid hP
          clear hmf hmt hP
          cases hk : K j with
          | true =>
            rw [hk] at hkc hst
            have ho1 := hoy hk
            have hc1 := hcy hk
            have hPn : P ≤ pn := by omega
            obtain ⟨pb, po, rfl, _, hpcell⟩ := (hprd.below hbel).at_ (show s < pn by omega)
            obtain ⟨x, hx⟩ : ∃ x, x = C (offK K j + s) := ⟨_, rfl⟩
            rw [← hx] at hpcell hst
            have hw2 := hst x (fun _ => rfl)
            have hcut := rd_cut hprd hpl hPn
            have PN := Lib.hid hpn
            have MN := Lib.hid hmn
            have W2 := Lib.hid hw2
            have CUT := Lib.hid hcut
            have MRD := Lib.hid hmrd
            have O1 := Lib.hid ho1
            have C1 := Lib.hid hc1
            have KJ := Lib.hid hk
            clear hst hoy hon hcy hcn hw hprd hmrd hbit hx hw2 hcut ho1 hc1 hk hpn hmn mo mc'
            have BA := hbel.alloc sz (.cells #[.bool x] 4)
            cases x
            all_goals
              go_wp2_with (at_builtin; refine wpList_app _ rfl (.tmp 79) (.tmp 81) 23 rfl EBa rfl (hown.alloc _) rfl (l := 1) (by omega) (Rd.one _ _ _) (fun _ _ => rfl) (by unfold maxLen; omega) (by omega) (by simp; omega) (j + 1) (j + 1) rfl (by omega) ?_; intro A2 c2 w3 hown2 hg2 hat2 hbl2)
              go_roundw
              case rel => exact ⟨j + 1, _, pn - P, pc - P, MA, mn, mc, A2, c2, _, setB h j _, by omega, by go_num, ⟨rfl, by rw [O1.out, PN.out]; omega, by omega, by omega, (CUT.out.congr fun i _ => by rw [O1.out, Nat.add_assoc])⟩, ⟨rfl, by rw [C1.out, MN.out], hml, hmx, MRD.out.congr fun i _ => by rw [C1.out]⟩, ⟨rfl, hown2.congr (cat_set h j _)⟩, ⟨rfl, by first | exact HMF.out | exact HMT.out⟩, W2.out, BA.trans hbl2⟩
              case measure => simp [intOf]; omega
          | false =>
            rw [hk] at hkc hst
            have ho1 := hon hk
            have hc1 := hcn hk
            have hPn : 1 ≤ mn := by omega
            obtain ⟨pb, po, rfl, _, hmcell⟩ := (hmrd.below hbel).at_ (show 0 < mn by omega)
            obtain ⟨x, hx⟩ : ∃ x, x = F (cntF K j + 0) := ⟨_, rfl⟩
            rw [← hx] at hmcell
            rw [Nat.add_zero] at hmcell
            have hw2 := hst x (fun h => absurd h (by decide))
            have hcut := rd_cut hmrd hml hPn
            have PN := Lib.hid hpn
            have MN := Lib.hid hmn
            have W2 := Lib.hid hw2
            have CUT := Lib.hid hcut
            have PRD := Lib.hid hprd
            have O1 := Lib.hid ho1
            have C1 := Lib.hid hc1
            have KJ := Lib.hid hk
            clear hst hoy hon hcy hcn hw hprd hmrd hbit hx hw2 hcut ho1 hc1 hk hpn hmn mo mc'
            have BA := hbel.alloc sz (.cells #[.bool x] 4)
            cases x
            all_goals
              go_wp2_with fail
              go_region
              go_wp2_with (at_builtin; refine wpList_app _ rfl (.tmp 79) (.tmp 81) 23 rfl EBa rfl (hown.alloc _) rfl (l := 1) (by omega) (Rd.one _ _ _) (fun _ _ => rfl) (by unfold maxLen; omega) (by omega) (by simp; omega) (j + 1) (j + 1) rfl (by omega) ?_; intro A2 c2 w3 hown2 hg2 hat2 hbl2)
              go_roundw
              case rel => exact ⟨j + 1, PA, pn, pc, _, mn - 1, mc - 1, A2, c2, _, setB h j _, by omega, by go_num, ⟨rfl, by rw [O1.out, PN.out], hpl, hpx, (PRD.out.congr fun i _ => by rw [O1.out])⟩, ⟨rfl, by rw [C1.out, MN.out]; omega, by omega, by omega, CUT.out.congr fun i _ => by rw [C1.out, Nat.add_assoc]⟩, ⟨rfl, hown2.congr (cat_set h j _)⟩, ⟨rfl, by first | exact HMF.out | exact HMT.out⟩, W2.out, BA.drew.trans hbl2⟩
              case measure => simp [intOf]; omega
        · obtain rfl : j = v := by omega
          have hrd := hown.rd
          have e0 : j - j = 0 := by omega
          rw [e0] at hw
          have et : trE j n Y N j = 0 := by unfold trE; rw [if_pos HW200.out, if_pos rfl]
          have eb : trB j n Y N j h = isC n Y N h := if_pos et
          have HRD := Lib.hid hrd
          have EB := Lib.hid (eb.trans hw)
          have ET := Lib.hid et
          clear hrd hown hw et eb hbit hprd hmrd hpn hmn e0
          go_wp2_with fail
          refine (true_any j A S n c j sc Y N h _ (H.out.below hbel) HRD.out HN.out (by unfold maxLen; omega)).mono ?_
          rintro e w2 ⟨rfl, hb2⟩
          rw [EB.out, ET.out]
          go_wp2_with fail
          go_ret2
          exact ⟨rfl, hbel.trans (hb2.mono hbel.size)⟩
end Go.Proofs.Ytkogobnnimincaa
