/- PairsRow: both sums are additive in each row. No condition. -/
import Derived.Test.YtenlnkcmabphfaaPairsCpy
namespace Go.Proofs.Ytenlnkcmabphfaa.pairsRow
open Go.ChangeShapes Go.WideShapes Go.ChangeAt Go.RowKit
set_option linter.unusedVariables false
set_option linter.unusedSimpArgs false
set_option maxRecDepth 100000 in
set_option maxHeartbeats 8000000 in
theorem walk (w : World) (A : Option Addr) (n c : Nat) (R : Nat → SI) (rA : Option Addr) (rn rc : Nat) (rf : Nat → Int) (ai : Int) (h : Rd w A n (fun i => (R i).val)) (hg : ∀ i, (R i).good w) (hl : n ≤ c) (hm : c ≤ maxLen) (z : c * 24 ≤ 140737488351232)
    (hr : Rd w rA rn (fun i => .int .i64 (rf i))) (wr : ∀ i, (Lit.int .i64 (rf i)).wf = true) (hrl : rn ≤ rc) (hrm : rc ≤ maxLen) (zr : rc * 8 ≤ 140737488351232) (wi : (Lit.int .u8 ai).wf = true) :
    Calls Try.prog 5 #[.slice A n c, .slice rA rn rc, .int .u8 ai] w fun e w' => e = .returned (.bool true) ∧ Below w.heap.size w w' := by
  have hai : 0 ≤ ai ∧ ai ≤ 255 := by simp [Lit.wf, IntKind.min, IntKind.max, IntKind.signed, IntKind.bits] at wi; omega
  have H : Hid (GrP w A n R) := Lib.hid ⟨h, fun i _ => hg i⟩
  have HNM : Hid (n ≤ maxLen) := Lib.hid (by omega)
  have HRR : Hid ((SI.mk rA rn rc rf).good w) := Lib.hid ⟨hr, wr, hrl, hrm⟩
  have hnx : n ≤ 9223372036854775807 := by unfold maxLen at hm; omega
  have hrx : rn ≤ 9223372036854775807 := by unfold maxLen at hrm; omega
  have HC1 := Lib.hid (ways_any A n c R w H.out HNM.out)
  have HC2 := Lib.hid fun X (hX : Below w.heap.size w X) => signed_any A n c R X (H.out.below hX) HNM.out
  have HC3 := Lib.hid fun X (hX : Below w.heap.size w X) => squaredP_any A n c R X (H.out.below hX) HNM.out
  obtain ⟨v, hv⟩ : ∃ v, v = pwE n R := ⟨_, rfl⟩
  obtain ⟨a, ha⟩ : ∃ a, a = (if v = 0 then dt 1 n (mtW R) else 0) := ⟨_, rfl⟩
  obtain ⟨b, hb⟩ : ∃ b, b = (if v = 0 then dt (-1) n (mtW R) else 0) := ⟨_, rfl⟩
  rw [← hv] at HC1 HC2 HC3
  rw [← ha] at HC1
  rw [← hb] at HC2
  have HV := Lib.hid hv
  have HA := Lib.hid ha
  have HB := Lib.hid hb
  clear h hg hl hm z hr wr hrl hrm zr wi hv ha hb
  go_enter Try.func5, Try.ntmps5
  go_wp2_with fail
  refine HC1.out.mono ?_
  rintro e w1 ⟨rfl, hb1⟩
  go_wp2_with fail
  refine (HC2.out w1 hb1).mono ?_
  rintro e w2 ⟨rfl, hb2⟩
  have hb2' := hb1.trans (hb2.mono hb1.size)
  have HB2 := Lib.hid hb2'
  have hsq := HC3.out w2 hb2'
  clear HC1 HC2 HC3 hb1 hb2 hb2'
  by_cases hv0 : v = 0
  · have HZ : Hid (pwE n R = 0) := Lib.hid (by rw [← HV.out]; exact hv0)
    have HA' : Hid (a = svP 1 n R) := Lib.hid (by rw [HA.out, if_pos hv0]; rfl)
    have HB' : Hid (b = svP (-1) n R) := Lib.hid (by rw [HB.out, if_pos hv0]; rfl)
    rw [show (v == 0) = true by rw [hv0]; rfl] at hsq
    have HSQ := Lib.hid hsq
    clear hsq HA HB HV
    subst hv0
    have hz := pwE_zero HZ.out
    obtain ⟨⟨n1, n6⟩, hlen, hval⟩ := hz
    have HLEN := Lib.hid hlen
    have HVAL := Lib.hid hval
    clear hlen hval
    go_wp2_with fail
    refine HSQ.out.mono ?_
    rintro e w3 ⟨rfl, rfl⟩
    clear HSQ
    by_cases hrn : rn = n
    · have hrn2 := hrn.symm
      clear hrn
      subst hrn2
      have hda : -46080000000 ≤ a ∧ a ≤ 46080000000 := by rw [HA'.out]; exact sv_bd (.inl rfl) HZ.out
      have hdb : -46080000000 ≤ b ∧ b ≤ 46080000000 := by rw [HB'.out]; exact sv_bd (.inr rfl) HZ.out
      obtain ⟨k, hk⟩ : ∃ k : Nat, ai % (n : Int) = (k : Int) := ⟨(ai % (n : Int)).toNat, by have := Int.emod_nonneg ai (show (n : Int) ≠ 0 by omega); omega⟩
      have hkn : k < n := by have := Int.emod_lt_of_pos ai (show (0 : Int) < n by omega); omega
      have HK := Lib.hid hk
      clear hk
      obtain ⟨rB, rO, rfl, hAlt, _⟩ := H.out.1.at_ (show 0 < n by omega)
      have HRM := Lib.hid ((H.out.below HB2.out).1.alloc (.cells #[] 24))
      have qnn : ((n : Int) != (n : Int)) = false := by simp
      go_upto_region 9 with (at_builtin; refine wpList_app _ rfl (.tmp 60) (.tmp 61) 22 rfl EMt rfl (Own.empty w2 w2.heap.size 24 1 (fun _ => .slice none 0 0) (Nat.le_refl _)) rfl (l := n) (by omega) HRM.out (fun _ _ => rfl) (by unfold maxLen; omega) (by omega) (by simp) n n (by omega) (by omega) ?_; intro OA oc w3 hown2 hg2 hat2 hbl2; have HOW := Lib.hid hown2; have HB3 := Lib.hid (((Below.refl w2.heap.size w2).alloc (Nat.le_refl _) (.cells #[] 24)).trans hbl2); clear hown2 hg2 hat2 hbl2)
      rw [HK.out]
      obtain ⟨og, rfl, hcp⟩ := Cpy.of (V := R) HOW.out (by omega) fun q hq => by rw [cat_ge (Nat.zero_le _)]; rfl
      have f1 := (hcp.cell hkn).1
      have f2 := (hcp.cell hkn).2
      have f3 : (R k).val = .slice (R k).A (R k).n (R k).c := rfl
      rw [f3] at f1
      obtain ⟨W4, hW4⟩ : ∃ W, W = w3.setCell ⟨og, k, none⟩ (.slice rA n rc) := ⟨_, rfl⟩
      have hcp4 : Cpy W4 w2.heap.size og oc n (fun q => if q = k then ⟨rA, n, rc, rf⟩ else R q) := by rw [hW4]; exact hcp.set k ⟨rA, n, rc, rf⟩
      have hb4 : Below w2.heap.size w2 W4 := by rw [hW4]; exact HB3.out.setCell hcp.ge _
      have HW4 := Lib.hid hW4
      have HCP4 := Lib.hid hcp4
      have HB4 := Lib.hid hb4
      have HBw := Lib.hid (HB2.out.trans (hb4.mono HB2.out.size))
      clear hcp hcp4 hb4 hW4 HOW f3 HRM HB3
      go_upto_region 10 with (fail)
      rw [← HW4.out]
      clear HW4 f1 f2
      have HRM := Lib.hid ((H.out.below HBw.out).1.alloc (.cells #[] 24))
      go_upto_region 12 with (at_builtin; refine wpList_app _ rfl (.tmp 67) (.tmp 68) 22 rfl EMt rfl (Own.empty W4 W4.heap.size 24 1 (fun _ => .slice none 0 0) (Nat.le_refl _)) rfl (l := n) (by omega) HRM.out (fun _ _ => rfl) (by unfold maxLen; omega) (by omega) (by simp) n n (by omega) (by omega) ?_; intro OA2 oc2 w5 hown2 hg2 hat2 hbl2; have HOW := Lib.hid hown2; have HB5 := Lib.hid (((Below.refl W4.heap.size W4).alloc (Nat.le_refl _) (.cells #[] 24)).trans hbl2); clear hown2 hg2 hat2 hbl2)
      obtain ⟨og2, rfl, hcp⟩ := Cpy.of (V := R) HOW.out (by omega) fun q hq => by rw [cat_ge (Nat.zero_le _)]; rfl
      have HCP5 := Lib.hid hcp
      have HBw5 := Lib.hid (HBw.out.trans (HB5.out.mono HBw.out.size))
      have hAk := HLEN.out k hkn
      have hvk := HVAL.out k hkn
      have hcl : ∀ X : World, Below w5.heap.size w5 X → X.cell? ⟨rB, rO + k, none⟩ = some (.slice (R k).A n (R k).c) ∧ ∀ j, j < n → ∃ yb yo, (R k).A = some ⟨yb, yo, none⟩ ∧ X.cell? ⟨yb, yo + j, none⟩ = some (.int .i64 ((R k).f j)) := fun X hX => by
        have hG := H.out.below (HBw5.out.trans (hX.mono HBw5.out.size))
        constructor
        · obtain ⟨b', o', e, _, hc⟩ := hG.1.at_ hkn
          cases e
          rw [hc]
          show some (Value.slice (R k).A (R k).n (R k).c) = _
          rw [hAk]
        · intro j hj
          obtain ⟨b', o', e, _, hc⟩ := (hG.2 k hkn).1.at_ (show j < (R k).n by rw [hAk]; exact hj)
          exact ⟨b', o', e, hc⟩
      have hclr : ∀ X : World, Below w5.heap.size w5 X → (SI.mk rA n rc rf).good X := fun X hX => HRR.out.below (HBw5.out.trans (hX.mono HBw5.out.size))
      obtain ⟨yA, hyA⟩ : ∃ y, y = (R k).A := ⟨_, rfl⟩
      obtain ⟨yc, hyc⟩ : ∃ y, y = (R k).c := ⟨_, rfl⟩
      obtain ⟨yf, hyf⟩ : ∃ y, y = (R k).f := ⟨_, rfl⟩
      rw [← hyA, ← hyc, ← hyf] at hcl
      rw [← hyf] at hvk
      have HYF := Lib.hid hyf
      have HCL := Lib.hid hcl
      have HCLR := Lib.hid hclr
      have HVK := Lib.hid hvk
      clear hcp hAk hvk hcl hclr HOW hyA hyc hyf HRM
      go_wp2_with fail
      go_loopw [14, 72] (fun s14 s72 wr => ∃ (j : Nat) (S : Option Addr) (sc : Nat), j ≤ n ∧ s14 = .slice S j sc ∧ s72 = .int .i64 (j : Nat) ∧ Hid (Own wr w5.heap.size 3 1 S j sc j (fun q => .int .i64 (if q < n then rf q + yf q else 0))) ∧ Hid (Below w5.heap.size w5 wr) ∧ Hid (∀ q, q < j → (-20 ≤ rf q ∧ rf q ≤ 20) ∧ -20 ≤ rf q + yf q ∧ rf q + yf q ≤ 20)) (fun _ s72 _ => n - (intOf s72).toNat)
      case atStart => exact ⟨0, none, 0, Nat.zero_le _, rfl, rfl, Lib.hid (Own.nil _ _ _ _ _), Lib.hid (Below.refl _ _), Lib.hid fun q hq => absurd hq (Nat.not_lt_zero _)⟩
      case round =>
        obtain ⟨wo, rfl⟩ : ∃ wo : World, wo = wr := ⟨_, rfl⟩
        obtain ⟨j, S, sc, hj, rfl, rfl, HO, HBO, HALL⟩ := hrel
        by_cases hjn : j < n
        · obtain ⟨c1, hc2⟩ := HCL.out wo HBO.out
          obtain ⟨yb, yo, rfl, c2⟩ := hc2 j hjn
          obtain ⟨b3, o3, hrA, _, c3⟩ := (HCLR.out wo HBO.out).1.at_ (show j < n from hjn)
          have hrA' : rA = some ⟨b3, o3, none⟩ := hrA
          subst hrA'
          have c3' : wo.cell? ⟨b3, o3 + j, none⟩ = some (.int .i64 (rf j)) := c3
          have hvj := HVK.out j hjn
          have hrw := (HCLR.out wo HBO.out).2.1 j
          have hr63 : -9223372036854775808 ≤ rf j ∧ rf j ≤ 9223372036854775807 := by have : (Lit.int .i64 (rf j)).wf = true := hrw; simp [Lit.wf, IntKind.min, IntKind.max, IntKind.signed, IntKind.bits] at this; omega
          obtain ⟨x, hx⟩ : ∃ x, x = rf j := ⟨_, rfl⟩
          obtain ⟨m, hmm⟩ : ∃ m, m = yf j := ⟨_, rfl⟩
          rw [← hx] at c3' hr63
          rw [← hmm] at c2 hvj
          have HX := Lib.hid hx
          have HMM := Lib.hid hmm
          clear c3 hrw hx hmm hc2 hrA
          by_cases hx1 : -20 ≤ x ∧ x ≤ 20
          · have wadd : IntKind.i64.wrap (x + m) = x + m := IntWalk.i64_in _ (by omega)
            have hwi1 := within_any (-20) x 20 wo
            rw [inB_yes hx1.1 hx1.2] at hwi1
            have HWI1 := Lib.hid hwi1
            clear hwi1
            by_cases hx2 : -20 ≤ x + m ∧ x + m ≤ 20
            · have hwi2 := within_any (-20) (x + m) 20 wo
              rw [inB_yes hx2.1 hx2.2] at hwi2
              have HWI2 := Lib.hid hwi2
              have hwsz := HBO.out.size
              clear hwi2
              go_wp2_with fail
              refine HWI1.out.mono ?_
              rintro e w6 ⟨rfl, rfl⟩
              go_wp2_with fail
              refine HWI2.out.mono ?_
              rintro e w6 ⟨rfl, rfl⟩
              go_wp2_with (at_builtin; refine wpList_app _ rfl (.tmp 99) (.tmp 109) 24 rfl ENt rfl (HO.out.alloc _) rfl (l := 1) (by omega) (Rd.one _ (.int .i64 (x + m)) _) (fun _ _ => rfl) (by unfold maxLen; omega) (by omega) (by simp; omega) (j + 1) (j + 1) rfl rfl ?_; intro A2 ac2 w6 hown2 hg2 hat2 hbl2; have HOW := Lib.hid hown2; have HBL := Lib.hid ((HBO.out.alloc (by omega) _).trans hbl2); clear hown2 hg2 hat2 hbl2)
              go_roundw
              case rel => exact ⟨j + 1, A2, ac2, by omega, rfl, by go_num, Lib.hid (sum_app HOW.out (fun q hq => rfl) (by rw [if_pos hjn, HX.out, HMM.out])), HBL, Lib.hid fun q hq => by
                by_cases e : q < j
                · exact HALL.out q e
                · obtain rfl : q = j := by omega
                  rw [← HX.out, ← HMM.out]; exact ⟨hx1, hx2⟩⟩
              case measure => simp [intOf]; omega
            · have hwi2 := within_any (-20) (x + m) 20 wo
              rw [inB_no hx2] at hwi2
              have HWI2 := Lib.hid hwi2
              clear hwi2
              go_wp2_with fail
              refine HWI1.out.mono ?_
              rintro e w6 ⟨rfl, rfl⟩
              go_wp2_with fail
              refine HWI2.out.mono ?_
              rintro e w6 ⟨rfl, rfl⟩
              go_wp2_with fail
              go_ret
              exact ⟨rfl, HBw5.out.trans (HBO.out.mono HBw5.out.size)⟩
          · have hwi1 := within_any (-20) x 20 wo
            rw [inB_no hx1] at hwi1
            have HWI1 := Lib.hid hwi1
            clear hwi1
            go_wp2_with fail
            refine HWI1.out.mono ?_
            rintro e w6 ⟨rfl, rfl⟩
            go_wp2_with fail
            go_ret
            exact ⟨rfl, HBw5.out.trans (HBO.out.mono HBw5.out.size)⟩
        · obtain rfl : j = n := by omega
          have hcp6 := HCP5.out.below HBO.out
          have f1 := (hcp6.cell hkn).1
          have f2 := (hcp6.cell hkn).2
          have f3 : (R k).val = .slice (R k).A (R k).n (R k).c := rfl
          rw [f3] at f1
          obtain ⟨W7, hW7⟩ : ∃ W, W = wo.setCell ⟨og2, k, none⟩ (.slice S j sc) := ⟨_, rfl⟩
          obtain ⟨V1, hV1⟩ : ∃ V : Nat → SI, V = fun q => if q = k then ⟨rA, j, rc, rf⟩ else R q := ⟨_, rfl⟩
          obtain ⟨V2, hV2⟩ : ∃ V : Nat → SI, V = fun q => if q = k then ⟨S, j, sc, fun q => if q < j then rf q + yf q else 0⟩ else R q := ⟨_, rfl⟩
          have v1k : V1 k = ⟨rA, j, rc, rf⟩ := by rw [hV1]; exact if_pos rfl
          have v2k : V2 k = ⟨S, j, sc, fun q => if q < j then rf q + yf q else 0⟩ := by rw [hV2]; exact if_pos rfl
          have v1o : ∀ q, q ≠ k → V1 q = R q := fun q hq => by rw [hV1]; exact if_neg hq
          have v2o : ∀ q, q ≠ k → V2 q = R q := fun q hq => by rw [hV2]; exact if_neg hq
          have hcp7 : Cpy W7 W4.heap.size og2 oc2 j V2 := by rw [hW7, hV2]; exact hcp6.set k ⟨S, j, sc, fun q => if q < j then rf q + yf q else 0⟩
          have hb7 : Below W4.heap.size W4 W7 := by rw [hW7]; exact (HB5.out.trans (HBO.out.mono HB5.out.size)).setCell hcp6.ge _
          have hbw7 : Below w.heap.size w W7 := HBw.out.trans (hb7.mono HBw.out.size)
          have hcp1 : Cpy W4 w2.heap.size og oc j V1 := by rw [hV1]; exact HCP4.out
          have hvo := HVAL.out
          have hln := HLEN.out
          have hyf : ∀ q, yf q = (R k).f q := fun q => by rw [HYF.out]
          have p1 : pwE j V1 = 0 := pwE_ok ⟨n1, n6⟩ (fun q hq => by
            by_cases e : q = k
            · rw [e, v1k]
            · rw [v1o q e]; exact hln q hq) fun q hq t ht => by
            by_cases e : q = k
            · rw [e, v1k]; exact (HALL.out t ht).1
            · rw [v1o q e]; exact hvo q hq t ht
          have p2 : pwE j V2 = 0 := pwE_ok ⟨n1, n6⟩ (fun q hq => by
            by_cases e : q = k
            · rw [e, v2k]
            · rw [v2o q e]; exact hln q hq) fun q hq t ht => by
            by_cases e : q = k
            · rw [e, v2k]
              show -20 ≤ (if t < j then rf t + yf t else 0) ∧ (if t < j then rf t + yf t else 0) ≤ 20
              rw [if_pos ht]; exact (HALL.out t ht).2
            · rw [v2o q e]; exact hvo q hq t ht
          have hsg : (SI.mk S j sc (fun q => if q < j then rf q + yf q else 0)).good W7 := by
            have ho := HO.out
            have hne : ∀ g, (Value.slice S j sc).ownBlock = some g → g ≠ og2 := fun g hg => by
              have := (ho.lt g hg).1
              have := HCP5.out.lt
              omega
            refine ⟨?_, fun q => ?_, HO.out.le⟩
            · rw [hW7]
              exact (ho.of_block fun g hg => Deep.blk_setCell_other _ _ _ _ (hne g hg)).rd
            · show (Lit.int .i64 (if q < j then rf q + yf q else 0)).wf = true
              by_cases e : q < j
              · rw [if_pos e]
                have := (HALL.out q e).2
                simp [Lit.wf, IntKind.min, IntKind.max, IntKind.signed, IntKind.bits]
                omega
              · rw [if_neg e]; decide
          have hg1 : ∀ X, Below W7.heap.size W7 X → GrP X (some ⟨og, 0, none⟩) j V1 := fun X hX => ⟨(hcp1.below (hb7.trans (hX.mono hb7.size))).rd, fun q hq => by
            by_cases e : q = k
            · rw [e, v1k]; exact HRR.out.below (hbw7.trans (hX.mono hbw7.size))
            · rw [v1o q e]; exact (H.out.below (hbw7.trans (hX.mono hbw7.size))).2 q hq⟩
          have hg2 : ∀ X, Below W7.heap.size W7 X → GrP X (some ⟨og2, 0, none⟩) j V2 := fun X hX => ⟨(hcp7.below hX).rd, fun q hq => by
            by_cases e : q = k
            · rw [e, v2k]; exact hsg.below hX
            · rw [v2o q e]; exact (H.out.below (hbw7.trans (hX.mono hbw7.size))).2 q hq⟩
          have hadd : ∀ e : Int, svP e j V2 = svP e j R + svP e j V1 := fun e => dt_add e k hkn (fun t ht => by
            show (V2 k).f t = (R k).f t + (V1 k).f t
            rw [v1k, v2k]
            show (if t < j then rf t + yf t else 0) = (R k).f t + rf t
            rw [if_pos ht, hyf]; omega) fun q hq hne t ht => by
            show (V2 q).f t = (R q).f t ∧ (V2 q).f t = (V1 q).f t
            rw [v1o q hne, v2o q hne]; exact ⟨rfl, rfl⟩
          have hd1 := sv_bd (.inl rfl) p1
          have hd2 := sv_bd (.inr rfl) p1
          have C1 := Lib.hid fun X hX => ways_ok (c := oc) (hg1 X hX) p1
          have C2 := Lib.hid fun X hX => signed_ok (c := oc) (hg1 X hX) p1
          have C3 := Lib.hid fun X hX => ways_ok (c := oc2) (hg2 X hX) p2
          have C4 := Lib.hid fun X hX => signed_ok (c := oc2) (hg2 X hX) p2
          rw [hadd 1, ← HA'.out] at C3
          rw [hadd (-1), ← HB'.out] at C4
          obtain ⟨x1, hx1⟩ : ∃ x, x = svP 1 j V1 := ⟨_, rfl⟩
          obtain ⟨x2, hx2⟩ : ∃ x, x = svP (-1) j V1 := ⟨_, rfl⟩
          rw [← hx1] at C1 C3 hd1
          rw [← hx2] at C2 C4 hd2
          have HBW := Lib.hid hbw7
          have HW7 := Lib.hid hW7
          clear hx1 hx2 hadd hg1 hg2 hsg p1 p2 hyf hvo hln hcp1 hbw7 hb7 hcp7 v1k v2k v1o v2o hV1 hV2 hW7 f3 hcp6
          go_upto_region 20 with (fail)
          rw [← HW7.out]
          clear HW7 f1 f2
          go_wp2_with fail
          refine (C1.out W7 (Below.refl _ _)).mono ?_
          rintro e w8 ⟨rfl, b8⟩
          go_wp2_with fail
          refine (C2.out w8 b8).mono ?_
          rintro e w9 ⟨rfl, b9⟩
          have b9' := b8.trans (b9.mono b8.size)
          go_wp2_with fail
          refine (C3.out w9 b9').mono ?_
          rintro e w10 ⟨rfl, b10⟩
          have b10' := b9'.trans (b10.mono b9'.size)
          go_wp2_with fail
          refine (C4.out w10 b10').mono ?_
          rintro e w11 ⟨rfl, b11⟩
          have HBE := Lib.hid (HBW.out.trans ((b10'.trans (b11.mono b10'.size)).mono HBW.out.size))
          clear b8 b9 b9' b10 b10' b11 C1 C2 C3 C4
          go_wp2_with fail
          go_ret
          exact ⟨rfl, HBE.out⟩
    · have hne : ((rn : Int) != (n : Int)) = true := by rw [bne_iff_ne]; omega
      go_wp2_with fail
      go_ret
      exact ⟨rfl, HB2.out⟩
  · have q1 : (v != 0) = true := by rw [bne_iff_ne]; exact hv0
    rw [show (v == 0) = false from beq_eq_false_iff_ne.2 hv0] at hsq
    have HSQ := Lib.hid hsq
    clear hsq hv0
    go_wp2_with fail
    refine HSQ.out.mono ?_
    rintro e w3 ⟨rfl, rfl⟩
    go_wp2_with fail
    go_ret
    exact ⟨rfl, HB2.out⟩
end Go.Proofs.Ytenlnkcmabphfaa.pairsRow
