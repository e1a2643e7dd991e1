/- With a weight more for one thing the least sum is no less, and no more than so much more. No condition. -/
import Derived.Test.YtmnleblbandghaaLoneWeigh
import Derived.Test.YtmnleblbandghaaLoneCheck
import Derived.Test.YtmnleblbandghaaRow
import Derived.Deep.RegionLaw
namespace Go.Proofs.Ytmnleblbandghaa.loneLight
open Go.ChangeShapes Go.WideShapes Go.ChangeAt Go.RowKit Go.Maps
set_option linter.unusedVariables false
theorem EIl : Elem Try.prog 31 3 1 8 := Elem.of Try.underlying31 (by kernel_rfl : (Try.prog.info? 3).map (fun i => (i.zero, i.size, i.bytes)) = some (some (.int .i64 0), 1, 8)) rfl (by omega)
set_option maxRecDepth 100000 in
set_option maxHeartbeats 2000000 in
theorem walk (w : World) (n : Int) (A : Option Addr) (m c : Nat) (S : Nat → Int) (WA : Option Addr) (nw cw : Nat) (W : Nat → Int) (I : Int)
    (wn : (Lit.int .i64 n).wf = true) (h : Rd w A m (fun i => .int .u32 (S i))) (wfS : ∀ i, (Lit.int .u32 (S i)).wf = true) (hl : m ≤ c) (hm : c ≤ maxLen) (z : c * 4 ≤ 140737488351232)
    (hw : Rd w WA nw (fun i => .int .i64 (W i))) (wfW : ∀ i, (Lit.int .i64 (W i)).wf = true) (hlw : nw ≤ cw) (hmw : cw ≤ maxLen) (zw : cw * 8 ≤ 140737488351232) (wI : (Lit.int .u8 I).wf = true) :
    Calls Try.prog 4 #[.int .i64 n, .slice A m c, .slice WA nw cw, .int .u8 I] w fun e w' => e = .returned (.bool true) ∧ Below w.heap.size w w' := by
  obtain ⟨I0, I1⟩ := bounds_u8 wI
  have hmm : m ≤ maxLen := by omega
  have hnn : nw ≤ maxLen := by omega
  have H := Lib.hid h
  have HW := Lib.hid hw
  have HS := Lib.hid wfS
  have HMM := Lib.hid hmm
  have HNN := Lib.hid hnn
  unfold maxLen at hmm hnn
  clear h hw wfS wfW wI hl hm hlw hmw
  go_enter Try.func4, Try.ntmps4
  go_wp2_with fail
  refine (leastL_any n A WA m c nw cw S W w wn H.out HMM.out (fun i _ => HS.out i) HW.out HNN.out).mono ?_
  rintro e w1 ⟨B, L, cn, cc, G, x, rfl, hb1, hcase⟩
  rcases hcase with ⟨rfl, hin, hrd, hc1, hc2, hB0, hB1, hlst⟩ | ⟨hx0, rfl, rfl, rfl, rfl, hno⟩
  · obtain ⟨hok, hnw, hWW⟩ := hin
    subst hnw
    have hn5 := hok.1
    have hm200 := hok.2.1
    have hs1 := hb1.size
    have HOK := Lib.hid hok
    have HWW := Lib.hid hWW
    have HRD := Lib.hid hrd
    have HL := Lib.hid hlst
    have HB1 := Lib.hid hb1
    clear hok hWW hrd hlst hb1
    go_wp2_with fail
    refine (setted_any nw A m c S w1 wn (H.out.below HB1.out) HMM.out (fun i _ => HS.out i)).mono ?_
    rintro e w2 ⟨⟨v, rfl, hv⟩, hb2⟩
    obtain rfl : v = true := hv.2 HOK.out
    have hs2 := hb2.size
    have hrd2 := HRD.out.below hb2
    have hbw2 := HB1.out.trans (hb2.mono hs1)
    have HRD2 := Lib.hid hrd2
    have HB2 := Lib.hid hbw2
    clear hv hb2 hrd2 hbw2
    have hcn0 : ((cn : Int) == 0) = false := by simp; omega
    go_wp2_with fail
    go_loopw [56] (fun s56 wr => ∃ t : Nat, t ≤ cn ∧ s56 = .int .i64 (t : Nat) ∧ w2 = wr) (fun s56 _ => cn - (intOf s56).toNat)
    case atStart => exact ⟨0, by omega, rfl, rfl⟩
    case round =>
      obtain ⟨t, ht, rfl, rfl⟩ := hrel
      by_cases hlt : t < cn
      · obtain ⟨b, off, rfl, hbb, hc⟩ := HRD2.out.at_ hlt
        obtain ⟨i, hi, hg, hu⟩ := HL.out.of t hlt
        have hgw := wf_u32 (HS.out i)
        rw [← hg] at hgw hu
        obtain ⟨X, hX⟩ : ∃ X : Nat, G t = (X : Int) := ⟨(G t).toNat, by omega⟩
        have hu' : swt (G t) W nw = B := by rw [hg]; exact (by simpa using (show (fun i => swt (S i) W nw) i = B from by first | exact hu | (rw [hg] at hu; exact hu)))
        rw [hX] at hc hgw hu'
        have HU := Lib.hid hu'
        clear hu hu' hg hX
        go_wp2_with fail
        refine (weigh_any X WA nw cw W _ (by omega) (HW.out.below HB2.out) (by omega) HWW.out).mono ?_
        rintro e w' ⟨rfl, rfl⟩
        rw [HU.out]
        go_wp2_with fail
        go_roundw
        case rel => exact ⟨t + 1, by omega, by go_num, by first | rfl | trivial⟩
        case measure => simp [intOf]; omega
      · obtain rfl : cn = t := by omega
        have hE := Own.empty w2 w2.heap.size 3 1 (fun _ => .int .i64 0) (Nat.le_refl _)
        have hWA := (HW.out.below HB2.out).alloc (.cells #[] 3)
        have HE := Lib.hid hE
        have HWA := Lib.hid hWA
        clear hE hWA
        obtain ⟨j, hj⟩ : ∃ j : Nat, I % (nw : Int) = (j : Int) := ⟨(I % nw).toNat, by have := Int.emod_nonneg I (show (nw : Int) ≠ 0 by omega); omega⟩
        have hjn : j < nw := by have := Int.emod_lt_of_pos I (show (0 : Int) < nw by omega); omega
        have hwj := HWW.out j hjn
        go_wp2_with (at_builtin; refine wpList_app _ rfl (.tmp 66) (.tmp 67) 31 rfl EIl rfl HE.out rfl (l := nw) (by omega) HWA.out (fun _ _ => rfl) (by unfold maxLen; omega) (by omega) (by simp) nw nw (by omega) (by omega) ?_; intro A3 c3 w3 hown3 hg3 hat3 hbl3; obtain ⟨g, F, rfl, hgb, hrow, hc3, hF⟩ := hown3.row (by omega); have hFj := hF j hjn; rw [cat_ge (Nat.zero_le _), Nat.sub_zero] at hFj; have hcj := hrow.cell (i := j) (by omega); rw [hFj] at hcj; have hfz := hrow.frozen j)
        have hb3 : Below w2.heap.size w2 (w3.setCell ⟨g, j, none⟩ (.int .i64 (W j + 1))) := (((Below.refl w2.heap.size w2).alloc (Nat.le_refl _) _).trans hbl3).setCell (p := ⟨g, j, none⟩) hgb _
        have hrd3 : Rd (w3.setCell ⟨g, j, none⟩ (.int .i64 (W j + 1))) (some ⟨g, 0, none⟩) nw (fun i => .int .i64 (moreW W j i)) := (Rd.of_row (hrow.set j (.int .i64 (W j + 1))) hc3).congr (fun i hi => by
          show (if i = j then _ else F i) = Value.int IntKind.i64 (if i = j then W i + 1 else W i)
          by_cases e : i = j
          · subst e; rw [if_pos rfl, if_pos rfl]
          · rw [if_neg e, if_neg e, hF i hi, cat_ge (Nat.zero_le _), Nat.sub_zero])
        have hgl : g < (w3.setCell ⟨g, j, none⟩ (.int .i64 (W j + 1))).heap.size := by have := hrow.lt; simpa using this
        obtain ⟨w4, hw4⟩ : ∃ w4, w4 = w3.setCell ⟨g, j, none⟩ (.int .i64 (W j + 1)) := ⟨_, rfl⟩
        rw [← hw4] at hb3 hrd3 hgl ⊢
        simp only [hj]
        have hB4 := HB2.out.trans (hb3.mono HB2.out.size)
        have HB4 := Lib.hid hB4
        have HR3 := Lib.hid hrd3
        have HB3 := Lib.hid hb3
        clear hw4 hown3 hg3 hat3 hbl3 hrow hF hFj hcj hfz hB4 hrd3 hb3 HE HWA
        go_wp2_with fail
        refine (leastL_any nw A (some ⟨g, 0, none⟩) m c nw c3 S (moreW W j) w4 wn (H.out.below HB4.out) HMM.out (fun i _ => HS.out i) HR3.out HNN.out).mono ?_
        rintro e w5 ⟨B', L', cn', cc', G', x', rfl, hb5, hcase⟩
        have hB5 := HB4.out.trans (hb5.mono HB4.out.size)
        have HB5 := Lib.hid hB5
        have hr5 := HR3.out.below hb5
        have hrd5 := (HRD2.out.below HB3.out).below hb5
        obtain ⟨gb, go, hge, hgbl, hgc⟩ := hr5 (by omega)
        injection hge with hge
        injection hge with hge1 hge2
        subst hge1; subst hge2
        have hgj := hgc j hjn
        have hme : moreW W j j = W j + 1 := by unfold moreW; rw [if_pos rfl]
        have hgj' : w5.cell? ⟨g, j, none⟩ = some (.int .i64 (W j + 1)) := by rw [← hme, ← hgj, Nat.zero_add]
        clear hme
        have HRD5 := Lib.hid hrd5
        clear hgc hr5 hrd5 hb5 hB5 hgj
        have hLI : W j + 1 ≤ 1000 → LIn nw m nw S (moreW W j) := fun hle => ⟨HOK.out, rfl, fun t ht => by
          have := HWW.out t ht
          unfold moreW; split
          · rename_i e; subst e; omega
          · exact this⟩
        rcases hcase with ⟨rfl, hin, hrd', hc1', hc2', hB0', hB1', hlst'⟩ | ⟨hx0', rfl, rfl, rfl, rfl, hno'⟩
        · have hle : W j + 1 ≤ 1000 := by have := (hin.2.2 j hjn).2; unfold moreW at this; rw [if_pos rfl] at this; exact this
          have hlaw := light_law hjn (fun i _ => (wf_u32 (HS.out i)).1) HL.out hlst' hc1 hc1'
          have HLAW := Lib.hid hlaw
          have hcn0' : ((cn' : Int) == 0) = false := by simp; omega
          clear hin hrd' hlst' hlaw hLI
          go_wp2_with fail
          go_loopw [19, 105] (fun s19 s105 wr => ∃ t : Nat, t ≤ cn ∧ s105 = .int .i64 (t : Nat) ∧ s19 = .bool (freeL G j t) ∧ w5 = wr) (fun _ s105 _ => cn - (intOf s105).toNat)
          case atStart => exact ⟨0, by omega, rfl, rfl, rfl⟩
          case round =>
            obtain ⟨t, ht, rfl, rfl, rfl⟩ := hrel
            by_cases hlt : t < cn
            · obtain ⟨b, off, rfl, hbb, hc⟩ := HRD5.out.at_ hlt
              obtain ⟨i, hi, hg, hu⟩ := HL.out.of t hlt
              have hgw := wf_u32 (HS.out i)
              rw [← hg] at hgw
              obtain ⟨X, hX⟩ : ∃ X : Nat, G t = (X : Int) := ⟨(G t).toNat, by omega⟩
              have hnx : freeL G j (t + 1) = (freeL G j t || !bitB X j) := by show (_ || !bitB (G t).toNat j) = _; rw [hX, Int.toNat_natCast]
              rw [hX] at hc hgw
              have HNX := Lib.hid hnx
              obtain ⟨fb, hfb⟩ : ∃ fb, fb = freeL G j t := ⟨_, rfl⟩
              rw [← hfb] at HNX ⊢
              clear hu hg hX hnx hfb
              cases fb
              · obtain ⟨bb, hbbv⟩ : ∃ bb, bb = bitB X j := ⟨_, rfl⟩
                have HBV := Lib.hid hbbv
                clear hbbv
                cases bb
                · go_wp2_with (go_at_call 12; refine (bit_any X j _ (by omega) (by omega)).mono ?_; rintro e w' ⟨rfl, rfl⟩; rw [← HBV.out])
                  go_roundw
                  case rel => exact ⟨t + 1, by omega, by go_num, by rw [HNX.out, ← HBV.out]; rfl, by first | rfl | trivial⟩
                  case measure => simp [intOf]; omega
                · go_wp2_with (go_at_call 12; refine (bit_any X j _ (by omega) (by omega)).mono ?_; rintro e w' ⟨rfl, rfl⟩; rw [← HBV.out])
                  go_roundw
                  case rel => exact ⟨t + 1, by omega, by go_num, by rw [HNX.out, ← HBV.out]; rfl, by first | rfl | trivial⟩
                  case measure => simp [intOf]; omega
              · go_wp2_with fail
                go_roundw
                case rel => exact ⟨t + 1, by omega, by go_num, by rw [HNX.out]; first | rfl | simp, by first | rfl | trivial⟩
                case measure => simp [intOf]; omega
            · obtain rfl : cn = t := by omega
              cases hf : freeL G j cn
              · obtain rfl := HLAW.out.2 hf
                go_wp2_with fail
                go_ret
                exact ⟨rfl, HB5.out⟩
              · obtain rfl := HLAW.out.1 hf
                go_wp2_with fail
                go_ret
                exact ⟨rfl, HB5.out⟩
        · have hbig : 1000 < W j + 1 := by
            apply Classical.byContradiction
            intro hnb
            exact hno' (hLI (by omega))
          have hne : (x' != 0) = true := by simp [hx0']
          clear hno' hLI hx0'
          go_wp2_with fail
          go_ret
          exact ⟨rfl, HB5.out⟩
  · have hne : (x != 0) = true := by simp [hx0]
    go_wp2_with fail
    go_ret
    exact ⟨rfl, hb1⟩
end Go.Proofs.Ytmnleblbandghaa.loneLight
