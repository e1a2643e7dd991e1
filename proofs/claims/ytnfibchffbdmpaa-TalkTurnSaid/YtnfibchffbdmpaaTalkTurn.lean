/- TalkTurn: turned round, and with all changed, as much must be said; the rects of yes are those of no; the rank stays. No condition. -/
import Derived.Test.YtnfibchffbdmpaaTurnLaw
import Derived.Test.YtnfibchffbdmpaaTalkChk
import Derived.Test.YtnfibchffbdmpaaMatB
namespace Go.Proofs.Ytnfibchffbdmpaa.talkTurn
open Go.ChangeShapes Go.WideShapes Go.ChangeAt Go.RowKit
set_option linter.unusedVariables false
set_option linter.unusedSimpArgs false
/-- what the calls tell of a good table -/
theorem least_ok {A : Option Addr} {n c m : Nat} {T : Nat → SB} {w : World} (h : GrT w A n T) (hn : 1 ≤ n ∧ n ≤ 4) (hm : 1 ≤ m ∧ m ≤ 4) (hl : ∀ i, i < n → (T i).n = m) :
    Calls Try.prog 6 #[.slice A n c] w fun e w' => e = .returned (.tuple #[.int .i64 (LeT n m T : Nat), .int .i64 0]) ∧ Below w.heap.size w w' := by
  have h0 := tkE_ok hn hm hl
  have := leastT_any A n c T w h (by unfold maxLen; omega)
  rw [if_pos h0, h0, hl 0 (by omega)] at this
  exact this
theorem rank_ok {A : Option Addr} {n c m : Nat} {T : Nat → SB} {w : World} (h : GrT w A n T) (hn : 1 ≤ n ∧ n ≤ 4) (hm : 1 ≤ m ∧ m ≤ 4) (hl : ∀ i, i < n → (T i).n = m) {q : Nat} (hq : IsRank (tbI T) n m q) :
    Calls Try.prog 7 #[.slice A n c] w fun e w' => e = .returned (.tuple #[.int .i64 (q : Nat), .int .i64 0]) ∧ Below w.heap.size w w' := by
  have h0 := tkE_ok hn hm hl
  refine (rank_any A n c m T w h (by unfold maxLen; omega) fun _ => ⟨hn, hm, hl⟩).mono ?_
  rintro e w' ⟨⟨k, _⟩ | ⟨_, p, hp, _, rfl⟩, hb⟩
  · exact absurd h0 k
  · obtain rfl := hq.one hp
    exact ⟨rfl, hb⟩
theorem rects_ok {A : Option Addr} {n c m : Nat} {T : Nat → SB} {w : World} (v : Bool) (h : GrT w A n T) (hn : 1 ≤ n ∧ n ≤ 4) (hm : 1 ≤ m ∧ m ≤ 4) (hl : ∀ i, i < n → (T i).n = m) :
    Calls Try.prog 8 #[.slice A n c, .bool v] w fun e w' => e = .returned (.tuple #[.int .i64 (reQ (plQ (tbB T) v m n) m n : Nat), .int .i64 0]) ∧ Below w.heap.size w w' := by
  have h0 := tkE_ok hn hm hl
  have := rects_any A n c T v w h (by unfold maxLen; omega)
  rw [if_pos h0, h0, hl 0 (by omega)] at this
  exact this
set_option maxRecDepth 100000 in
set_option maxHeartbeats 8000000 in
theorem walk (w : World) (A : Option Addr) (n c : Nat) (R : Nat → SB) (h : Rd w A n (fun i => (R i).val)) (hg : ∀ i, (R i).good w) (hl : n ≤ c) (hm : c ≤ maxLen) (z : c * 24 ≤ 140737488351232) :
    Calls Try.prog 3 #[.slice A n c] w fun e w' => e = .returned (.bool true) ∧ Below w.heap.size w w' := by
  have H : Hid (GrT w A n R) := Lib.hid ⟨h, fun i _ => hg i⟩
  have HNM : Hid (n ≤ maxLen) := Lib.hid (by omega)
  have hnx : n ≤ 9223372036854775807 := by unfold maxLen at hm; omega
  obtain ⟨v, hv⟩ : ∃ v, v = tkE n R := ⟨_, rfl⟩
  have hcl : ∀ X, Below w.heap.size w X → GrT X A n R := fun X hX => H.out.below hX
  have HCL := Lib.hid hcl
  clear h hg hl hm z hcl
  by_cases hv0 : v = 0
  · have hz0 : tkE n R = 0 := by rw [← hv]; exact hv0
    obtain ⟨hn4, hm4, hlen⟩ := tkE_zero hz0
    obtain ⟨m, hmm⟩ : ∃ m, m = (R 0).n := ⟨_, rfl⟩
    rw [← hmm] at hm4 hlen
    have HLEN := Lib.hid hlen
    have C1 := Lib.hid (least_ok (c := c) H.out hn4 hm4 hlen)
    have C3 := Lib.hid fun X hX => rects_ok (c := c) true (HCL.out X hX) hn4 hm4 hlen
    have C4 := Lib.hid fun X hX => talked_any A n c R X (HCL.out X hX) HNM.out
    rw [hz0] at C4
    have C2 := Lib.hid fun X hX => rank_any A n c m R X (HCL.out X hX) HNM.out fun _ => ⟨hn4, hm4, hlen⟩
    rw [hz0] at C2
    obtain ⟨k, hk⟩ : ∃ k : Nat, k = LeT n m R := ⟨_, rfl⟩
    obtain ⟨a, ha⟩ : ∃ a : Nat, a = reQ (plQ (tbB R) true m n) m n := ⟨_, rfl⟩
    rw [← hk] at C1
    rw [← ha] at C3
    have HK := Lib.hid hk
    have HA := Lib.hid ha
    obtain ⟨n1, n4⟩ := hn4
    obtain ⟨m1, m4⟩ := hm4
    have HM0 : Hid ((R 0).n = m) := Lib.hid hmm.symm
    clear hk ha hlen hmm hz0 hv0 hv
    go_enter Try.func3, Try.ntmps3
    go_wp2_with fail
    refine C1.out.mono ?_
    rintro e w1 ⟨rfl, b1⟩
    go_wp2_with fail
    refine (C2.out w1 b1).mono ?_
    rintro e w2 ⟨⟨k0, _⟩ | ⟨_, q, hq, _, rfl⟩, b2⟩
    · exact absurd rfl k0
    have HQ := Lib.hid hq
    have b2' := b1.trans (b2.mono b1.size)
    clear hq b2 b1
    go_wp2_with fail
    refine (C3.out w2 b2').mono ?_
    rintro e w3 ⟨rfl, b3⟩
    have b3' := b2'.trans (b3.mono b2'.size)
    clear b2' b3
    go_wp2_with fail
    refine (C4.out w3 b3').mono ?_
    rintro e w4 ⟨rfl, rfl⟩
    have HB := Lib.hid b3'
    obtain ⟨rB, rO, rfl, hAlt, hc0⟩ := (HCL.out w3 b3').1.at_ (show 0 < n by omega)
    have hz : zeroT 0 = true := rfl
    clear b3' C1 C2 C3 C4 hc0
    go_wp2_with fail
    go_loopw [9, 10] (fun s9 s10 wr => ∃ (j : Nat) (S : Option Addr) (sc : Nat) (r rc : Nat → Nat) (F : Nat → Nat → Bool), j ≤ m ∧ s9 = .slice S j sc ∧ s10 = .int .i64 (j : Nat) ∧ Hid (MtB wr w3.heap.size S j sc n r rc F) ∧ Hid (Below w3.heap.size w3 wr) ∧ Hid (∀ q, q < j → ∀ t, t < n → F q t = (R t).f q)) (fun _ s10 _ => m - (intOf s10).toNat)
    case atStart => exact ⟨0, none, 0, fun _ => 0, fun _ => 0, fun _ _ => false, Nat.zero_le _, rfl, rfl, Lib.hid (MtB.nil _ _ _ _ _ _), Lib.hid (Below.refl _ _), Lib.hid fun q hq => absurd hq (Nat.not_lt_zero _)⟩
    case round =>
      obtain ⟨wo, rfl⟩ : ∃ wo : World, wo = wr := ⟨_, rfl⟩
      obtain ⟨j, S, sc, r, rc, F, hj, rfl, rfl, HT, HBO, HF⟩ := hrel
      have hcell : ∀ X : World, Below w3.heap.size w3 X → ∀ i, i < n → X.cell? ⟨rB, rO + i, none⟩ = some (.slice (R i).A m (R i).c) := fun X hX i hi => by
        have hG := HCL.out X (HB.out.trans (hX.mono HB.out.size))
        obtain ⟨b', o', e, _, hc⟩ := hG.1.at_ hi
        cases e
        rw [hc]
        show some (Value.slice (R i).A (R i).n (R i).c) = _
        rw [HLEN.out i hi]
      have HCELL := Lib.hid hcell
      have hc0 : wo.cell? ⟨rB, rO, none⟩ = some (.slice (R 0).A m (R 0).c) := hcell wo HBO.out 0 (by omega)
      clear hcell
      by_cases hjm : j < m
      · go_wp2_with fail
        clear hc0
        go_loopw [11, 12] (fun s11 s12 wr => ∃ (t : Nat) (P : Option Addr) (pc : Nat), t ≤ n ∧ s11 = .slice P t pc ∧ s12 = .int .i64 (t : Nat) ∧ Hid (Own wr wo.heap.size 4 1 P t pc t (fun t => .bool ((R t).f j))) ∧ Hid (Below wo.heap.size wo wr)) (fun _ s12 _ => n - (intOf s12).toNat)
        case atStart => exact ⟨0, none, 0, Nat.zero_le _, rfl, rfl, Lib.hid (Own.nil _ _ _ _ _), Lib.hid (Below.refl _ _)⟩
        case round =>
          obtain ⟨wi, rfl⟩ : ∃ wi : World, wi = wr := ⟨_, rfl⟩
          obtain ⟨t, P, pc, ht, rfl, rfl, HO, HBI⟩ := hrel
          have hws := HBO.out.size
          have hws2 := HBI.out.size
          by_cases htn : t < n
          · have hbw := HBO.out.trans (HBI.out.mono hws)
            have hAc := HCELL.out wi hbw t htn
            obtain ⟨yb, yo, hyA, _, hc2⟩ := ((HCL.out wi (HB.out.trans (hbw.mono HB.out.size))).2 t htn).1.at_ (show j < (R t).n by rw [HLEN.out t htn]; exact hjm)
            rw [hyA] at hAc
            obtain ⟨x, hx⟩ : ∃ x, x = (R t).f j := ⟨_, rfl⟩
            rw [← hx] at hc2
            have hc3 : wi.cell? ⟨yb, yo + j, none⟩ = some (.bool x) := hc2
            have HX := Lib.hid hx
            clear hyA hc2 hx hbw
            go_wp2_with (at_builtin; refine wpList_app _ rfl (.tmp 69) (.tmp 77) 28 rfl ENb rfl (HO.out.alloc _) rfl (l := 1) (by omega) (Rd.one _ (.bool x) _) (fun _ _ => rfl) (by unfold maxLen; omega) (by omega) (by simp; omega) (t + 1) (t + 1) rfl rfl ?_; intro A2 ac2 w6 hown2 hg2 hat2 hbl2; have HOW := Lib.hid hown2; have HBL := Lib.hid ((HBI.out.alloc (by omega) _).trans hbl2); clear hown2 hg2 hat2 hbl2)
            go_roundw
            case rel => exact ⟨t + 1, A2, ac2, by omega, rfl, by go_num, Lib.hid (bool_app HOW.out (fun q hq => rfl) (by rw [HX.out])), HBL⟩
            case measure => simp [intOf]; omega
          · obtain rfl : t = n := by omega
            obtain ⟨g, _, rfl, _⟩ := HO.out.row (show 0 < t by omega)
            have hMt2 := HT.out.below HBI.out
            go_wp2_with (at_builtin; refine wpList_app _ rfl (.tmp 79) (.tmp 81) 22 rfl EMb rfl (hMt2.own.alloc _) rfl (l := 1) rfl (Rd.one _ _ _) (fun _ _ => rfl) (by unfold maxLen; omega) (by omega) (by simp; omega) (j + 1) (j + 1) rfl rfl ?_; intro A3 c3 w6 hown3 hg3 hat3 hbl3)
            have hT3 := HT.out.more hws (HBI.out.alloc hws2 _) (HO.out.alloc _) hown3 hg3
            go_roundw
            case rel => exact ⟨j + 1, A3, c3, _, _, _, by omega, rfl, by go_num, Lib.hid hT3, Lib.hid (((HBO.out.trans (HBI.out.mono hws)).alloc (by omega) _).trans hbl3), Lib.hid fun q hq t ht => by
              by_cases e : q = j
              · rw [if_pos e, e]
              · rw [if_neg e]; exact HF.out q (by omega) t ht⟩
            case measure => simp [intOf]; omega
      · obtain rfl : j = m := by omega
        obtain ⟨T1, hT1⟩ : ∃ T : Nat → SB, T = rwB r rc n F := ⟨_, rfl⟩
        have hT1f : ∀ i, i < n → ∀ t, t < j → (T1 t).f i = (R i).f t := fun i hi t ht => by rw [hT1]; exact HF.out t ht i hi
        have hT1n : ∀ t, t < j → (T1 t).n = n := fun t ht => by rw [hT1]; rfl
        have hG1 : ∀ X, Below wo.heap.size wo X → GrT X S j T1 := fun X hX => by rw [hT1]; exact (HT.out.below hX).grt
        have HT1F := Lib.hid hT1f
        have HT1N := Lib.hid hT1n
        have HG1 := Lib.hid hG1
        have hws0 := HBO.out.size
        clear hT1f hT1n hG1 hT1 HT HF
        go_wp2_with fail
        clear hc0
        go_loopw [13, 85] (fun s13 s85 wr => ∃ (i : Nat) (S2 : Option Addr) (sc2 : Nat) (r2 rc2 : Nat → Nat) (F2 : Nat → Nat → Bool), i ≤ n ∧ s13 = .slice S2 i sc2 ∧ s85 = .int .i64 (i : Nat) ∧ Hid (MtB wr wo.heap.size S2 i sc2 j r2 rc2 F2) ∧ Hid (Below wo.heap.size wo wr) ∧ Hid (∀ q, q < i → ∀ t, t < j → F2 q t = !(R q).f t)) (fun _ s85 _ => n - (intOf s85).toNat)
        case atStart => exact ⟨0, none, 0, fun _ => 0, fun _ => 0, fun _ _ => false, Nat.zero_le _, rfl, rfl, Lib.hid (MtB.nil _ _ _ _ _ _), Lib.hid (Below.refl _ _), Lib.hid fun q hq => absurd hq (Nat.not_lt_zero _)⟩
        case round =>
          obtain ⟨wp, rfl⟩ : ∃ wp : World, wp = wr := ⟨_, rfl⟩
          obtain ⟨i, S2, sc2, r2, rc2, F2, hi, rfl, rfl, HT2, HBP, HF2⟩ := hrel
          by_cases hin : i < n
          · have hAc := HCELL.out wp (HBO.out.trans (HBP.out.mono hws0)) i hin
            obtain ⟨yA, hyA⟩ : ∃ y, y = (R i).A := ⟨_, rfl⟩
            obtain ⟨yc, hyc⟩ : ∃ y, y = (R i).c := ⟨_, rfl⟩
            rw [← hyA, ← hyc] at hAc
            have HYA := Lib.hid hyA
            clear hyA hyc
            go_wp2_with fail
            clear hAc
            go_loopw [16, 91] (fun s16 s91 wr => ∃ (t : Nat) (P : Option Addr) (pc : Nat), t ≤ j ∧ s16 = .slice P t pc ∧ s91 = .int .i64 (t : Nat) ∧ Hid (Own wr wp.heap.size 4 1 P t pc t (fun t => .bool (!(R i).f t))) ∧ Hid (Below wp.heap.size wp wr)) (fun _ s91 _ => j - (intOf s91).toNat)
            case atStart => exact ⟨0, none, 0, Nat.zero_le _, rfl, rfl, Lib.hid (Own.nil _ _ _ _ _), Lib.hid (Below.refl _ _)⟩
            case round =>
              obtain ⟨wi, rfl⟩ : ∃ wi : World, wi = wr := ⟨_, rfl⟩
              obtain ⟨t, P, pc, ht, rfl, rfl, HO, HBI⟩ := hrel
              have hws := HBP.out.size
              have hws2 := HBI.out.size
              by_cases htn : t < j
              · have hbw := HBO.out.trans ((HBP.out.trans (HBI.out.mono hws)).mono hws0)
                obtain ⟨yb, yo, hyA, _, hc2⟩ := ((HCL.out wi (HB.out.trans (hbw.mono HB.out.size))).2 i hin).1.at_ (show t < (R i).n by rw [HLEN.out i hin]; exact htn)
                rw [← HYA.out] at hyA
                have hyA' : yA = some ⟨yb, yo, none⟩ := hyA
                subst hyA'
                obtain ⟨x, hx⟩ : ∃ x, x = (R i).f t := ⟨_, rfl⟩
                rw [← hx] at hc2
                have hc3 : wi.cell? ⟨yb, yo + t, none⟩ = some (.bool x) := hc2
                have HX := Lib.hid hx
                clear hyA hc2 hx hbw
                go_wp2_with (at_builtin; refine wpList_app _ rfl (.tmp 95) (.tmp 98) 28 rfl ENb rfl (HO.out.alloc _) rfl (l := 1) (by omega) (Rd.one _ (.bool (!x)) _) (fun _ _ => rfl) (by unfold maxLen; omega) (by omega) (by simp; omega) (t + 1) (t + 1) rfl rfl ?_; intro A2 ac2 w6 hown2 hg2 hat2 hbl2; have HOW := Lib.hid hown2; have HBL := Lib.hid ((HBI.out.alloc (by omega) _).trans hbl2); clear hown2 hg2 hat2 hbl2)
                go_roundw
                case rel => exact ⟨t + 1, A2, ac2, by omega, rfl, by go_num, Lib.hid (bool_app HOW.out (fun q hq => rfl) (by rw [HX.out])), HBL⟩
                case measure => simp [intOf]; omega
              · obtain rfl : t = j := by omega
                obtain ⟨g, _, rfl, _⟩ := HO.out.row (show 0 < t by omega)
                have hMt2 := HT2.out.below HBI.out
                go_wp2_with (at_builtin; refine wpList_app _ rfl (.tmp 101) (.tmp 103) 22 rfl EMb rfl (hMt2.own.alloc _) rfl (l := 1) rfl (Rd.one _ _ _) (fun _ _ => rfl) (by unfold maxLen; omega) (by omega) (by simp; omega) (i + 1) (i + 1) rfl rfl ?_; intro A3 c3 w6 hown3 hg3 hat3 hbl3)
                have hT3 := HT2.out.more hws (HBI.out.alloc hws2 _) (HO.out.alloc _) hown3 hg3
                go_roundw
                case rel => exact ⟨i + 1, A3, c3, _, _, _, by omega, rfl, by go_num, Lib.hid hT3, Lib.hid (((HBP.out.trans (HBI.out.mono hws)).alloc (by omega) _).trans hbl3), Lib.hid fun q hq t ht => by
                  by_cases e : q = i
                  · rw [if_pos e, e]
                  · rw [if_neg e]; exact HF2.out q (by omega) t ht⟩
                case measure => simp [intOf]; omega
          · obtain rfl : i = n := by omega
            have hG2 : ∀ X, Below wp.heap.size wp X → GrT X S2 i (rwB r2 rc2 j F2) := fun X hX => (HT2.out.below hX).grt
            obtain ⟨T2, hT2⟩ : ∃ T : Nat → SB, T = rwB r2 rc2 j F2 := ⟨_, rfl⟩
            have hT2f : ∀ q, q < i → ∀ t, t < j → (T2 q).f t = !(R q).f t := fun q hq t ht => by rw [hT2]; exact HF2.out q hq t ht
            have hT2n : ∀ q, q < i → (T2 q).n = j := fun q hq => by rw [hT2]; rfl
            rw [← hT2] at hG2
            have hws := HBP.out.size
            have hb0 := HBP.out
            have D1 := Lib.hid fun X (hX : Below wp.heap.size wp X) => least_ok (c := sc) (HG1.out X (hb0.trans (hX.mono hws))) ⟨m1, m4⟩ ⟨n1, n4⟩ HT1N.out
            rw [le_turn HT1F.out, ← HK.out] at D1
            have hrk : IsRank (tbI T1) j i q := by
              refine ⟨HQ.out.turn.1.congr fun t ht s hs => ?_, fun s hs => HQ.out.turn.2 s (hs.congr fun t ht s hs => ?_)⟩
              · unfold tbI; rw [HT1F.out s hs t ht]
              · unfold tbI; rw [HT1F.out s hs t ht]
            have D2 := Lib.hid fun X (hX : Below wp.heap.size wp X) => rank_ok (c := sc) (HG1.out X (hb0.trans (hX.mono hws))) ⟨m1, m4⟩ ⟨n1, n4⟩ HT1N.out hrk
            have D3 := Lib.hid fun X (hX : Below wp.heap.size wp X) => least_ok (c := sc2) (hG2 X hX) ⟨n1, n4⟩ ⟨m1, m4⟩ hT2n
            rw [le_not hT2f, ← HK.out] at D3
            have D4 := Lib.hid fun X (hX : Below wp.heap.size wp X) => rects_ok (c := sc2) false (hG2 X hX) ⟨n1, n4⟩ ⟨m1, m4⟩ hT2n
            rw [re_not hT2f, ← HA.out] at D4
            have HBW := Lib.hid (HB.out.trans ((HBO.out.trans (HBP.out.mono hws0)).mono HB.out.size))
            clear hrk hG2 hT2f hT2n hT2 hb0 HT2 HF2
            go_wp2_with fail
            refine (D1.out wp (Below.refl _ _)).mono ?_
            rintro e w8 ⟨rfl, b8⟩
            go_wp2_with fail
            refine (D2.out w8 b8).mono ?_
            rintro e w9 ⟨rfl, b9⟩
            have b9' := b8.trans (b9.mono b8.size)
            go_wp2_with fail
            refine (D3.out w9 b9').mono ?_
            rintro e w10 ⟨rfl, b10⟩
            have b10' := b9'.trans (b10.mono b9'.size)
            go_wp2_with fail
            refine (D4.out w10 b10').mono ?_
            rintro e w11 ⟨rfl, b11⟩
            have HBE := Lib.hid (HBW.out.trans ((b10'.trans (b11.mono b10'.size)).mono HBW.out.size))
            clear b8 b9 b9' b10 b10' b11 D1 D2 D3 D4
            go_wp2_with fail
            go_ret
            exact ⟨rfl, HBE.out⟩
  · have C1 := Lib.hid (leastT_any A n c R w H.out HNM.out)
    have C2 := Lib.hid fun X hX => rank_any A n c (R 0).n R X (HCL.out X hX) HNM.out fun h0 => tkE_zero h0
    have C3 := Lib.hid fun X hX => rects_any A n c R true X (HCL.out X hX) HNM.out
    have C4 := Lib.hid fun X hX => talked_any A n c R X (HCL.out X hX) HNM.out
    rw [← hv, if_neg hv0] at C1 C3
    rw [← hv] at C2 C4
    have hzt : zeroT v = false := beq_eq_false_iff_ne.2 hv0
    rw [hzt] at C4
    have q1 : (v != 0) = true := by rw [bne_iff_ne]; exact hv0
    have HV0 := Lib.hid hv0
    clear hv hv0 hzt
    go_enter Try.func3, Try.ntmps3
    go_wp2_with fail
    refine C1.out.mono ?_
    rintro e w1 ⟨rfl, b1⟩
    go_wp2_with fail
    refine (C2.out w1 b1).mono ?_
    rintro e w2 ⟨⟨_, rfl⟩ | ⟨k0, _⟩, b2⟩
    · have b2' := b1.trans (b2.mono b1.size)
      clear b2 b1
      go_wp2_with fail
      refine (C3.out w2 b2').mono ?_
      rintro e w3 ⟨rfl, b3⟩
      have b3' := b2'.trans (b3.mono b2'.size)
      clear b2' b3
      go_wp2_with fail
      refine (C4.out w3 b3').mono ?_
      rintro e w4 ⟨rfl, rfl⟩
      go_wp2_with fail
      go_ret
      exact ⟨rfl, b3'⟩
    · exact absurd k0 HV0.out
end Go.Proofs.Ytnfibchffbdmpaa.talkTurn
