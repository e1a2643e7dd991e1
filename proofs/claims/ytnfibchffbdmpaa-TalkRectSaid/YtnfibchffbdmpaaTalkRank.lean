/- talk.Rank tells the rank. Condition: the rows read as told. -/
import Derived.Test.YtnfibchffbdmpaaTalkFns
import Derived.Test.YtnfibchffbdmpaaRankLaw
import Derived.Test.YtnfibchffbdmpaaDetLaw
import Derived.Test.YtnfibchffbdmpaaMat
import Derived.Test.YtnfibchffbdmpaaIdxW
import Derived.Test.YtnfibchffbdmpaaStillT
import Derived.BigRegion
import Derived.BigQuiet
import Derived.IntWalk
import Derived.Deep.DeepCutAuto
namespace Go.Proofs.Ytnfibchffbdmpaa
open Go.ChangeShapes Go.WideShapes Go.ChangeAt Go.RowKit
set_option linter.unusedVariables false
set_option linter.unusedSimpArgs false
theorem ENt : Elem Try.prog 46 3 1 8 := Elem.of Try.underlying46 (by kernel_rfl : (Try.prog.info? 3).map (fun i => (i.zero, i.size, i.bytes)) = some (some (.int .i64 0), 1, 8)) rfl (by omega)
theorem sum_app {W : World} {B j sc : Nat} {S : Option Addr} {C D : Nat → Value} {f : Nat → Int} (h : Own W B 3 1 S (j + 1) sc (j + 1) (cat j C D)) (hC : ∀ q, q < j → C q = .int .i64 (f q)) (hD : D 0 = .int .i64 (f j)) : Own W B 3 1 S (j + 1) sc (j + 1) (fun q => .int .i64 (f q)) :=
  h.congr fun q hq => by
    by_cases e : q < j
    · rw [cat_lt e, hC q e]
    · obtain rfl : q = j := by omega
      rw [cat_ge (Nat.le_refl _), Nat.sub_self, hD]
/-- the table's numbers -/
def tbI (R : Nat → SB) (i j : Nat) : Int := if (R i).f j = true then 1 else 0
set_option maxRecDepth 100000 in
theorem nzR_any (b o m c g : Nat) (k : Nat) (x : Int) (w : World) (hg : w.cell? ⟨g, 0, none⟩ = some (.int .i64 (k : Nat))) (hk : k < m) (hm : m ≤ 6) (hx : w.cell? ⟨b, o + k, none⟩ = some (.int .i64 x)) :
    Calls Try.prog 18 #[.slice (some ⟨b, o, none⟩) m c, .pointer (some ⟨g, 0, none⟩)] w fun e w' => e = .returned (.bool (x != 0)) ∧ w = w' := by
  go_enter Try.func18, Try.ntmps18
  go_wp2_with fail
  go_ret
  exact ⟨rfl, rfl⟩
/-- rows till i (and in it columns till j) are new -/
def mixR (F E : Nat → Nat → Int) (k i j : Nat) : Nat → Nat → Int := fun x y => if k < x ∧ (x < i ∨ (x = i ∧ y < j)) then E x y else F x y
theorem mixR_start (F E : Nat → Nat → Int) (k x y : Nat) : F x y = mixR F E k (k + 1) 0 x y := by unfold mixR; rw [if_neg (by omega)]
theorem mixR_step {F E : Nat → Nat → Int} {k i j : Nat} (hi : k < i) (v : Int) (hv : v = E i j) (x y : Nat) : (if x = i ∧ y = j then v else mixR F E k i j x y) = mixR F E k i (j + 1) x y := by
  unfold mixR
  by_cases e : x = i ∧ y = j
  · rw [if_pos e, if_pos (by omega), hv, e.1, e.2]
  · rw [if_neg e]
    by_cases q : k < x ∧ (x < i ∨ (x = i ∧ y < j))
    · rw [if_pos q, if_pos (by omega)]
    · rw [if_neg q, if_neg (by omega)]
theorem mixR_row {F E : Nat → Nat → Int} {k i m x y : Nat} (hy : y < m) (hi : k < i) : mixR F E k i m x y = mixR F E k (i + 1) 0 x y := by
  unfold mixR
  by_cases q : k < x ∧ (x < i ∨ (x = i ∧ y < m))
  · rw [if_pos q, if_pos (by omega)]
  · rw [if_neg q, if_neg (by omega)]
theorem mixR_old {F E : Nat → Nat → Int} {k i j x y : Nat} (h : ¬ (k < x ∧ (x < i ∨ (x = i ∧ y < j)))) : mixR F E k i j x y = F x y := if_neg h
/-- how great the numbers are -/
def bR : Nat → Int
  | 0 => 1
  | k + 1 => 2 * (bR k * bR k)
theorem bR_le : ∀ k : Nat, k ≤ 3 → 1 ≤ bR k ∧ bR k ≤ 128 := by decide +kernel
theorem wr_in {x : Int} (h : -1000000000000000000 ≤ x ∧ x ≤ 1000000000000000000) : IntKind.i64.wrap x = x ∧ wrap64 x = x := ⟨IntWalk.i64_in _ (by omega), IntWalk.wrap64_in _ (by omega)⟩
set_option maxRecDepth 100000 in
set_option maxHeartbeats 8000000 in
theorem rank_any (A : Option Addr) (n c mm : Nat) (R : Nat → SB) (w : World) (h : GrT w A n R) (hn : n ≤ maxLen) (hmm : tkE n R = 0 → (1 ≤ n ∧ n ≤ 4) ∧ (1 ≤ mm ∧ mm ≤ 4) ∧ ∀ i, i < n → (R i).n = mm) :
    Calls Try.prog 7 #[.slice A n c] w fun e w' => ((tkE n R ≠ 0 ∧ e = .returned (.tuple #[.int .i64 0, .int .i64 (tkE n R)])) ∨ (tkE n R = 0 ∧ ∃ q : Nat, IsRank (tbI R) n mm q ∧ q ≤ n ∧ e = .returned (.tuple #[.int .i64 (q : Nat), .int .i64 0]))) ∧ Below w.heap.size w w' := by
  have H := Lib.hid h
  have HN := Lib.hid hn
  obtain ⟨x, hx⟩ : ∃ x, x = tkE n R := ⟨_, rfl⟩
  have HX := Lib.hid hx
  rw [← hx] at hmm ⊢
  have hnx := hn
  unfold maxLen at hnx
  clear h hn
  by_cases hx0 : x = 0
  · obtain ⟨⟨n1, n4⟩, ⟨m1, m4⟩, hlen⟩ := hmm hx0
    have HLEN := Lib.hid hlen
    clear hlen hmm hx
    subst hx0
    obtain ⟨rB, rO, rfl, hAlt, _⟩ := H.out.1.at_ (show 0 < n by omega)
    go_enter Try.func7, Try.ntmps7
    go_wp2_with fail
    refine (wrongT_any _ n c R w H.out HN.out).mono ?_
    rintro e w1 ⟨rfl, hb1⟩
    rw [← HX.out]
    have HB1 := Lib.hid hb1
    clear hb1
    go_wp2_with fail
    go_loopw [5, 26] (fun s5 s26 wr => ∃ (i : Nat) (S : Option Addr) (sc : Nat) (r rc : Nat → Nat) (F : Nat → Nat → Int), i ≤ n ∧ s5 = .slice S i sc ∧ s26 = .int .i64 (i : Nat) ∧ Hid (Mt wr w.heap.size S i sc mm r rc F) ∧ Hid (Below w.heap.size w wr) ∧ Hid (∀ q, q < i → ∀ t, t < mm → F q t = tbI R q t)) (fun _ s26 _ => n - (intOf s26).toNat)
    case atStart => exact ⟨0, none, 0, fun _ => 0, fun _ => 0, fun _ _ => 0, Nat.zero_le _, rfl, rfl, Lib.hid (Mt.nil _ _ _ _ _ _), HB1, Lib.hid fun q hq => absurd hq (Nat.not_lt_zero _)⟩
    case round =>
      obtain ⟨wo, rfl⟩ : ∃ wo : World, wo = wr := ⟨_, rfl⟩
      obtain ⟨i, S, sc, r, rc, F, hi, rfl, rfl, HT, HB, HF⟩ := hrel
      by_cases hin : i < n
      · have hAc : wo.cell? ⟨rB, rO + i, none⟩ = some (.slice (R i).A (R i).n (R i).c) := by
          obtain ⟨b', o', e, _, hc⟩ := (H.out.below HB.out).1.at_ hin
          cases e; exact hc
        rw [HLEN.out i hin] at hAc
        obtain ⟨yA, hyA⟩ : ∃ y, y = (R i).A := ⟨_, rfl⟩
        obtain ⟨yc, hyc⟩ : ∃ y, y = (R i).c := ⟨_, rfl⟩
        rw [← hyA, ← hyc] at hAc
        have HYA := Lib.hid hyA
        clear hyA hyc
        go_wp2_with fail
        go_loopw [8, 32] (fun s8 s32 wr => ∃ (j : Nat) (P : Option Addr) (pc : Nat), j ≤ mm ∧ s8 = .slice P j pc ∧ s32 = .int .i64 (j : Nat) ∧ Hid (Own wr wo.heap.size 3 1 P j pc j (fun t => .int .i64 (tbI R i t))) ∧ Hid (Below wo.heap.size wo wr)) (fun _ s32 _ => mm - (intOf s32).toNat)
        case atStart => exact ⟨0, none, 0, Nat.zero_le _, rfl, rfl, Lib.hid (Own.nil _ _ _ _ _), Lib.hid (Below.refl _ _)⟩
        case round =>
          clear hAc
          obtain ⟨wi, rfl⟩ : ∃ wi : World, wi = wr := ⟨_, rfl⟩
          obtain ⟨j, P, pc, hj, rfl, rfl, HO, HBI⟩ := hrel
          have hws := HB.out.size
          have hws2 := HBI.out.size
          by_cases hjm : j < mm
          · have hG := H.out.below (HB.out.trans (HBI.out.mono hws))
            obtain ⟨yb, yo, hyA, _, hc2⟩ := (hG.2 i hin).1.at_ (show j < (R i).n by rw [HLEN.out i hin]; exact hjm)
            rw [← HYA.out] at hyA
            have hyA' : yA = some ⟨yb, yo, none⟩ := hyA
            subst hyA'
            have hc3 : wi.cell? ⟨yb, yo + j, none⟩ = some (.bool ((R i).f j)) := hc2
            have hti : tbI R i j = if (R i).f j = true then 1 else 0 := rfl
            obtain ⟨bv, hbv⟩ : ∃ b, b = (R i).f j := ⟨_, rfl⟩
            rw [← hbv] at hc3 hti
            clear hG hc2 hbv hyA
            cases bv with
            | true =>
              rw [if_pos rfl] at hti
              have HTI := Lib.hid hti
              clear hti
              go_wp2_with (at_builtin; refine wpList_app _ rfl (.tmp 37) (.tmp 39) 46 rfl ENt rfl (HO.out.alloc _) rfl (l := 1) (by omega) (Rd.one _ (.int .i64 1) _) (fun _ _ => rfl) (by unfold maxLen; omega) (by omega) (by simp; omega) (j + 1) (j + 1) rfl rfl ?_; intro A2 ac2 w6 hown2 hg2 hat2 hbl2; have HOW := Lib.hid hown2; have HBL := Lib.hid ((HBI.out.alloc (by omega) _).trans hbl2); clear hown2 hg2 hat2 hbl2)
              go_roundw
              case rel => exact ⟨j + 1, A2, ac2, by omega, rfl, by go_num, Lib.hid (sum_app HOW.out (fun q hq => rfl) (by rw [HTI.out])), HBL⟩
              case measure => simp [intOf]; omega
            | false =>
              rw [if_neg (by decide)] at hti
              have HTI := Lib.hid hti
              clear hti
              go_wp2_with (at_builtin; refine wpList_app _ rfl (.tmp 37) (.tmp 39) 46 rfl ENt rfl (HO.out.alloc _) rfl (l := 1) (by omega) (Rd.one _ (.int .i64 0) _) (fun _ _ => rfl) (by unfold maxLen; omega) (by omega) (by simp; omega) (j + 1) (j + 1) rfl rfl ?_; intro A2 ac2 w6 hown2 hg2 hat2 hbl2; have HOW := Lib.hid hown2; have HBL := Lib.hid ((HBI.out.alloc (by omega) _).trans hbl2); clear hown2 hg2 hat2 hbl2)
              go_roundw
              case rel => exact ⟨j + 1, A2, ac2, by omega, rfl, by go_num, Lib.hid (sum_app HOW.out (fun q hq => rfl) (by rw [HTI.out])), HBL⟩
              case measure => simp [intOf]; omega
          · obtain rfl : j = mm := by omega
            obtain ⟨g, _, rfl, _⟩ := HO.out.row (show 0 < j by omega)
            have hMt2 := HT.out.below HBI.out
            go_wp2_with (at_builtin; refine wpList_app _ rfl (.tmp 42) (.tmp 44) 45 rfl EMt rfl (hMt2.own.alloc _) rfl (l := 1) rfl (Rd.one _ _ _) (fun _ _ => rfl) (by unfold maxLen; omega) (by omega) (by simp; omega) (i + 1) (i + 1) rfl rfl ?_; intro A3 c3 w3 hown3 hg3 hat3 hbl3)
            have hT3 := HT.out.more hws (HBI.out.alloc hws2 _) (HO.out.alloc _) hown3 hg3
            go_roundw
            case rel => exact ⟨i + 1, A3, c3, _, _, _, by omega, rfl, by go_num, Lib.hid hT3, Lib.hid (((HB.out.trans (HBI.out.mono hws)).alloc (by omega) _).trans hbl3), Lib.hid fun q hq t ht => by
              by_cases e : q = i
              · rw [if_pos e, e]
              · rw [if_neg e]; exact HF.out q (by omega) t ht⟩
            case measure => simp [intOf]; omega
      · obtain rfl : i = n := by omega
        obtain ⟨oB, rfl, hmx⟩ := HT.out.laid (by omega) (by omega)
        have hmx2 := hmx.congr HF.out
        have f0 := (hmx2.outc (show 0 < i by omega)).1
        have HMX := Lib.hid hmx2
        have hb0 : ∀ a, a < i → ∀ b, b < mm → -bR 0 ≤ tbI R a b ∧ tbI R a b ≤ bR 0 := fun a _ b _ => by unfold tbI bR; split <;> omega
        have HB0 := Lib.hid hb0
        clear hmx hmx2 HT HF hb0
        go_wp2_with fail
        go_loopw [12, 51] (fun s12 s51 wr => ∃ (k cN : Nat) (r rc : Nat → Nat) (F : Nat → Nat → Int), k < i ∧ cN ≤ mm ∧ s12 = .int .i64 (k : Nat) ∧ s51 = .int .i64 (cN : Nat) ∧ Hid (Mx wr w.heap.size oB sc i mm r rc F) ∧ Hid (Below w.heap.size w wr) ∧ Hid (Ech (tbI R) F i mm k cN) ∧ Hid (∀ a, a < i → ∀ b, b < mm → -bR k ≤ F a b ∧ F a b ≤ bR k)) (fun _ s51 _ => mm - (intOf s51).toNat)
        case atStart => exact ⟨0, 0, _, _, _, by omega, Nat.zero_le _, rfl, rfl, HMX, HB, Lib.hid (Ech.start _ _ _), HB0⟩
        case round =>
          clear HMX HB HB0 f0
          obtain ⟨wp, rfl⟩ : ∃ wp : World, wp = wr := ⟨_, rfl⟩
          obtain ⟨k, cN, r, rc, F, hki, hcm, rfl, rfl, HMX, HB, HE, HBD⟩ := hrel
          by_cases hcN : cN < mm
          · have hsc := HMX.out.oc.1
            have hsk : ¬ sc = k := by omega
            have hwsz := HB.out.size
            obtain ⟨W2, hW2⟩ : ∃ X, X = wp.alloc (.cells #[.int .i64 (cN : Nat)] 3) := ⟨_, rfl⟩
            obtain ⟨g, hg⟩ : ∃ g, g = wp.heap.size := ⟨_, rfl⟩
            have hba : Below wp.heap.size wp W2 := by rw [hW2]; exact (Below.refl _ _).alloc (Nat.le_refl _) _
            have hgc : W2.cell? ⟨g, 0, none⟩ = some (.int .i64 (cN : Nat)) := by rw [hW2, hg]; simp
            have hm2 := HMX.out.below hba
            have hrg : ∀ q, q < i → r q < g := fun q hq => by rw [hg]; exact HMX.out.lt.2 q hq
            have hcall := idxW_any 18 #[.pointer (some ⟨g, 0, none⟩)] (some ⟨oB, 0 + k, none⟩) (i - k) (sc - k) (fun q => .slice (some ⟨r (k + q), 0, none⟩) mm (rc (k + q))) (fun q => F (k + q) cN != 0) W2 hm2.rdo.cut (by unfold maxLen; omega) (fun _ _ => rfl) (fun q hq => nzR_any (r (k + q)) 0 mm (rc (k + q)) g cN (F (k + q) cN) W2 hgc hcN (by omega) (by rw [Nat.zero_add]; exact (hm2.cell (show k + q < i by omega) hcN).1))
            rw [Nat.zero_add] at hcall
            have HCALL := Lib.hid hcall
            have HM2 := Lib.hid hm2
            have HB2 := Lib.hid (HB.out.trans (hba.mono hwsz))
            have HW2 := Lib.hid hW2
            have HGE := Lib.hid hg
            have HRG := Lib.hid hrg
            clear hm2 hcall hba hW2 hg hrg
            go_wp2_with fail
            rw [← HW2.out, ← HGE.out]
            refine HCALL.out.mono ?_
            rintro e w3 ⟨rfl, ⟨rfl, hall⟩ | ⟨p, hp, hpk, rfl⟩⟩
            · have hz : ∀ q, k ≤ q → q < i → F q cN = 0 := fun q h1 h2 => by
                have := hall (q - k) (by omega)
                rw [show k + (q - k) = q by omega] at this
                simpa using this
              have HEN := Lib.hid (HE.out.next hcN hz)
              clear hall HCALL hz
              go_wp2_with fail
              go_roundw
              case rel => exact ⟨k, cN + 1, r, rc, F, hki, by omega, rfl, by go_num, HM2, HB2, HEN, HBD⟩
              case measure => simp [intOf]; omega
            · have hpk2 : F (k + p) cN ≠ 0 := by simpa using hpk
              have HPK := Lib.hid hpk2
              clear hpk hpk2 HCALL
              go_upto_region 25 with (fail)
              go_cut [] (fun wx => ∃ (r rc : Nat → Nat), Hid (Mx wx w.heap.size oB sc i mm r rc (fun y => F (swM k (k + p) y))) ∧ Hid (Below w.heap.size w wx) ∧ Hid (∀ q, q < i → r q < g) ∧ wx.cell? ⟨g, 0, none⟩ = some (.int .i64 (cN : Nat)))
              case first =>
                by_cases hp0 : p = 0
                · subst hp0
                  have f1 := (HM2.out.outc hki).1
                  have f2 := (HM2.out.outc hki).2
                  have HX1 := Lib.hid (HM2.out.swap hki hki)
                  have HBX1 := Lib.hid ((HB2.out.setCell (p := ⟨oB, k, none⟩) HM2.out.oc.2 (.slice (some ⟨r k, 0, none⟩) mm (rc k))).setCell (p := ⟨oB, k, none⟩) HM2.out.oc.2 (.slice (some ⟨r k, 0, none⟩) mm (rc k)))
                  have HRG2 : Hid (∀ y, y < i → r (swM k k y) < g) := Lib.hid fun y hy => HRG.out _ (by unfold swM; split <;> (try split) <;> omega)
                  have hgo : g ≠ oB := by have := HM2.out.lt.1; have h2 := HMX.out.lt.1; have := HGE.out; omega
                  have HGC1 : Hid (((W2.setCell ⟨oB, k, none⟩ (.slice (some ⟨r k, 0, none⟩) mm (rc k))).setCell ⟨oB, k, none⟩ (.slice (some ⟨r k, 0, none⟩) mm (rc k))).cell? ⟨g, 0, none⟩ = some (.int .i64 (cN : Nat))) := Lib.hid (by
                    rw [World.cell?_of_block ((Deep.blk_setCell_other _ _ _ _ hgo).trans (Deep.blk_setCell_other _ _ _ _ hgo))]; exact hgc)
                  go_region
                  all_goals
                    go_wp2_with fail
                    go_meet
                    exact ⟨_, _, Lib.hid (HX1.out.below (Below.refl _ _).drew), Lib.hid HBX1.out.drew, HRG2, HGC1.out⟩
                · have hpp : 0 < p := by omega
                  have hqi : k + p < i := by omega
                  have hkq : k < k + p := by omega
                  have f1 := (HM2.out.outc hki).1
                  have f2 := (HM2.out.outc hki).2
                  have f3 := (HM2.out.outc hqi).1
                  have f4 := (HM2.out.outc hqi).2
                  have HX1 := Lib.hid (HM2.out.swap hki hqi)
                  have HX2 := Lib.hid (HM2.out.swap' hki hqi (by omega))
                  have HBX1 := Lib.hid ((HB2.out.setCell (p := ⟨oB, k, none⟩) HM2.out.oc.2 (.slice (some ⟨r (k + p), 0, none⟩) mm (rc (k + p)))).setCell (p := ⟨oB, k + p, none⟩) HM2.out.oc.2 (.slice (some ⟨r k, 0, none⟩) mm (rc k)))
                  have HBX2 := Lib.hid ((HB2.out.setCell (p := ⟨oB, k + p, none⟩) HM2.out.oc.2 (.slice (some ⟨r k, 0, none⟩) mm (rc k))).setCell (p := ⟨oB, k, none⟩) HM2.out.oc.2 (.slice (some ⟨r (k + p), 0, none⟩) mm (rc (k + p))))
                  have hsl : ∀ y, y < i → swM k (k + p) y < i := fun y hy => by unfold swM; split <;> (try split) <;> omega
                  have HRG2 : Hid (∀ y, y < i → r (swM k (k + p) y) < g) := Lib.hid fun y hy => HRG.out _ (hsl y hy)
                  have hgo : g ≠ oB := by have := HM2.out.lt.1; have h2 := HMX.out.lt.1; have := HGE.out; omega
                  have HGC1 : Hid (((W2.setCell ⟨oB, k, none⟩ (.slice (some ⟨r (k + p), 0, none⟩) mm (rc (k + p)))).setCell ⟨oB, k + p, none⟩ (.slice (some ⟨r k, 0, none⟩) mm (rc k))).cell? ⟨g, 0, none⟩ = some (.int .i64 (cN : Nat))) := Lib.hid (by
                    rw [World.cell?_of_block ((Deep.blk_setCell_other _ _ _ _ hgo).trans (Deep.blk_setCell_other _ _ _ _ hgo))]; exact hgc)
                  have HGC2 : Hid (((W2.setCell ⟨oB, k + p, none⟩ (.slice (some ⟨r k, 0, none⟩) mm (rc k))).setCell ⟨oB, k, none⟩ (.slice (some ⟨r (k + p), 0, none⟩) mm (rc (k + p)))).cell? ⟨g, 0, none⟩ = some (.int .i64 (cN : Nat))) := Lib.hid (by
                    rw [World.cell?_of_block ((Deep.blk_setCell_other _ _ _ _ hgo).trans (Deep.blk_setCell_other _ _ _ _ hgo))]; exact hgc)
                  clear hsl
                  go_region
                  all_goals
                    go_wp2_with fail
                    go_meet
                    first
                      | exact ⟨_, _, Lib.hid (HX1.out.below (Below.refl _ _).drew), Lib.hid HBX1.out.drew, HRG2, HGC1.out⟩
                      | exact ⟨_, _, Lib.hid (HX2.out.below (Below.refl _ _).drew), Lib.hid HBX2.out.drew, HRG2, HGC2.out⟩
              case rest =>
                have hqi : k + p < i := by omega
                have hsl : ∀ y, y < i → swM k (k + p) y < i := fun y hy => by unfold swM; split <;> (try split) <;> omega
                obtain ⟨M, hM⟩ : ∃ M : Nat → Nat → Int, M = fun y => F (swM k (k + p) y) := ⟨_, rfl⟩
                obtain ⟨E, hE⟩ : ∃ E : Nat → Nat → Int, E = fun x y => M x y * M k cN - M k y * M x cN := ⟨_, rfl⟩
                have hb : ∀ a, a < i → ∀ b, b < mm → -bR k ≤ M a b ∧ M a b ≤ bR k := fun a ha b hb => by rw [hM]; exact HBD.out _ (hsl a ha) b hb
                have hk3 := bR_le k (by omega)
                have hEv : ∀ x y, E x y = M x y * M k cN - M k y * M x cN := fun x y => by rw [hE]
                have hEb : ∀ a, a < i → ∀ b, b < mm → -bR (k + 1) ≤ E a b ∧ E a b ≤ bR (k + 1) := fun a ha b hb' => by
                  rw [hEv]
                  have q1 := mul_bd (hb a ha b hb') (hb k hki cN hcN)
                  have q2 := mul_bd (hb k hki b hb') (hb a ha cN hcN)
                  show -(2 * (bR k * bR k)) ≤ _ ∧ _ ≤ 2 * (bR k * bR k)
                  omega
                have hbb : ∀ a, a < i → ∀ b, b < mm → -bR (k + 1) ≤ mixR M E k i 0 a b ∧ mixR M E k i 0 a b ≤ bR (k + 1) := fun a ha b hb' => by
                  unfold mixR
                  split
                  · exact hEb a ha b hb'
                  · have := hb a ha b hb'
                    have h2 : bR k ≤ bR (k + 1) := by
                      show bR k ≤ 2 * (bR k * bR k)
                      have := Int.mul_le_mul_of_nonneg_right hk3.1 (show 0 ≤ bR k by omega)
                      omega
                    omega
                have hstep : Ech (tbI R) (mixR M E k i 0) i mm (k + 1) (cN + 1) := HE.out.step hcN (show k ≤ k + p by omega) hqi HPK.out (M1 := M) (M2 := mixR M E k i 0) (fun a _ b _ => by rw [hM]; rfl) fun a ha b hb' => by
                  unfold mixR
                  by_cases e : k < a
                  · rw [if_pos (by omega), if_pos e, hEv]
                  · rw [if_neg (by omega), if_neg e]
                obtain ⟨r, rc, HM2', HB2', HRG', hgc'⟩ := hcut
                rw [← hM] at HM2'
                have HM3 := Lib.hid (HM2'.out.congr (G := mixR M E k (k + 1) 0) fun q _ t _ => mixR_start M E k q t)
                have HSTEP := Lib.hid hstep
                have HBB := Lib.hid hbb
                have HB4 : Hid (∀ a, a < i → ∀ b, b < mm → -128 ≤ M a b ∧ M a b ≤ 128) := Lib.hid fun a ha b hb' => by have := hb a ha b hb'; omega
                have HEV := Lib.hid hEv
                clear HMX HB HM2 HB2 HE HBD HRG hgc HPK HW2 HGE hstep hbb hEb hEv hb hM hE hsl HM2' hk3
                go_wp2_with fail
                go_loopw [15] (fun s15 wr => ∃ y : Nat, k + 1 ≤ y ∧ y ≤ i ∧ s15 = .int .i64 (y : Nat) ∧ Hid (Mx wr w.heap.size oB sc i mm r rc (mixR M E k y 0)) ∧ Hid (Below w.heap.size w wr) ∧ wr.cell? ⟨g, 0, none⟩ = some (.int .i64 (cN : Nat))) (fun s15 _ => i - (intOf s15).toNat)
                case atStart => exact ⟨k + 1, Nat.le_refl _, hki, by go_num, HM3, HB2', hgc'⟩
                case round =>
                  clear HM3 HB2' hgc'
                  obtain ⟨wy, rfl⟩ : ∃ wy : World, wy = wr := ⟨_, rfl⟩
                  obtain ⟨y, hy1, hyi, rfl, HMY, HBY, hgc⟩ := hrel
                  by_cases hy : y < i
                  · have c1 := (HMY.out.outc hy).1
                    have c2 := (HMY.out.outc hki).1
                    have v2 := (HMY.out.cell hy hcN).1
                    have v3 := (HMY.out.cell hki hcN).1
                    rw [mixR_old (by omega)] at v2 v3
                    obtain ⟨xb, hxb⟩ : ∃ x, x = M y cN := ⟨_, rfl⟩
                    obtain ⟨xa, hxa⟩ : ∃ x, x = M k cN := ⟨_, rfl⟩
                    rw [← hxb] at v2
                    rw [← hxa] at v3
                    have HXB := Lib.hid hxb
                    have HXA := Lib.hid hxa
                    clear hxb hxa
                    go_wp2_with fail
                    go_quiet (fail)
                    have c1 : (wy.drewN nq).cell? ⟨oB, y, none⟩ = some (.slice (some ⟨r y, 0, none⟩) mm (rc y)) := c1
                    obtain ⟨wq, hwq⟩ : ∃ X, X = wy.drewN nq := ⟨_, rfl⟩
                    have HMQ : Hid (Mx wq w.heap.size oB sc i mm r rc (mixR M E k y 0)) := Lib.hid (by rw [hwq]; exact HMY.out.below (below_drewN (Below.refl _ _) nq))
                    have HBQ : Hid (Below w.heap.size w wq) := Lib.hid (by rw [hwq]; exact below_drewN HBY.out nq)
                    have hgq : wq.cell? ⟨g, 0, none⟩ = some (.int .i64 (cN : Nat)) := by rw [hwq]; exact hgc
                    rw [← hwq] at c1 ⊢
                    clear hwq c2 v2 v3 HMY HBY
                    go_wp2_with fail
                    go_loopw [106] (fun s106 wr => ∃ z : Nat, z ≤ mm ∧ s106 = .int .i64 (z : Nat) ∧ Hid (Mx wr w.heap.size oB sc i mm r rc (mixR M E k y z)) ∧ Hid (Below w.heap.size w wr) ∧ wr.cell? ⟨g, 0, none⟩ = some (.int .i64 (cN : Nat))) (fun s106 _ => mm - (intOf s106).toNat)
                    case atStart => exact ⟨0, Nat.zero_le _, rfl, HMQ, HBQ, hgq⟩
                    case round =>
                      clear HMQ HBQ hgq c1
                      obtain ⟨wz, rfl⟩ : ∃ wz : World, wz = wr := ⟨_, rfl⟩
                      obtain ⟨z, hzm, rfl, HMZ, HBZ, hgc2⟩ := hrel
                      by_cases hz : z < mm
                      · have c1 := (HMZ.out.outc hy).1
                        have c2 := (HMZ.out.outc hki).1
                        have v1 := (HMZ.out.cell hy hz).1
                        have v4 := (HMZ.out.cell hki hz).1
                        have fz := (HMZ.out.cell hy hz).2
                        rw [mixR_old (by omega)] at v1 v4
                        have b1 := HB4.out y hy z hz
                        have b2 := HB4.out y hy cN hcN
                        have b3 := HB4.out k hki cN hcN
                        have b4 := HB4.out k hki z hz
                        have hev := HEV.out y z
                        rw [← HXB.out] at b2 hev
                        rw [← HXA.out] at b3 hev
                        have HMZd := HMZ.out.below (Below.refl wz.heap.size wz).drew
                        have HST := Lib.hid ((HMZd.set hy hz (E y z)).congr fun a _ b _ => mixR_step (show k < y by omega) (E y z) rfl a b)
                        have HGC : Hid ((wz.drew.setCell ⟨r y, z, none⟩ (.int .i64 (E y z))).cell? ⟨g, 0, none⟩ = some (.int .i64 (cN : Nat))) := Lib.hid (by
                          rw [World.cell?_of_block (Deep.blk_setCell_other _ _ _ _ (show g ≠ r y by have := HRG'.out y hy; omega))]; exact hgc2)
                        have HBS := Lib.hid (HBZ.out.drew.setCell (p := ⟨r y, z, none⟩) (HMZ.out.row y hy).1 (.int .i64 (E y z)))
                        obtain ⟨x1, hx1⟩ : ∃ x, x = M y z := ⟨_, rfl⟩
                        obtain ⟨x4, hx4⟩ : ∃ x, x = M k z := ⟨_, rfl⟩
                        obtain ⟨ev, hee⟩ : ∃ x, x = E y z := ⟨_, rfl⟩
                        rw [← hee] at HST HGC HBS hev
                        rw [← hx1] at v1 b1 hev
                        rw [← hx4] at v4 b4 hev
                        have q1 := mul_bd (x := x1) (y := xa) (a := 128) (b := 128) (by omega) (by omega)
                        have q2 := mul_bd (x := x4) (y := xb) (a := 128) (b := 128) (by omega) (by omega)
                        have q3 := (wr_in (x := x1 * xa) (by omega)).1
                        have q4 := (wr_in (x := x4 * xb) (by omega)).1
                        have q5 := (wr_in (x := x1 * xa - x4 * xb) (by omega)).1
                        obtain ⟨P1, hP1⟩ : ∃ x, x = x1 * xa := ⟨_, rfl⟩
                        obtain ⟨P2, hP2⟩ : ∃ x, x = x4 * xb := ⟨_, rfl⟩
                        rw [← hP1] at q5 hev
                        rw [← hP2] at q5 hev
                        rw [← hev] at q5
                        have q3a : IntKind.i64.wrap (x1 * xa) = P1 := by rw [hP1]; exact q3
                        have q4a : IntKind.i64.wrap (x4 * xb) = P2 := by rw [hP2]; exact q4
                        have q5a : IntKind.i64.wrap (P1 - P2) = ev := by rw [← hev]; exact q5
                        clear hP1 hP2 q3 q4 q5 hev hx1 hx4 hee b1 b2 b3 b4 q1 q2
                        go_wp2_with fail
                        refine wp_still_tailD 25 (by kernel_rfl) (by kernel_rfl) ?_
                        simp only [List.take_succ_cons, List.take_zero, List.drop_succ_cons, List.drop_zero]
                        repeat still_step
                        refine wpStill_nil ?_
                        obtain ⟨wd, hwd⟩ : ∃ X, X = wz.drew := ⟨_, rfl⟩
                        have v1d : wz.drew.cell? ⟨r y, z, none⟩ = some (.int .i64 x1) := v1
                        have fzd : wz.drew.frozen? ⟨r y, z, none⟩ = false := fz
                        rw [← hwd] at HST HGC HBS v1d fzd
                        rw [← hwd]
                        clear hwd v1 v4 c1 c2 fz HMZd HMZ hgc2 q3a q4a q5a
                        go_wp2_with fail
                        go_roundw
                        case rel => exact ⟨z + 1, by omega, by go_num, HST, HBS, HGC.out⟩
                        case measure => simp [intOf]; omega
                      · obtain rfl : z = mm := by omega
                        have HMR := Lib.hid (HMZ.out.congr fun a _ b hb => mixR_row hb (show k < y by omega))
                        go_wp2_with fail
                        go_roundw
                        case rel => exact ⟨y + 1, by omega, by omega, by go_num, HMR, HBZ, hgc2⟩
                        case measure => simp [intOf]; omega
                  · obtain rfl : y = i := by omega
                    by_cases hlast : k + 1 = y
                    · have HRK := Lib.hid (HSTEP.out.done (.inr hlast))
                      go_wp2_with fail
                      go_ret2
                      exact ⟨.inr ⟨by first | trivial | rfl, k + 1, HRK.out, by omega, rfl⟩, HBY.out⟩
                    · have hlt : k + 1 < y := by omega
                      go_wp2_with fail
                      go_roundw
                      case rel => exact ⟨k + 1, cN + 1, r, rc, _, hlt, by omega, by go_num, by go_num, HMY, HBY, HSTEP, HBB⟩
                      case measure => simp [intOf]; omega
          · obtain rfl : cN = mm := by omega
            have HRK := Lib.hid (HE.out.done (.inl rfl))
            go_wp2_with fail
            go_ret2
            exact ⟨.inr ⟨by first | trivial | rfl, k, HRK.out, by omega, rfl⟩, HB.out⟩
  · go_enter Try.func7, Try.ntmps7
    go_wp2_with fail
    refine (wrongT_any A n c R w H.out HN.out).mono ?_
    rintro e w1 ⟨rfl, hb1⟩
    have HB1 := Lib.hid hb1
    have HX0 := Lib.hid hx0
    rw [← HX.out]
    clear hb1 hx
    go_wp2_with fail
    go_ret2
    exact ⟨.inl ⟨HX0.out, rfl⟩, HB1.out⟩
end Go.Proofs.Ytnfibchffbdmpaa
