/- pairs.Signed: the signed sum, column by column. Condition: the rows read as told. -/
import Derived.Test.YtenlnkcmabphfaaPairsWays
import Derived.Test.YtenlnkcmabphfaaBareiss
import Derived.Test.YtenlnkcmabphfaaMat
import Derived.Test.YtenlnkcmabphfaaIdxW
import Derived.Test.YtenlnkcmabphfaaClone
import Derived.BigRegion
import Derived.BigQuiet
import Derived.IntWalk
import Derived.Deep.DeepCutAuto
import Derived.Test.YtenlnkcmabphfaaStillT
namespace Go.Proofs.Ytenlnkcmabphfaa
open Go.ChangeShapes Go.WideShapes Go.ChangeAt Go.RowKit
set_option linter.unusedVariables false
set_option linter.unusedSimpArgs false
set_option maxRecDepth 100000 in
theorem nz_any (b o m c g : Nat) (k : Nat) (x : Int) (w : World) (hg : w.cell? ⟨g, 0, none⟩ = some (.int .i64 (k : Nat))) (hk : k < m) (hm : m ≤ 6) (hx : w.cell? ⟨b, o + k, none⟩ = some (.int .i64 x)) :
    Calls Try.prog 22 #[.slice (some ⟨b, o, none⟩) m c, .pointer (some ⟨g, 0, none⟩)] w fun e w' => e = .returned (.bool (x != 0)) ∧ w = w' := by
  go_enter Try.func22, Try.ntmps22
  go_wp2_with fail
  go_ret
  exact ⟨rfl, rfl⟩
theorem fit_cat {W : World} {B i c2 m : Nat} {A : Option Addr} {C D : Nat → Value} (h : Own W B 24 1 A (i + 1) c2 (i + 1) (cat i C D)) {v : Value} (hD : D 0 = v) : Own W B 24 1 A (i + 1) c2 (i + 1) (cat i C (fun _ => v)) :=
  h.congr fun j hj => by
    unfold cat
    by_cases e : j < i
    · rw [if_pos e, if_pos e]
    · rw [if_neg e, if_neg e, show j - i = 0 by omega, hD]
/-- entries till row i, column j are new -/
def mixB (a m : Nat → Nat → Int) (c i j : Nat) : Nat → Nat → Int := fun x y => if c < x ∧ c < y ∧ (x < i ∨ (x = i ∧ y < j)) then m x y else a x y
theorem mix_start (a m : Nat → Nat → Int) (c x y : Nat) : a x y = mixB a m c (c + 1) (c + 1) x y := by unfold mixB; rw [if_neg (by omega)]
theorem mix_step {a m : Nat → Nat → Int} {c i j : Nat} (hi : c < i) (hj : c < j) (v : Int) (hv : v = m i j) (x y : Nat) : (if x = i ∧ y = j then v else mixB a m c i j x y) = mixB a m c i (j + 1) x y := by
  unfold mixB
  by_cases e : x = i ∧ y = j
  · rw [if_pos e, if_pos (by omega), hv, e.1, e.2]
  · rw [if_neg e]
    by_cases k : c < x ∧ c < y ∧ (x < i ∨ (x = i ∧ y < j))
    · rw [if_pos k, if_pos (by omega)]
    · rw [if_neg k, if_neg (by omega)]
theorem mix_row {a m : Nat → Nat → Int} {c i n x y : Nat} (hy : y < n) (hi : c < i) : mixB a m c i n x y = mixB a m c (i + 1) (c + 1) x y := by
  unfold mixB
  by_cases k : c < x ∧ c < y ∧ (x < i ∨ (x = i ∧ y < n))
  · rw [if_pos k, if_pos (by omega)]
  · rw [if_neg k, if_neg (by omega)]
theorem mix_old {a m : Nat → Nat → Int} {c i j x y : Nat} (h : ¬ (c < x ∧ c < y ∧ (x < i ∨ (x = i ∧ y < j)))) : mixB a m c i j x y = a x y := if_neg h
theorem bd20 : ∀ k : Nat, k ≤ 6 → (k ≤ 5 → bdD 20 k ≤ 384000000) ∧ bdD 20 k ≤ 46080000000 := by decide +kernel
theorem wr_in {x : Int} (h : -1000000000000000000 ≤ x ∧ x ≤ 1000000000000000000) : IntKind.i64.wrap x = x ∧ wrap64 x = x := ⟨IntWalk.i64_in _ (by omega), IntWalk.wrap64_in _ (by omega)⟩
set_option maxRecDepth 100000 in
set_option maxHeartbeats 8000000 in
theorem signed_any (A : Option Addr) (n c : Nat) (R : Nat → SI) (w : World) (h : GrP w A n R) (hn : n ≤ maxLen) :
    Calls Try.prog 14 #[.slice A n c] w fun e w' => e = .returned (.tuple #[.int .i64 (if pwE n R = 0 then dt (-1) n (mtW R) else 0), .int .i64 (pwE n R)]) ∧ Below w.heap.size w w' := by
  have H := Lib.hid h
  have HN := Lib.hid hn
  obtain ⟨x, hx⟩ : ∃ x, x = pwE n R := ⟨_, rfl⟩
  have HX := Lib.hid hx
  rw [← hx]
  have hnx := hn
  unfold maxLen at hnx
  clear h hn
  by_cases hx0 : x = 0
  · obtain ⟨hn6, hlen, hval⟩ := pwE_zero (by rw [← hx]; exact hx0)
    have HLEN := Lib.hid hlen
    have hM : InW (mtW R) n := fun i hi j hj => hval i hi j hj
    have HM := Lib.hid hM
    obtain ⟨n1, n6⟩ := hn6
    have HS0 : Hid (Bar (mtW R) 20 n 0 (mtW R) 1 1) := Lib.hid (Bar.start fun i hi j hj => hM i hi j hj)
    obtain ⟨E, hE⟩ : ∃ E, E = dt (-1) n (mtW R) := ⟨_, rfl⟩
    have HE := Lib.hid hE
    rw [← hE]
    clear hlen hval hM hx hE
    subst hx0
    obtain ⟨rB, rO, rfl, hAlt, _⟩ := H.out.1.at_ (show 0 < n by omega)
    go_enter Try.func14, Try.ntmps14
    go_wp2_with fail
    refine (wrongP_any _ n c R w H.out HN.out).mono ?_
    rintro e w1 ⟨rfl, hb1⟩
    rw [← HX.out]
    have HB1 := Lib.hid hb1
    clear hb1
    go_wp2_with fail
    go_loopw [5, 21] (fun s5 s21 wr => ∃ (i : Nat) (S : Option Addr) (sc : Nat) (r rc : Nat → Nat) (F : Nat → Nat → Int), i ≤ n ∧ s5 = .slice S i sc ∧ s21 = .int .i64 (i : Nat) ∧ Hid (Mt wr w.heap.size S i sc n r rc F) ∧ Hid (Below w.heap.size w wr) ∧ Hid (∀ q, q < i → ∀ j, j < n → F q j = mtW R q j)) (fun _ s21 _ => n - (intOf s21).toNat)
    case atStart => exact ⟨0, none, 0, fun _ => 0, fun _ => 0, fun _ _ => 0, Nat.zero_le _, rfl, rfl, Lib.hid (Mt.nil _ _ _ _ _ _), HB1, Lib.hid fun q hq => absurd hq (Nat.not_lt_zero _)⟩
    case round =>
      obtain ⟨wo, rfl⟩ : ∃ wo : World, wo = wr := ⟨_, rfl⟩
      obtain ⟨i, S, sc, r, rc, F, hi, rfl, rfl, HT, HB, HF⟩ := hrel
      by_cases hin : i < n
      · have hg := (H.out.below HB.out).2 i hin
        have hAc : wo.cell? ⟨rB, rO + i, none⟩ = some (R i).val := by
          obtain ⟨b', o', e, _, hc⟩ := (H.out.below HB.out).1.at_ hin
          cases e; exact hc
        have HLR := HLEN.out i hin
        have hv : ∀ k, mtW R i k = (R i).f k := fun k => rfl
        obtain ⟨y, hy⟩ : ∃ y, y = R i := ⟨_, rfl⟩
        rw [← hy] at hg hAc HLR hv
        obtain ⟨yA, yn, yc, yf⟩ := y
        obtain rfl : yn = n := HLR
        have hAc' : wo.cell? ⟨rB, rO + i, none⟩ = some (.slice yA yn yc) := hAc
        have HG := Lib.hid hg
        have HV := Lib.hid hv
        clear hg hAc hv hy
        go_wp2_with fail
        refine (clone_any yA yn yc yf wo HG.out.1 (by omega)).mono ?_
        rintro e w2 ⟨A2, c2, rfl, hown, hb2⟩
        obtain ⟨g, _, rfl, _⟩ := hown.row (show 0 < yn by omega)
        have HOWN := Lib.hid hown
        have HB2 := Lib.hid hb2
        have HBw := Lib.hid (HB.out.trans (hb2.mono HB.out.size))
        have hsz := HB.out.size
        have hsz2 := hb2.size
        have hMt2 := HT.out.below hb2
        clear hown hb2
        go_wp2_with (at_builtin; refine wpList_app _ rfl (.tmp 25) (.tmp 28) 22 rfl EMt rfl (hMt2.own.alloc _) rfl (l := 1) rfl (Rd.one _ _ _) (fun _ _ => rfl) (by unfold maxLen; omega) (by omega) (by simp; omega) (i + 1) (i + 1) rfl rfl ?_; intro A3 c3 w3 hown3 hg3 hat3 hbl3)
        have hT3 := HT.out.more hsz (HB2.out.alloc hsz2 _) (HOWN.out.alloc _) hown3 hg3
        go_roundw
        case rel => exact ⟨i + 1, A3, c3, _, _, _, by omega, rfl, by go_num, Lib.hid hT3, Lib.hid ((HBw.out.alloc (by omega) _).trans hbl3), Lib.hid fun q hq j hj => by
          by_cases e : q = i
          · rw [if_pos e, e]; exact (HV.out j).symm
          · rw [if_neg e]; exact HF.out q (by omega) j hj⟩
        case measure => simp [intOf]; omega
      · obtain rfl : i = n := by omega
        obtain ⟨oB, rfl, hmx⟩ := HT.out.laid (by omega) (by omega)
        have HMX := Lib.hid (hmx.congr HF.out)
        clear hmx HT HF
        go_wp2_with fail
        go_loopw [8, 9, 33] (fun s8 s9 s33 wr => ∃ (k : Nat) (s last : Int) (r rc : Nat → Nat) (F : Nat → Nat → Int), k ≤ i ∧ s8 = .int .i64 s ∧ s9 = .int .i64 last ∧ s33 = .int .i64 (k : Nat) ∧ Hid (Mx wr w.heap.size oB sc i i r rc F) ∧ Hid (Below w.heap.size w wr) ∧ Hid (Bar (mtW R) 20 i k F s last)) (fun _ _ s33 _ => i - (intOf s33).toNat)
        case atStart => exact ⟨0, 1, 1, _, _, _, Nat.zero_le _, rfl, rfl, rfl, HMX, HB, HS0⟩
        case round =>
          clear HMX HB HS0
          obtain ⟨wp, rfl⟩ : ∃ wp : World, wp = wr := ⟨_, rfl⟩
          obtain ⟨k, s, last, r, rc, F, hk, rfl, rfl, rfl, HMX, HB, HBAR⟩ := hrel
          by_cases hki : k < i
          · have hsc := HMX.out.oc.1
            have hsk : ¬ sc = k := by omega
            have hwsz := HB.out.size
            obtain ⟨W2, hW2⟩ : ∃ X, X = wp.alloc (.cells #[.int .i64 (k : Nat)] 3) := ⟨_, rfl⟩
            obtain ⟨g, hg⟩ : ∃ g, g = wp.heap.size := ⟨_, rfl⟩
            have hba : Below wp.heap.size wp W2 := by rw [hW2]; exact (Below.refl _ _).alloc (Nat.le_refl _) _
            have hgc : W2.cell? ⟨g, 0, none⟩ = some (.int .i64 (k : Nat)) := by rw [hW2, hg]; simp
            have hm2 := HMX.out.below hba
            have hrg : ∀ q, q < i → r q < g := fun q hq => by rw [hg]; exact HMX.out.lt.2 q hq
            have hcall := idxW_any 22 #[.pointer (some ⟨g, 0, none⟩)] (some ⟨oB, 0 + k, none⟩) (i - k) (sc - k) (fun q => .slice (some ⟨r (k + q), 0, none⟩) i (rc (k + q))) (fun q => F (k + q) k != 0) W2 hm2.rdo.cut (by unfold maxLen; omega) (fun _ _ => rfl) (fun q hq => nz_any (r (k + q)) 0 i (rc (k + q)) g k (F (k + q) k) W2 hgc hki n6 (by rw [Nat.zero_add]; exact (hm2.cell (show k + q < i by omega) hki).1))
            rw [Nat.zero_add] at hcall
            have HCALL := Lib.hid hcall
            have HM2 := Lib.hid hm2
            have HB2 := Lib.hid (HB.out.trans (hba.mono hwsz))
            have HW2 := Lib.hid hW2
            have HGE := Lib.hid hg
            have HRG := Lib.hid hrg
            clear hm2 hcall hba hW2 hg hrg
            go_wp2_with fail
            rw [← HW2.out, ← HGE.out]
            refine HCALL.out.mono ?_
            rintro e w3 ⟨rfl, ⟨rfl, hall⟩ | ⟨p, hp, hpk, rfl⟩⟩
            · have hz : ∀ q, k ≤ q → q < i → F q k = 0 := fun q h1 h2 => by
                have := hall (q - k) (by omega)
                rw [show k + (q - k) = q by omega] at this
                simpa using this
              have HEE : Hid (E = 0) := Lib.hid (by rw [HE.out]; exact HBAR.out.zero hki hz)
              clear hz
              clear hall HCALL
              go_wp2_with fail
              go_ret2
              exact ⟨by rw [HEE.out]; rfl, HB2.out⟩
            · have hpk2 : F (k + p) k ≠ 0 := by simpa using hpk
              have HPK := Lib.hid hpk2
              clear hpk hpk2 HCALL
              go_upto_if 44 with (fail)
              trace_state
              go_cut [8] (fun s8 wx => ∃ (s : Int) (r rc : Nat → Nat) (F : Nat → Nat → Int), s8 = .int .i64 s ∧ Hid (Mx wx w.heap.size oB sc i i r rc F) ∧ Hid (Below w.heap.size w wx) ∧ Hid (Bar (mtW R) 20 i k F s last) ∧ Hid (∀ q, q < i → r q < g) ∧ wx.cell? ⟨g, 0, none⟩ = some (.int .i64 (k : Nat)) ∧ F k k ≠ 0)
              case first =>
                by_cases hp0 : p = 0
                · subst hp0
                  go_wp2_with fail
                  go_meet
                  exact ⟨s, r, rc, F, rfl, HM2, HB2, HBAR, HRG, hgc, HPK.out⟩
                · have hpp : 0 < p := by omega
                  have hqi : k + p < i := by omega
                  have hkq : k < k + p := by omega
                  have f1 := (HM2.out.outc hki).1
                  have f2 := (HM2.out.outc hki).2
                  have f3 := (HM2.out.outc hqi).1
                  have f4 := (HM2.out.outc hqi).2
                  have hs1 : -1 ≤ s ∧ s ≤ 1 := by rcases HBAR.out.sg with e | e <;> omega
                  have hnb : -s = 1 ∨ -s = -1 := by rcases HBAR.out.sg with e | e <;> omega
                  have HNB := Lib.hid hnb
                  have HX1 := Lib.hid (HM2.out.swap hki hqi)
                  have HX2 := Lib.hid (HM2.out.swap' hki hqi (by omega))
                  have HBX1 := Lib.hid ((HB2.out.setCell (p := ⟨oB, k, none⟩) HM2.out.oc.2 (.slice (some ⟨r (k + p), 0, none⟩) i (rc (k + p)))).setCell (p := ⟨oB, k + p, none⟩) HM2.out.oc.2 (.slice (some ⟨r k, 0, none⟩) i (rc k)))
                  have HBX2 := Lib.hid ((HB2.out.setCell (p := ⟨oB, k + p, none⟩) HM2.out.oc.2 (.slice (some ⟨r k, 0, none⟩) i (rc k))).setCell (p := ⟨oB, k, none⟩) HM2.out.oc.2 (.slice (some ⟨r (k + p), 0, none⟩) i (rc (k + p))))
                  have hsl : ∀ y, y < i → swM k (k + p) y < i := fun y hy => by unfold swM; split <;> (try split) <;> omega
                  have HRG2 : Hid (∀ y, y < i → r (swM k (k + p) y) < g) := Lib.hid fun y hy => HRG.out _ (hsl y hy)
                  have hgo : g ≠ oB := by have := HM2.out.lt.1; have h2 := HMX.out.lt.1; have := HGE.out; omega
                  have HGC1 : Hid (((W2.setCell ⟨oB, k, none⟩ (.slice (some ⟨r (k + p), 0, none⟩) i (rc (k + p)))).setCell ⟨oB, k + p, none⟩ (.slice (some ⟨r k, 0, none⟩) i (rc k))).cell? ⟨g, 0, none⟩ = some (.int .i64 (k : Nat))) := Lib.hid (by
                    rw [World.cell?_of_block ((Deep.blk_setCell_other _ _ _ _ hgo).trans (Deep.blk_setCell_other _ _ _ _ hgo))]; exact hgc)
                  have HGC2 : Hid (((W2.setCell ⟨oB, k + p, none⟩ (.slice (some ⟨r k, 0, none⟩) i (rc k))).setCell ⟨oB, k, none⟩ (.slice (some ⟨r (k + p), 0, none⟩) i (rc (k + p)))).cell? ⟨g, 0, none⟩ = some (.int .i64 (k : Nat))) := Lib.hid (by
                    rw [World.cell?_of_block ((Deep.blk_setCell_other _ _ _ _ hgo).trans (Deep.blk_setCell_other _ _ _ _ hgo))]; exact hgc)
                  have HBS : Hid (Bar (mtW R) 20 i k (fun y => F (swM k (k + p) y)) (-s) last) := Lib.hid (HBAR.out.swap hkq hqi fun _ _ _ _ _ => rfl)
                  have HPV : Hid (F (swM k (k + p) k) k ≠ 0) := Lib.hid (by rw [show swM k (k + p) k = k + p from if_pos rfl]; exact HPK.out)
                  clear hnb hsl
                  go_wp2_with fail
                  go_region
                  all_goals
                    go_wp2_with fail
                    go_meet
                    first
                      | exact ⟨-s, _, _, _, rfl, Lib.hid (HX1.out.below (Below.refl _ _).drew), Lib.hid HBX1.out.drew, HBS, HRG2, HGC1.out, HPV.out⟩
                      | exact ⟨-s, _, _, _, rfl, Lib.hid (HX2.out.below (Below.refl _ _).drew), Lib.hid HBX2.out.drew, HBS, HRG2, HGC2.out, HPV.out⟩
              case rest =>
                clear HMX HB HM2 HB2 HBAR HRG hgc HPK HW2 HGE
                obtain ⟨s, r, rc, F, rfl, HM2, HB2, HBAR, HRG, hgc, hpv⟩ := hcut
                have hs1 := HBAR.out.sg
                obtain ⟨M, hMd⟩ := HBAR.out.div hpv
                have HDIV := Lib.hid hMd
                have hlast := HBAR.out.last_bd (Nat.le_of_lt hki)
                have HSG := Lib.hid hs1
                have HPV := Lib.hid hpv
                clear hs1 hMd hpv
                have HM3 := Lib.hid (HM2.out.congr (G := mixB F M k (k + 1) (k + 1)) fun q _ t _ => mix_start F M k q t)
                go_wp2_with fail
                go_loopw [12] (fun s12 wr => ∃ y : Nat, k + 1 ≤ y ∧ y ≤ i ∧ s12 = .int .i64 (y : Nat) ∧ Hid (Mx wr w.heap.size oB sc i i r rc (mixB F M k y (k + 1))) ∧ Hid (Below w.heap.size w wr) ∧ wr.cell? ⟨g, 0, none⟩ = some (.int .i64 (k : Nat))) (fun s12 _ => i - (intOf s12).toNat)
                case atStart => exact ⟨k + 1, Nat.le_refl _, hki, by go_num, HM3, HB2, hgc⟩
                case round =>
                  clear HM2 HM3 HB2 hgc
                  obtain ⟨wy, rfl⟩ : ∃ wy : World, wy = wr := ⟨_, rfl⟩
                  obtain ⟨y, hy1, hyi, rfl, HMY, HBY, hgc⟩ := hrel
                  by_cases hy : y < i
                  · go_wp2_with fail
                    go_loopw [13] (fun s13 wr => ∃ z : Nat, k + 1 ≤ z ∧ z ≤ i ∧ s13 = .int .i64 (z : Nat) ∧ Hid (Mx wr w.heap.size oB sc i i r rc (mixB F M k y z)) ∧ Hid (Below w.heap.size w wr) ∧ wr.cell? ⟨g, 0, none⟩ = some (.int .i64 (k : Nat))) (fun s13 _ => i - (intOf s13).toNat)
                    case atStart => exact ⟨k + 1, Nat.le_refl _, hki, by go_num, HMY, HBY, hgc⟩
                    case round =>
                      clear HMY HBY hgc
                      obtain ⟨wz, rfl⟩ : ∃ wz : World, wz = wr := ⟨_, rfl⟩
                      obtain ⟨z, hz1, hzi, rfl, HMZ, HBZ, hgc⟩ := hrel
                      by_cases hz : z < i
                      · have c1 := (HMZ.out.outc hy).1
                        have c2 := (HMZ.out.outc hki).1
                        have v1 := (HMZ.out.cell hy hz).1
                        have v2 := (HMZ.out.cell hy hki).1
                        have v3 := (HMZ.out.cell hki hki).1
                        have v4 := (HMZ.out.cell hki hz).1
                        have fz := (HMZ.out.cell hy hz).2
                        rw [mix_old (by omega)] at v1 v2 v3 v4
                        have b1 := HBAR.out.bd (i := y) (j := z) (by omega) hy (by omega) hz
                        have b2 := HBAR.out.bd (i := y) (j := k) (by omega) hy (by omega) hki
                        have b3 := HBAR.out.bd (i := k) (j := k) (by omega) hki (by omega) hki
                        have b4 := HBAR.out.bd (i := k) (j := z) (by omega) hki (by omega) hz
                        have hbd := (bd20 (k + 1) (by omega)).1 (by omega)
                        have hdv := HDIV.out y (by omega) hy z (by omega) hz
                        have HMZd := HMZ.out.below (Below.refl wz.heap.size wz).drew
                        have HST := Lib.hid ((HMZd.set hy hz (M y z)).congr fun a _ b _ => mix_step (show k < y by omega) (show k < z by omega) (M y z) rfl a b)
                        have HGC : Hid ((wz.drew.setCell ⟨r y, z, none⟩ (.int .i64 (M y z))).cell? ⟨g, 0, none⟩ = some (.int .i64 (k : Nat))) := Lib.hid (by
                          rw [World.cell?_of_block (Deep.blk_setCell_other _ _ _ _ (show g ≠ r y by have := HRG.out y hy; omega))]; exact hgc)
                        have HBS := Lib.hid (HBZ.out.drew.setCell (p := ⟨r y, z, none⟩) (HMZ.out.row y hy).1 (.int .i64 (M y z)))
                        obtain ⟨x1, hx1⟩ : ∃ x, x = F y z := ⟨_, rfl⟩
                        obtain ⟨x2, hx2⟩ : ∃ x, x = F y k := ⟨_, rfl⟩
                        obtain ⟨x3, hx3⟩ : ∃ x, x = F k k := ⟨_, rfl⟩
                        obtain ⟨x4, hx4⟩ : ∃ x, x = F k z := ⟨_, rfl⟩
                        obtain ⟨mv, hmv⟩ : ∃ x, x = M y z := ⟨_, rfl⟩
                        rw [← hmv] at HST HGC HBS
                        rw [← hx1, ← hx2, ← hx3, ← hx4, ← hmv] at hdv
                        rw [← hx1] at v1 b1
                        rw [← hx2] at v2 b2
                        rw [← hx3] at v3 b3
                        rw [← hx4] at v4 b4
                        have q1 := mul_bd (x := x1) (y := x3) (a := 384000000) (b := 384000000) (by omega) (by omega)
                        have q2 := mul_bd (x := x2) (y := x4) (a := 384000000) (b := 384000000) (by omega) (by omega)
                        have q3 := wr_in (x := x1 * x3) (by omega)
                        have q4 := wr_in (x := x2 * x4) (by omega)
                        have q5 := wr_in (x := x1 * x3 - x2 * x4) (by omega)
                        have hmb : -300000000000000000 ≤ mv ∧ mv ≤ 300000000000000000 := by
                          have e1 : (last * mv).natAbs ≤ 300000000000000000 := by rw [← hdv]; omega
                          rw [Int.natAbs_mul] at e1
                          have e2 : 1 ≤ last.natAbs := by have := hlast.2; omega
                          have e3 := Nat.mul_le_mul_right mv.natAbs e2
                          omega
                        have q6 := wr_in (x := mv) (by omega)
                        have q7 : Int.tdiv (x1 * x3 - x2 * x4) last = mv := by rw [hdv]; exact Int.mul_tdiv_cancel_left _ hlast.2
                        obtain ⟨P1, hP1⟩ : ∃ x, x = x1 * x3 := ⟨_, rfl⟩
                        obtain ⟨P2, hP2⟩ : ∃ x, x = x2 * x4 := ⟨_, rfl⟩
                        obtain ⟨P3, hP3⟩ : ∃ x, x = x1 * x3 - x2 * x4 := ⟨_, rfl⟩
                        rw [← hP3] at q5 q7
                        have e3 : P1 - P2 = P3 := by rw [hP1, hP2, hP3]
                        have q8 := q5
                        rw [← e3] at q8
                        rw [e3] at q8
                        have q3a : IntKind.i64.wrap (x1 * x3) = P1 := by rw [hP1]; exact q3.1
                        have q4a : IntKind.i64.wrap (x2 * x4) = P2 := by rw [hP2]; exact q4.1
                        have q5a : IntKind.i64.wrap (P1 - P2) = P3 := by rw [e3]; exact q5.1
                        have q6a := q6.1
                        have hl2 := hlast.2
                        clear hP1 hP2 hP3 q3 q4 q5 q6 q8 e3 hdv hx1 hx2 hx3 hx4 hmv b1 b2 b3 b4 q1 q2 hbd
                        go_wp2_with fail
                        refine wp_still_tailD 39 (by kernel_rfl) (by kernel_rfl) ?_
                        simp only [List.take_succ_cons, List.take_zero, List.drop_succ_cons, List.drop_zero]
                        repeat still_step
                        refine wpStill_nil ?_
                        obtain ⟨wd, hwd⟩ : ∃ X, X = wz.drew := ⟨_, rfl⟩
                        have v1d : wz.drew.cell? ⟨r y, z, none⟩ = some (.int .i64 x1) := v1
                        have fzd : wz.drew.frozen? ⟨r y, z, none⟩ = false := fz
                        rw [← hwd] at HST HGC HBS v1d fzd
                        rw [← hwd]
                        clear hwd v1 v2 v3 v4 c1 c2 fz HMZd HMZ hgc q3a q4a q5a q6a q7
                        go_wp2_with fail
                        go_roundw
                        case rel => exact ⟨z + 1, by omega, by omega, by go_num, HST, HBS, HGC.out⟩
                        case measure => simp [intOf]; omega
                      · obtain rfl : z = i := by omega
                        have HMR := Lib.hid (HMZ.out.congr fun a _ b hb => mix_row hb (show k < y by omega))
                        go_wp2_with fail
                        go_roundw
                        case rel => exact ⟨y + 1, by omega, by omega, by go_num, HMR, HBZ, hgc⟩
                        case measure => simp [intOf]; omega
                  · obtain rfl : y = i := by omega
                    have c2 := (HMY.out.outc hki).1
                    have v3 := (HMY.out.cell hki hki).1
                    rw [mix_old (by omega)] at v3
                    have HBN := Lib.hid (HBAR.out.next hki HPV.out (a2 := mixB F M k y (k + 1)) fun a ha hai b hb hbi => by rw [HDIV.out a ha hai b hb hbi]; unfold mixB; rw [if_pos (by omega)])
                    obtain ⟨x3, hx3⟩ : ∃ x, x = F k k := ⟨_, rfl⟩
                    rw [← hx3] at v3 HBN
                    clear hx3
                    go_wp2_with fail
                    go_quiet (fail)
                    go_wp2_with fail
                    go_roundw
                    case rel => exact ⟨k + 1, s, x3, r, rc, _, by omega, rfl, rfl, by go_num, Lib.hid (HMY.out.below (below_drewN (Below.refl _ _) nq)), Lib.hid (below_drewN HBY.out nq), HBN⟩
                    case measure => simp [intOf]; omega
          · obtain rfl : k = i := by omega
            have HEE : Hid (E = s * last) := Lib.hid (by rw [HE.out]; exact HBAR.out.done)
            have hlb := (HBAR.out.last_bd (Nat.le_refl _)).1
            have hbd := (bd20 k n6).2
            have hsl : -46080000000 ≤ s * last ∧ s * last ≤ 46080000000 := by rcases HBAR.out.sg with e | e <;> rw [e] <;> omega
            have hw := (wr_in (x := s * last) (by omega)).2
            have hw2 := (wr_in (x := s * last) (by omega)).1
            clear hlb hbd hsl
            go_wp2_with fail
            go_ret2
            exact ⟨by rw [HEE.out]; rfl, HB.out⟩
  · go_enter Try.func14, Try.ntmps14
    go_wp2_with fail
    refine (wrongP_any A n c R w H.out HN.out).mono ?_
    rintro e w1 ⟨rfl, hb1⟩
    have HB1 := Lib.hid hb1
    rw [← HX.out]
    have HE : Hid ((if x = 0 then dt (-1) n (mtW R) else 0) = 0) := Lib.hid (if_neg hx0)
    clear hb1 hx
    go_wp2_with fail
    go_ret2
    exact ⟨rfl, HB1.out⟩
end Go.Proofs.Ytenlnkcmabphfaa
