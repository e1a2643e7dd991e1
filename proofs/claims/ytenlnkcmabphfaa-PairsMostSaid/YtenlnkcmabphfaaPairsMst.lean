/- pairs.Most: the greatest choice of a square. Condition: the rows read as told. -/
import Derived.Test.YtenlnkcmabphfaaPairsFns
import Derived.Test.YtenlnkcmabphfaaOnes64
import Derived.Test.YtenlnkcmabphfaaHeldMore
import Derived.BigRegion
import Derived.IntWalk
import Derived.BigQuiet
import Derived.Test.YtenlnkcmabphfaaRow
namespace Go.Proofs.Ytenlnkcmabphfaa
open Go.ChangeShapes Go.WideShapes Go.ChangeAt Go.RowKit
set_option linter.unusedVariables false
set_option linter.unusedSimpArgs false
def mtP (R : Nat → SI) (i j : Nat) : Int := (R i).f j
theorem make_intsP (K : Nat) (hK : K ≤ 1000) (W : World) : (Instr.makeSlice 24 (.int .i64 (K : Int)) (.int .i64 (K : Int))).run Try.prog W = .ok (.slice (some ⟨W.heap.size, 0, none⟩) K K) (W.alloc (.cells (madeCells #[.int .i64 0] K) 3)) :=
  run_make_row' 24 3 (.int .i64 0) 8 Try.underlying24 (by kernel_rfl) rfl .i64 .i64 K (by omega) (by omega) W
/-- the numbers while the sets below s are told, and of s those till j -/
def bcP (M : Nat → Nat → Int) (n s : Nat) (z : Int) (i : Nat) : Value := .int .i64 (if i < s then bst M n i else if i = s then z else 0)
theorem bcP_start (M : Nat → Nat → Int) (n i : Nat) : Value.int .i64 0 = bcP M n 1 0 i := by
  unfold bcP
  split
  · rename_i h; rw [show i = 0 by omega, bst_zero]
  · split <;> rfl
theorem bcP_set (M : Nat → Nat → Int) (n s : Nat) (z z' : Int) (i : Nat) : (if i = s then Value.int .i64 z' else bcP M n s z i) = bcP M n s z' i := by
  unfold bcP
  by_cases e : i = s
  · rw [if_pos e, if_neg (by omega), if_pos e]
  · rw [if_neg e]; simp only [if_neg e]
theorem andn_P : ∀ s : Nat, s < 64 → ∀ j : Nat, j < 6 → bits .andNot .i64 (s : Int) (wrap64 (2 ^ j)) = (clP s j : Int) := by decide +kernel
theorem bit_P : ∀ s : Nat, s < 64 → ∀ j : Nat, j < 6 → bits .and .i64 ((s : Int) / 2 ^ j) 1 = if btP s j = true then 1 else 0 := by decide +kernel
theorem bcP_next {M : Nat → Nat → Int} {n s : Nat} {z : Int} (h : bst M n s = z) (i : Nat) : bcP M n s z i = bcP M n (s + 1) 0 i := by
  unfold bcP
  by_cases e : i = s
  · subst e; rw [if_neg (by omega), if_pos rfl, if_pos (by omega), h]
  · by_cases l : i < s
    · rw [if_pos l, if_pos (by omega)]
    · rw [if_neg l, if_neg e, if_neg (by omega)]; split <;> rfl
set_option maxRecDepth 100000 in
set_option maxHeartbeats 4000000 in
theorem most_any (A : Option Addr) (n c : Nat) (R : Nat → SI) (w : World) (h : GrP w A n R) (hn : n ≤ maxLen) :
    Calls Try.prog 7 #[.slice A n c] w fun e w' => ((pwE n R ≠ 0 ∧ e = .returned (.tuple #[.int .i64 0, .slice none 0 0, .int .i64 (pwE n R)])) ∨ (pwE n R = 0 ∧ ∃ L lc, e = .returned (.tuple #[.int .i64 (bst (mtP R) n (2 ^ n - 1)), .slice L n lc, .int .i64 0]) ∧ Rd w' L n (fun i => .int .i64 ((lP (mtP R) n i : Nat) : Int)) ∧ n ≤ lc)) ∧ Below w.heap.size w w' := by
  have H := Lib.hid h
  have HN := Lib.hid hn
  obtain ⟨x, hx⟩ : ∃ x, x = pwE n R := ⟨_, rfl⟩
  have HX := Lib.hid hx
  rw [← hx]
  clear h hn
  by_cases hx0 : x = 0
  · obtain ⟨hn6, hlen, hval⟩ := pwE_zero (by rw [← hx]; exact hx0)
    have HLEN := Lib.hid hlen
    have hM : InP (mtP R) n := fun i hi j hj => hval i hi j hj
    have HM := Lib.hid hM
    clear hlen hval hM hx
    obtain ⟨n1, n6⟩ := hn6
    subst hx0
    obtain ⟨rB, rO, rfl, hAlt, _⟩ := H.out.1.at_ (show 0 < n by omega)
    go_enter Try.func7, Try.ntmps7
    go_wp2_with fail
    refine (wrongP_any _ n c R w H.out HN.out).mono ?_
    rintro e w1 ⟨rfl, hb1⟩
    rw [← HX.out]
    have HB1 := Lib.hid hb1
    clear hb1
    have hN64 := (full_bt n n6).2.2.1
    have hN1 := (full_bt n n6).2.2.2
    have hpm : wrap64 (2 ^ n) = ((2 ^ n : Nat) : Int) := by rw [IntWalk.wrap64_in _ (by rw [show (2 : Int) ^ n = ((2 ^ n : Nat) : Int) from (Int.natCast_pow 2 n).symm]; omega)]; exact (Int.natCast_pow 2 n).symm
    obtain ⟨N, hN⟩ : ∃ N, N = 2 ^ n := ⟨_, rfl⟩
    rw [← hN] at hpm hN64 hN1
    have HPM := Lib.hid hpm
    have HNN := Lib.hid hN
    have hmk := make_intsP N (by omega) w1
    clear hpm hN
    have wn1 : IntKind.i64.wrap (-(n : Int)) = -(n : Int) := IntWalk.i64_in _ (by omega)
    have wn2 : IntKind.i64.wrap (-(n : Int) * 20) = -(n : Int) * 20 := IntWalk.i64_in _ (by omega)
    go_wp2_with fail
    rw [HPM.out]
    rw [hmk]
    clear hmk
    obtain ⟨b0, hb0⟩ : ∃ b0, b0 = w1.heap.size := ⟨_, rfl⟩
    obtain ⟨W2, hW2⟩ : ∃ W2, W2 = w1.alloc (.cells (madeCells #[.int .i64 0] N) 3) := ⟨_, rfl⟩
    have hrow0 : W2.rowIs b0 3 N (bcP (mtP R) n 1 0) := by rw [hb0, hW2]; exact (World.rowIs_made w1 (.int .i64 0) N 3).congr fun i hi => bcP_start _ _ _
    have hba : Below b0 w1 W2 := by rw [hW2, hb0]; exact (Below.refl _ _).alloc (Nat.le_refl _) _
    rw [← hb0, ← hW2]
    have HR0 := Lib.hid hrow0
    have HBA := Lib.hid hba
    have HB0 := Lib.hid hb0
    have hwb : w.heap.size ≤ b0 := by rw [hb0]; exact HB1.out.size
    clear hrow0 hb0 hba hW2
    go_wp2_with fail
    go_loopw [8] (fun s8 wr => ∃ s : Nat, 1 ≤ s ∧ s ≤ N ∧ s8 = .int .i64 (s : Nat) ∧ Hid (wr.rowIs b0 3 N (bcP (mtP R) n s 0)) ∧ Hid (Below b0 w1 wr)) (fun s8 _ => N - (intOf s8).toNat)
    case atStart => exact ⟨1, Nat.le_refl _, hN1, rfl, HR0, HBA⟩
    case round =>
      obtain ⟨wo, rfl⟩ : ∃ wo : World, wo = wr := ⟨_, rfl⟩
      obtain ⟨s, hs1, hsN, rfl, HRW, HB⟩ := hrel
      by_cases hs : s < N
      · have q1 : decide ((s : Int) < wrap64 (2 ^ n)) = true := decide_eq_true (by rw [HPM.out]; omega)
        have wu : IntKind.u64.wrap (s : Int) = (s : Int) := IntWalk.u64_in _ (by omega)
        go_wp2_with fail
        refine (onesP_any s (by omega) wo).mono ?_
        rintro e w3 ⟨rfl, rfl⟩
        obtain ⟨hcn, hex⟩ := bt_some n n6 s (by rw [← HNN.out]; exact hs)
        have hcp := cn_pos s (by omega) (by omega)
        obtain ⟨r0, hr0⟩ : ∃ r0, r0 = n - cnP s := ⟨_, rfl⟩
        have wsub : IntKind.i64.wrap ((n : Int) - (cnP s : Nat)) = (r0 : Int) := by rw [show (n : Int) - (cnP s : Nat) = (r0 : Int) by omega]; exact IntWalk.i64_in _ (by omega)
        have hr0n : r0 < n := by omega
        have HR0' := Lib.hid hr0
        have HEX := Lib.hid hex
        obtain ⟨hcell, hfz⟩ : wo.cell? ⟨b0, s, none⟩ = some (.int .i64 0) ∧ wo.frozen? ⟨b0, s, none⟩ = false := ⟨by have := HRW.out.cell (i := s) hs; rw [this]; unfold bcP; rw [if_neg (by omega), if_pos rfl], HRW.out.frozen s⟩
        have hg := (H.out.below (HB1.out.trans (HB.out.mono hwb))).2 r0 hr0n
        have hAc : wo.cell? ⟨rB, rO + r0, none⟩ = some (R r0).val := by
          obtain ⟨b', o', e, _, hc⟩ := (H.out.below (HB1.out.trans (HB.out.mono hwb))).1.at_ hr0n
          cases e; exact hc
        have HLR := HLEN.out r0 hr0n
        obtain ⟨y, hy⟩ : ∃ y, y = R r0 := ⟨_, rfl⟩
        rw [← hy] at hg hAc HLR
        have HY := Lib.hid hy
        obtain ⟨yA, yn, yc, yf⟩ := y
        obtain rfl : yn = n := HLR
        have hb0l : b0 < wo.heap.size := HRW.out.lt
        have hgw := H.out.2 r0 hr0n
        rw [← HY.out] at hgw
        obtain ⟨yb, yo, rfl, hyb, _⟩ := hgw.1.at_ (show 0 < yn by omega)
        have hcl : ∀ X : World, Below b0 w1 X → Rd X (some ⟨yb, yo, none⟩) yn (fun i => .int .i64 (yf i)) ∧ X.cell? ⟨rB, rO + r0, none⟩ = some (.slice (some ⟨yb, yo, none⟩) yn yc) := fun X hX => by
          have hb := HB1.out.trans (hX.mono hwb)
          refine ⟨hgw.1.below hb, ?_⟩
          obtain ⟨b', o', e, _, hc⟩ := (H.out.below hb).1.at_ hr0n
          cases e
          rw [hc, ← HY.out]; rfl
        have HCL := Lib.hid hcl
        clear hgw hcl
        clear hex hr0 hcn hy hg
        go_wp2_with fail
        obtain ⟨Wx, hWx⟩ : ∃ W, W = wo.setCell ⟨b0, s, none⟩ (.int .i64 (-(yn : Int) * 20)) := ⟨_, rfl⟩
        have hrx : Wx.rowIs b0 3 N (bcP (mtP R) yn s (mxP (btP s) (cand (mtP R) yn s) (-(yn : Int) * 20) 0)) := by rw [hWx]; exact (HRW.out.set s _).congr fun i _ => bcP_set _ _ _ _ _ _
        have hbx : Below b0 w1 Wx := by rw [hWx]; exact HB.out.setCell (Nat.le_refl _) _
        have HRX := Lib.hid hrx
        have HBX := Lib.hid hbx
        rw [← hWx]
        clear hWx hrx hbx hcell hfz hAc
        go_loopw [43] (fun s43 wr => ∃ j : Nat, j ≤ yn ∧ s43 = .int .i64 (j : Nat) ∧ Hid (wr.rowIs b0 3 N (bcP (mtP R) yn s (mxP (btP s) (cand (mtP R) yn s) (-(yn : Int) * 20) j))) ∧ Hid (Below b0 w1 wr)) (fun s43 _ => yn - (intOf s43).toNat)
        case atStart => exact ⟨0, Nat.zero_le _, rfl, HRX, HBX⟩
        case round =>
          obtain ⟨wi, rfl⟩ : ∃ wi : World, wi = wr := ⟨_, rfl⟩
          obtain ⟨j, hj, rfl, HRI, HBI⟩ := hrel
          by_cases hjn : j < yn
          · have hs64 : s < 64 := by omega
            have hbit := bit_P s hs64 j (by omega)
            obtain ⟨z, hz⟩ : ∃ z, z = mxP (btP s) (cand (mtP R) yn s) (-(yn : Int) * 20) j := ⟨_, rfl⟩
            rw [← hz] at HRI
            have HZ := Lib.hid hz
            clear hz
            cases hb : btP s j with
            | false =>
              rw [hb, if_neg (by decide)] at hbit
              have HB' := Lib.hid hb
              clear hb
              go_wp2_with fail
              go_roundw
              case rel => exact ⟨j + 1, by omega, by go_num, Lib.hid (by simp only [mxP]; rw [if_neg (by rw [HB'.out]; decide), ← HZ.out]; exact HRI.out), HBI⟩
              case measure => simp [intOf]; omega
            | true =>
              rw [hb, if_pos rfl] at hbit
              obtain ⟨hc1, hc2⟩ := cl_cn s hs64 j (by omega) hb
              have han := andn_P s hs64 j (by omega)
              obtain ⟨t, ht⟩ : ∃ t, t = clP s j := ⟨_, rfl⟩
              rw [← ht] at han hc2 hc1
              have hcb := cand_bd (M := mtP R) n6 HM.out (s := s) (by rw [← HNN.out]; exact hs) hjn hb
              have htn : t < N := by omega
              obtain ⟨hrd, hca⟩ := HCL.out wi HBI.out
              have hcm : wi.cell? ⟨yb, yo + j, none⟩ = some (.int .i64 (yf j)) := by
                obtain ⟨b', o', e, _, hc⟩ := hrd.at_ hjn
                cases e; exact hc
              have hcs : wi.cell? ⟨b0, s, none⟩ = some (.int .i64 z) := by rw [HRI.out.cell hs]; unfold bcP; rw [if_neg (by omega), if_pos rfl]
              have hct : wi.cell? ⟨b0, t, none⟩ = some (.int .i64 (bst (mtP R) yn t)) := by rw [HRI.out.cell htn]; unfold bcP; rw [if_pos hc2]
              have hfs := HRI.out.frozen s
              have hce : cand (mtP R) yn s j = yf j + bst (mtP R) yn t := by unfold cand mtP; rw [← HR0'.out, ← HY.out, ht]
              obtain ⟨m, hm⟩ : ∃ m, m = yf j := ⟨_, rfl⟩
              obtain ⟨bt, hbt⟩ : ∃ bt, bt = bst (mtP R) yn t := ⟨_, rfl⟩
              rw [← hm] at hcm hce
              rw [← hbt] at hct hce
              rw [hce] at hcb
              have wadd : IntKind.i64.wrap (m + bt) = m + bt := IntWalk.i64_in _ (by omega)
              have HB' := Lib.hid hb
              have HCE := Lib.hid hce
              clear hb hce hrd ht hm hbt hc1
              go_wp2_with fail
              go_region
              have hr2 : (wi.setCell ⟨b0, s, none⟩ (.int .i64 (max z (m + bt)))).drew.rowIs b0 3 N (bcP (mtP R) yn s (max z (m + bt))) := (HRI.out.set s _).congr fun i _ => bcP_set _ _ _ _ _ _
              have HR2 := Lib.hid hr2
              have HB2 : Hid (Below b0 w1 (wi.setCell ⟨b0, s, none⟩ (.int .i64 (max z (m + bt)))).drew) := Lib.hid (HBI.out.setCell (Nat.le_refl _) _).drew
              clear hr2
              go_wp2_with fail
              go_roundw
              case rel => exact ⟨j + 1, by omega, by go_num, Lib.hid (by simp only [mxP]; rw [if_pos HB'.out, ← HZ.out, HCE.out]; exact HR2.out), HB2⟩
              case measure => simp [intOf]; omega
          · obtain rfl : j = yn := by omega
            go_wp2_with fail
            go_roundw
            case rel => exact ⟨s + 1, by omega, hs, by go_num, Lib.hid (HRI.out.congr fun i _ => bcP_next (bst_mx (mtP R) n6 (by omega) (by omega)) i), HBI⟩
            case measure => simp [intOf]; omega
      · obtain rfl : N = s := by omega
        have q1 : decide ((N : Int) < wrap64 (2 ^ n)) = false := decide_eq_false (by rw [HPM.out]; omega)
        have hwf : wrap64 (wrap64 (2 ^ n) - 1) = ((gP (mtP R) n 0 : Nat) : Int) := by
          rw [HPM.out, IntWalk.wrap64_in _ (by omega)]
          show (N : Int) - 1 = ((2 ^ n - 1 : Nat) : Int)
          rw [← HNN.out]; omega
        have HWF := Lib.hid hwf
        have hlast : wrap64 (wrap64 (2 ^ n) - 1) = ((N - 1 : Nat) : Int) := by rw [HPM.out, IntWalk.wrap64_in _ (by omega)]; omega
        have HLAST := Lib.hid hlast
        clear hwf hlast
        have hcl : ∀ X : World, Below wo.heap.size wo X → GrP X (some ⟨rB, rO, none⟩) n R ∧ X.rowIs b0 3 N (bcP (mtP R) n N 0) := fun X hX => by
          have hlt := HRW.out.lt
          have hsz := HB.out.size
          have hw1 := HB1.out.size
          exact ⟨H.out.below (HB1.out.trans ((HB.out.trans (hX.mono (by omega))).mono hwb)), HRW.out.of_block (hX.block b0 hlt)⟩
        have HCL := Lib.hid hcl
        have hwo : w.heap.size ≤ wo.heap.size := by have := HB.out.size; have := HB1.out.size; omega
        clear hcl
        go_wp2_with fail
        rw [HWF.out]
        go_loopw [11, 12, 79] (fun s11 s12 s79 wr => ∃ (r : Nat) (L : Option Addr) (lc : Nat), r ≤ n ∧ s79 = .int .i64 (r : Nat) ∧ s12 = .int .i64 ((gP (mtP R) n r : Nat) : Int) ∧ s11 = .slice L r lc ∧ Hid (Own wr wo.heap.size 3 1 L r lc r (fun q => .int .i64 ((lP (mtP R) n q : Nat) : Int))) ∧ Hid (Below wo.heap.size wo wr)) (fun _ _ s79 _ => n - (intOf s79).toNat)
        case atStart => exact ⟨0, none, 0, Nat.zero_le _, rfl, rfl, rfl, Lib.hid (Own.nil _ _ _ _ _), Lib.hid (Below.refl _ _)⟩
        case round =>
          obtain ⟨wp, rfl⟩ : ∃ wp : World, wp = wr := ⟨_, rfl⟩
          obtain ⟨r, L, lc, hr, rfl, rfl, rfl, HO, HP⟩ := hrel
          by_cases hrn : r < n
          · obtain ⟨h1, _⟩ := lP_ok n6 HM.out (r := r) (by omega)
            obtain ⟨a1, a2, _⟩ := rm_ok n6 h1 (by omega)
            rw [← gP_rm] at a1 a2
            have hgnz : gP (mtP R) n r ≠ 0 := fun e => by rw [e, show cnP 0 = 0 from rfl] at a2; omega
            obtain ⟨k1, k2, k3⟩ := pk_ok n6 HM.out a1 hgnz
            have hgr : gP (mtP R) n (r + 1) = clP (gP (mtP R) n r) (lP (mtP R) n r) := rfl
            have hlr : lP (mtP R) n r = pkP (mtP R) n (gP (mtP R) n r) := rfl
            obtain ⟨g, hg⟩ : ∃ g, g = gP (mtP R) n r := ⟨_, rfl⟩
            rw [← hg] at a1 a2 k1 k2 k3 hgr hlr ⊢
            have hgN : g < N := by rw [HNN.out]; exact a1
            have HG := Lib.hid hg
            have HK : Hid (pkP (mtP R) n g < n ∧ btP g (pkP (mtP R) n g) = true ∧ bst (mtP R) n g = cand (mtP R) n g (pkP (mtP R) n g)) := Lib.hid ⟨k1, k2, k3⟩
            have HA1 := Lib.hid a1
            have HA2 := Lib.hid a2
            have HGR := Lib.hid hgr
            have HLR := Lib.hid hlr
            clear h1 hgnz k1 k2 k3 hg a1 a2 hgr hlr
            go_wp2_with fail
            go_loopw [11, 12, 83] (fun s11 s12 s83 wr => ∃ (j : Nat), j ≤ n ∧ s83 = .int .i64 (j : Nat) ∧ s11 = .slice L r lc ∧ s12 = .int .i64 ((g : Nat) : Int) ∧ Hid (∀ i, i < j → tsP (mtP R) n g i = false) ∧ Hid (Own wr wo.heap.size 3 1 L r lc r (fun q => .int .i64 ((lP (mtP R) n q : Nat) : Int))) ∧ Hid (Below wo.heap.size wo wr)) (fun _ _ s83 _ => n - (intOf s83).toNat)
            case atStart => exact ⟨0, Nat.zero_le _, rfl, rfl, rfl, Lib.hid (fun i h => absurd h (Nat.not_lt_zero _)), HO, HP⟩
            case round =>
              clear HO HP
              obtain ⟨wq, rfl⟩ : ∃ wq : World, wq = wr := ⟨_, rfl⟩
              obtain ⟨j, hj, rfl, rfl, rfl, HNO, HO, HP⟩ := hrel
              by_cases hjn : j < n
              · have hbit := bit_P g (by omega) j (by omega)
                have hj0 : ¬ ((j : Nat) : Int) < 0 := by omega
                have hj0' : (0 : Int) ≤ ((j : Nat) : Int) := by omega
                cases hb : btP g j with
                | false =>
                  rw [hb, if_neg (by decide)] at hbit
                  have HB' := Lib.hid hb
                  clear hb
                  go_wp2_with fail
                  go_quiet (fail)
                  go_wp2_with fail
                  go_roundw
                  case rel => exact ⟨j + 1, by omega, by go_num, rfl, rfl, Lib.hid (fun i hi => by
                    by_cases e : i = j
                    · subst e; unfold tsP; rw [HB'.out]; rfl
                    · exact HNO.out i (by omega)), Lib.hid (HO.out.drewN nq), Lib.hid (below_drewN HP.out nq)⟩
                  case measure => simp [intOf]; omega
                | true =>
                  rw [hb, if_pos rfl] at hbit
                  obtain ⟨hc1, hc2⟩ := cl_cn g (by omega) j (by omega) hb
                  have han := andn_P g (by omega) j (by omega)
                  have hcb := cand_bd (M := mtP R) n6 HM.out HA1.out hjn hb
                  obtain ⟨hgr, hrow⟩ := HCL.out wq HP.out
                  have hgood := hgr.2 r hrn
                  have hln := HLEN.out r hrn
                  have hca : wq.cell? ⟨rB, rO + r, none⟩ = some (R r).val := by
                    obtain ⟨b', o', e, _, hc⟩ := hgr.1.at_ hrn
                    cases e; exact hc
                  have hce : cand (mtP R) n g j = (R r).f j + bst (mtP R) n (clP g j) := by unfold cand mtP; rw [show n - cnP g = r by have := HA2.out; omega]
                  have hts : tsP (mtP R) n g j = (bst (mtP R) n g == cand (mtP R) n g j) := by unfold tsP; rw [hb, Bool.true_and]
                  obtain ⟨t, ht⟩ : ∃ t, t = clP g j := ⟨_, rfl⟩
                  rw [← ht] at han hc2 hc1 hce
                  have htN : t < N := by omega
                  have hcg : wq.cell? ⟨b0, g, none⟩ = some (.int .i64 (bst (mtP R) n g)) := by rw [hrow.cell hgN]; unfold bcP; rw [if_pos hgN]
                  have hct : wq.cell? ⟨b0, t, none⟩ = some (.int .i64 (bst (mtP R) n t)) := by rw [hrow.cell htN]; unfold bcP; rw [if_pos htN]
                  obtain ⟨y, hy⟩ : ∃ y, y = R r := ⟨_, rfl⟩
                  rw [← hy] at hgood hca hln hce
                  obtain ⟨yA, yn, yc, yf⟩ := y
                  have hln' : yn = n := hln
                  obtain ⟨yb, yo, hyA, hyb, hcm⟩ := hgood.1.at_ (show j < yn by omega)
                  have hyA' : yA = some ⟨yb, yo, none⟩ := hyA
                  subst hyA'
                  have hca' : wq.cell? ⟨rB, rO + r, none⟩ = some (.slice (some ⟨yb, yo, none⟩) n yc) := by rw [← hln']; exact hca
                  have hcm' : wq.cell? ⟨yb, yo + j, none⟩ = some (.int .i64 (yf j)) := hcm
                  have hce' : cand (mtP R) n g j = yf j + bst (mtP R) n t := hce
                  obtain ⟨m, hm⟩ : ∃ m, m = yf j := ⟨_, rfl⟩
                  obtain ⟨bt, hbt⟩ : ∃ bt, bt = bst (mtP R) n t := ⟨_, rfl⟩
                  obtain ⟨bg, hbg⟩ : ∃ bg, bg = bst (mtP R) n g := ⟨_, rfl⟩
                  rw [← hm] at hcm' hce'
                  rw [← hbt] at hct hce'
                  rw [← hbg] at hcg hts
                  rw [hce'] at hcb hts
                  have wadd : IntKind.i64.wrap (m + bt) = m + bt := IntWalk.i64_in _ (by omega)
                  have HB' := Lib.hid hb
                  have HT := Lib.hid ht
                  have hgg : ((g : Nat) : Int) < N := by omega
                  have hbrn : (r : Int) < n := by omega
                  clear hb ht hce hce' hm hbt hbg hc1 hgood hca hln hln' hcm hy hyA hgr hrow
                  by_cases heq : bg = m + bt
                  · have qe : (bg == m + bt) = true := by rw [heq]; simp
                    rw [qe] at hts
                    have hpk : pkP (mtP R) n g = j := fsP_at (Nat.zero_le _) (by omega) (fun i _ hi => HNO.out i hi) hts
                    have HPK := Lib.hid hpk
                    have HEQ := Lib.hid heq
                    clear hts hpk heq
                    go_wp2_with fail
                    go_quiet (fail)
                    go_wp2_with (at_builtin; refine wpList_app _ rfl (.tmp 113) (.tmp 115) 24 rfl EIg rfl ((HO.out.drewN nq).alloc _) rfl (l := 1) (by omega) (Rd.one _ (.int .i64 ((j : Nat) : Int)) _) (fun _ _ => rfl) (by unfold maxLen; omega) (by omega) (by have := HP.out.size; simp; omega) (r + 1) (r + 1) rfl rfl ?_; intro A2 c2 w3 hown2 hg2 hat2 hbl2; have HOW := Lib.hid hown2; have HB3 := Lib.hid (((below_drewN HP.out nq).alloc (by have := HP.out.size; simpa using this) (.cells #[.int .i64 ((j : Nat) : Int)] 3)).trans hbl2); clear hown2 hg2 hat2 hbl2)
                    go_roundw
                    case rel => exact ⟨r + 1, A2, c2, by omega, by go_num, by rw [HGR.out, HLR.out, HPK.out, HT.out], rfl, Lib.hid (HOW.out.congr fun q hq => by
                      rcases Nat.lt_or_ge q r with h | h
                      · rw [cat_lt h]
                      · obtain rfl : q = r := by omega
                        rw [cat_ge (Nat.le_refl _), HLR.out, HPK.out]), HB3⟩
                    case measure => simp [intOf]; omega
                  · have qe : (bg == m + bt) = false := by rw [beq_eq_false_iff_ne]; exact heq
                    rw [qe] at hts
                    have HTS := Lib.hid hts
                    have HEQ := Lib.hid heq
                    clear hts heq
                    go_wp2_with fail
                    go_quiet (fail)
                    go_wp2_with fail
                    go_roundw
                    case rel => exact ⟨j + 1, by omega, by go_num, rfl, rfl, Lib.hid (fun i hi => by
                      by_cases e : i = j
                      · subst e; exact HTS.out
                      · exact HNO.out i (by omega)), Lib.hid (HO.out.drewN nq), Lib.hid (below_drewN HP.out nq)⟩
                    case measure => simp [intOf]; omega
              · exfalso
                obtain ⟨k1, k2, k3⟩ := HK.out
                have := HNO.out (pkP (mtP R) n g) (by omega)
                unfold tsP at this
                rw [k2, k3] at this
                simp at this
          · obtain rfl : n = r := by omega
            have hcn : wp.cell? ⟨b0, N - 1, none⟩ = some (.int .i64 (bst (mtP R) n (N - 1))) := by rw [(HCL.out wp HP.out).2.cell (show N - 1 < N by omega)]; unfold bcP; rw [if_pos (by omega)]
            have hNI : ((N - 1 : Nat) : Int) < (N : Int) := by omega
            go_wp2_with (rw [HLAST.out])
            go_ret3
            refine ⟨.inr ⟨by first | trivial | rfl, L, lc, by rw [← HNN.out]; rfl, HO.out.rd, HO.out.le.1⟩, HB1.out.trans ((HB.out.trans (HP.out.mono ?_)).mono hwb)⟩
            exact Nat.le_of_lt HRW.out.lt
  · have q1 : (x != 0) = true := by rw [bne_iff_ne]; exact hx0
    have HX0 := Lib.hid hx0
    clear hx hx0
    go_enter Try.func7, Try.ntmps7
    go_wp2_with fail
    refine (wrongP_any A n c R w H.out HN.out).mono ?_
    rintro e w1 ⟨rfl, hb1⟩
    rw [← HX.out]
    have HB1 := Lib.hid hb1
    clear hb1
    go_wp2_with fail
    go_ret3
    exact ⟨.inl ⟨HX0.out, rfl⟩, HB1.out⟩
end Go.Proofs.Ytenlnkcmabphfaa
