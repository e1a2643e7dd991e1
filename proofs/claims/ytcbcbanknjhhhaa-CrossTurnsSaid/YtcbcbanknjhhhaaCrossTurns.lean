/- The walk of CrossTurns. Conditions: the arguments read as told. -/
import Derived.Test.YtcbcbanknjhhhaaCrossAll
import Derived.Test.YtcbcbanknjhhhaaTapeCan
import Derived.Test.YtcbcbanknjhhhaaTapeOpen
namespace Go.Proofs.Ytcbcbanknjhhhaa
open Go.ChangeShapes Go.WideShapes Go.ChangeAt Go.RowKit
set_option linter.unusedVariables false
def smL (L : Nat → List Int) : Nat → Nat
  | 0 => 0
  | b + 1 => smL L b + (L b).length
theorem smL_congr {L L' : Nat → List Int} {m : Nat} (h : ∀ q, q < m → L q = L' q) : smL L m = smL L' m := by
  induction m with
  | zero => rfl
  | succ m ih => show smL L m + _ = smL L' m + _; rw [ih fun q hq => h q (by omega), h m (by omega)]
theorem smL_up (L : Nat → List Int) (k : Nat) (x : List Int) {m : Nat} (hx : x.length = (L k).length + 1) : smL (upL L k x) m ≤ smL L m + 1 := by
  by_cases hk : k < m
  · induction m with
    | zero => omega
    | succ m ih =>
      show smL (upL L k x) m + (upL L k x m).length ≤ smL L m + (L m).length + 1
      by_cases e : k = m
      · subst e
        rw [smL_congr (L' := L) (fun q hq => upL_other _ _ (by omega)), upL_same, hx]; omega
      · rw [upL_other _ _ (by omega)]
        have := ih (by omega); omega
  · rw [smL_congr (L' := L) (fun q hq => upL_other _ _ (by omega))]; omega
theorem smL_crU (m : Nat) (L : Nat → List Int) (fr to st : Int) : smL (crU m L fr to st) m ≤ smL L m + 1 := by
  by_cases h : fr ≠ to ∧ 0 ≤ (if fr < to then to else fr) ∧ (if fr < to then to else fr) < m
  · obtain ⟨h1, h2, h3⟩ := h
    obtain ⟨k, hk⟩ := Int.eq_ofNat_of_zero_le h2
    rw [crU_up (k := k) (by omega) h1 hk]
    exact smL_up L k _ (by simp)
  · rw [crU_stay h]; omega
theorem smL_crs (m : Nat) (T : Nat → Nat → Int) (c : Cf) : ∀ d, smL (crs m T c d) m ≤ d := by
  intro d
  induction d with
  | zero =>
    have : ∀ k, smL (crs m T c 0) k = 0 := by
      intro k
      induction k with
      | zero => rfl
      | succ k ih => show smL (crs m T c 0) k + 0 = 0; rw [ih]
    rw [this]; omega
  | succ d ih => exact Nat.le_trans (smL_crU m (crs m T c d) _ _ _) (Nat.succ_le_succ ih)
theorem smL_le (L : Nat → List Int) {b m : Nat} (h : b ≤ m) : smL L b ≤ smL L m := by
  induction m with
  | zero => rw [show b = 0 by omega]; exact Nat.le_refl _
  | succ m ih =>
    by_cases e : b = m + 1
    · subst e; exact Nat.le_refl _
    · exact Nat.le_trans (ih (by omega)) (Nat.le_add_right _ _)
/-- a border is gone over as often, by twos, as the head's side tells -/
theorem crs_odd {n y B m : Nat} {T : Nat → Nat → Int} {c : Cf} (g : Gt n y T) (hc : Gc n y B c) (h0 : c.h = 0) {b : Nat} (hb : b < m) : ∀ d, (∀ j, j < d → (itC T j c).s < n) →
    (((crs m T c d b).length : Int) - (if (b : Int) ≤ (itC T d c).h then 1 else 0) - (if (b : Int) ≤ 0 then 1 else 0)) % 2 = 0 := by
  intro d
  induction d with
  | zero =>
    intro _
    show (((0 : Nat) : Int) - (if (b : Int) ≤ c.h then 1 else 0) - (if (b : Int) ≤ 0 then 1 else 0)) % 2 = 0
    rw [h0]
    split <;> decide
  | succ d ih =>
    intro hj
    have i1 := ih fun j hj' => hj j (by omega)
    have gc := hc.it g d fun j hj' => hj j (by omega)
    obtain ⟨_, r1, _⟩ := gc.rule g (hj d (by omega))
    have hh : (itC T (d + 1) c).h = (itC T d c).h + ruM T (itC T d c) := rfl
    show (((crU m (crs m T c d) (itC T d c).h (itC T (d + 1) c).h (itC T (d + 1) c).s b).length : Int) - _ - _) % 2 = 0
    rw [hh]
    generalize ruM T (itC T d c) = mv at r1
    generalize (itC T d c).h = h at i1
    unfold crU
    generalize ((itC T (d + 1) c).s : Int) = st
    by_cases hcr : h ≠ h + mv ∧ (if h < h + mv then h + mv else h) = (b : Int) ∧ b < m
    · rw [if_pos hcr, List.length_append]
      obtain ⟨a1, a2, _⟩ := hcr
      have a3 : (h = b - 1 ∧ mv = 1) ∨ (h = b ∧ mv = -1) := by
        split at a2 <;> omega
      have e1 : (([st] : List Int).length : Int) = 1 := rfl
      rcases a3 with ⟨a4, a5⟩ | ⟨a4, a5⟩
      · rw [if_neg (by omega)] at i1
        rw [if_pos (by omega)]
        generalize (if (b : Int) ≤ 0 then (1 : Int) else 0) = z at i1 ⊢
        simp only [List.length_singleton]
        omega
      · rw [if_pos (by omega)] at i1
        rw [if_neg (by omega)]
        generalize (if (b : Int) ≤ 0 then (1 : Int) else 0) = z at i1 ⊢
        simp only [List.length_singleton]
        omega
    · rw [if_neg hcr]
      have a3 : ((b : Int) ≤ h ↔ (b : Int) ≤ h + mv) := by
        by_cases e : mv = 0
        · omega
        · have a2 : (if h < h + mv then h + mv else h) ≠ (b : Int) := fun a2 => hcr ⟨by omega, a2, hb⟩
          split at a2 <;> omega
      by_cases e : (b : Int) ≤ h
      · rw [if_pos e] at i1
        rw [if_pos (a3.1 e)]; exact i1
      · rw [if_neg e] at i1
        rw [if_neg (fun h => e (a3.2 h))]; exact i1
theorem crs_par {n y B m : Nat} {T : Nat → Nat → Int} {c : Cf} (g : Gt n y T) (hc : Gc n y B c) (h0 : c.h = 0) {b d : Nat} (hb : b < m) (hj : ∀ j, j < d → (itC T j c).s < n) :
    (b ≠ 0 → (((crs m T c d b).length : Int) % 2 = 1 ↔ (b : Int) ≤ (itC T d c).h)) ∧ (b = 0 → (((crs m T c d b).length : Int) % 2 = 1 ↔ ¬ (b : Int) ≤ (itC T d c).h)) := by
  have h := crs_odd g hc h0 hb d hj
  constructor
  · intro hb0
    rw [if_neg (show ¬ (b : Int) ≤ 0 by omega)] at h
    split at h <;> omega
  · intro hb0
    rw [if_pos (show (b : Int) ≤ 0 by omega)] at h
    split at h <;> omega
set_option maxRecDepth 100000 in
set_option maxHeartbeats 4000000 in
theorem crossTurns.walk (w : World) (S Y : Int) (T : Option Addr) (n tc : Nat) (R : Nat → SI) (A : Option Addr) (k c : Nat) (g : Nat → Int) (steps : Int)
    (wS : (Lit.int .i64 S).wf = true) (wY : (Lit.int .i64 Y).wf = true) (gT : Tm w T n R) (wT : ∀ i, (R i).wide) (l : n ≤ tc) (m : tc ≤ maxLen)
    (hA : Rd w A k (fun i => .int .i64 (g i))) (wg : ∀ i, (Lit.int .i64 (g i)).wf = true) (lk : k ≤ c) (mk : c ≤ maxLen) (zk : c * 8 ≤ 140737488351232) (w4 : (Lit.int .i64 steps).wf = true) :
    Calls Try.prog 3 #[.agg #[.int .i64 S, .int .i64 Y, .slice T n tc], .slice A k c, .int .i64 steps] w fun e w' => e = .returned (.bool true) ∧ Below w.heap.size w w' := by
  have hn : n ≤ maxLen := by omega
  have hk : k ≤ maxLen := by omega
  have HT := Lib.hid gT
  have HA := Lib.hid hA
  have WS := Lib.hid wS
  have HN := Lib.hid hn
  have HK := Lib.hid hk
  clear gT hA wS wY wT wg w4 lk mk hn hk l m zk
  go_enter Try.func3, Try.ntmps3
  go_wp2_with fail
  have hm := mc_new w 24 S Y (.slice T n tc)
  have hB1 := (Below.refl w.heap.size w).alloc (Nat.le_refl _) (.cells #[.int .i64 S, .int .i64 Y, .slice T n tc] 24)
  obtain ⟨W1, hW1⟩ : ∃ X, X = w.alloc (.cells #[.int .i64 S, .int .i64 Y, .slice T n tc] 24) := ⟨_, rfl⟩
  have sW : W1.heap.size = w.heap.size + 1 := by rw [hW1]; simp
  rw [← hW1] at hm hB1 ⊢
  clear hW1
  have HB1 := Lib.hid hB1
  clear hB1
  by_cases hE : rcE S Y n R k g steps = 0
  · obtain ⟨p1, p2, p3, ⟨p4, p5⟩⟩ := rcE_parts S Y steps n k R g hE
    obtain ⟨y, hmk⟩ := tpE_mok p1
    obtain ⟨rfl, rfl, n1', n5, y2', y4', hrow, hgt⟩ := hmk
    obtain ⟨sn, rfl⟩ := Int.eq_ofNat_of_zero_le p4
    have HE := Lib.hid hE
    have HGC := Lib.hid (show Gc n y 8 (begin0 g k) from laid_gc (n := n) (y := y) (B := 8) (s := 0) (h := 0) (first := 0) p3 (by omega) (by omega) (by omega) (by omega) (by omega))
    have HGT := Lib.hid hgt
    clear hE p1 p3 hrow hgt
    refine (all_good n y sn T A n tc k c R g _ (HT.out.below HB1.out) HN.out (HA.out.below HB1.out) HE.out).mono ?_
    rintro e w2 ⟨⟨d, pp, G, Ar, cr, rfl, hdn, hCr⟩, hb2⟩
    rw [Int.toNat_natCast] at hdn
    have s2 := hb2.size
    have hm2 := row_below hm hb2 (by omega)
    have HDN := Lib.hid hdn
    have HCR2 := Lib.hid hCr
    have HM2 := Lib.hid hm2
    have HB2 := Lib.hid (HB1.out.trans (hb2.mono HB1.out.size))
    obtain ⟨z0, x0, x1, x2⟩ := mc_open hm2
    clear hm hm2 hb2 hdn hCr
    go_wp2_with fail
    clear x0 x1 x2
    refine (runs_good n y sn T A n tc k c R g _ (HT.out.below HB2.out) HN.out (HA.out.below HB2.out) HE.out).mono ?_
    rintro e w3 ⟨⟨v, d', rfl, hdn', lo, hi, N, A3, c3, hsp, hN, rfl, hown⟩, hb3⟩
    rw [Int.toNat_natCast] at hdn'
    obtain rfl := hdn'.uniq HDN.out
    obtain ⟨C, hC⟩ : ∃ C, C = itC (TR R) d' (begin0 g k) := ⟨_, rfl⟩
    rw [← hC] at hsp hown ⊢
    have hgc := HGC.out.it HGT.out d' hdn'.2.1
    rw [← hC] at hgc
    have hdle := hdn'.1
    have HC := Lib.hid hC
    obtain ⟨Xf, Xs, Xh⟩ := C
    obtain ⟨xh0, xh1⟩ : -((8 + d' : Nat) : Int) ≤ Xh ∧ Xh ≤ ((8 + d' : Nat) : Int) := hgc.2.2.1
    have s3 := hb3.size
    have hm3 := row_below HM2.out hb3 (by omega)
    have HCR3 := Lib.hid (HCR2.out.below hb3)
    have HB3 := Lib.hid (HB2.out.trans (hb3.mono HB2.out.size))
    obtain ⟨z1, x0, x1, x2⟩ := mc_open hm3
    clear hb3 hdn' hsp hown hgc hC HM2 HCR2 z0
    have HB4 := Lib.hid (HB3.out.alloc (by omega) (.cells #[.int .i64 Xs, .int .i64 Xh, .int .i64 lo, .slice A3 N c3] 31))
    have HM4 := Lib.hid (nw_new w3 31 Xs Xh lo (.slice A3 N c3) rfl)
    have HCR4 := Lib.hid (HCR3.out.alloc (.cells #[.int .i64 Xs, .int .i64 Xh, .int .i64 lo, .slice A3 N c3] 31))
    go_wp2_with fail
    clear x0 x1 x2
    obtain ⟨W4, hW4⟩ : ∃ X, X = w3.alloc (.cells #[.int .i64 Xs, .int .i64 Xh, .int .i64 lo, .slice A3 N c3] 31) := ⟨_, rfl⟩
    have sW4 : W4.heap.size = w3.heap.size + 1 := by rw [hW4]; simp
    rw [← hW4] at HB4 HM4 HCR4 ⊢
    obtain ⟨q, hq⟩ : ∃ q, q = w3.heap.size := ⟨_, rfl⟩
    rw [← hq] at HM4 sW4 ⊢
    clear hW4 hq hm3
    refine (can_yes n y sn T A n tc k c R g _ (HT.out.below HB4.out) HN.out (HA.out.below HB4.out) HK.out WS.out HE.out).mono ?_
    rintro e w5 ⟨rfl, hb5⟩
    have s5 := hb5.size
    have HM5 := Lib.hid (row_below HM4.out hb5 (by omega))
    have HCR5 := Lib.hid (HCR4.out.below hb5)
    have HB5 := Lib.hid (HB4.out.trans (hb5.mono HB4.out.size))
    obtain ⟨z2, ⟨y0, y1, y2, y3⟩, -⟩ := nw_open HM5.out
    obtain ⟨M, hM⟩ : ∃ M : Nat, M = k + 1 := ⟨_, rfl⟩
    rw [← hM] at HCR5 ⊢
    have hM' : (k : Int) + 1 = (M : Int) := by omega
    have hMb : M ≤ 9 := by omega
    have HPAR : Hid (∀ b, b < M → (b ≠ 0 → (((crs M (TR R) (begin0 g k) d' b).length : Int) % 2 = 1 ↔ (b : Int) ≤ Xh)) ∧ (b = 0 → (((crs M (TR R) (begin0 g k) d' b).length : Int) % 2 = 1 ↔ ¬ (b : Int) ≤ Xh))) := Lib.hid fun b hb => by
      have := crs_par (m := M) HGT.out HGC.out rfl hb HDN.out.2.1
      rw [← HC.out] at this
      exact this
    have HSUM := Lib.hid (smL_crs M (TR R) (begin0 g k) d')
    have HLEN : Hid (∀ b, (crs M (TR R) (begin0 g k) d' b).length ≤ 60) := Lib.hid fun b => Nat.le_trans (crs_len _ _ _ b d') (by omega)
    obtain ⟨L, hL⟩ : ∃ L, L = crs M (TR R) (begin0 g k) d' := ⟨_, rfl⟩
    rw [← hL] at HCR5 HPAR HSUM HLEN
    clear hb5 HCR3 HCR4 HM4 hL hM z1
    go_wp2_with fail
    go_loop [12, 13] (fun s12 s13 => ∃ b : Nat, b ≤ M ∧ s13 = .int .i64 b ∧ s12 = .int .i64 (smL L b : Nat)) (fun _ s13 => M - (intOf s13).toNat)
    case atStart => exact ⟨0, Nat.zero_le _, rfl, rfl⟩
    case round =>
      obtain ⟨b, hb, rfl, rfl⟩ := hrel
      have hsb := Nat.le_trans (smL_le L hb) HSUM.out
      obtain ⟨sm, hsm⟩ : ∃ sm, sm = smL L b := ⟨_, rfl⟩
      rw [← hsm] at hsb ⊢
      have HSM := Lib.hid hsm
      clear hsm
      by_cases hlt : b < M
      · have hrc := HCR5.out.row.cell hlt
        have hln := HLEN.out b
        have hpar := HPAR.out b hlt
        obtain ⟨ln, hlnn⟩ : ∃ ln, ln = (L b).length := ⟨_, rfl⟩
        have hnx : smL L (b + 1) = sm + ln := by rw [hlnn, HSM.out]; rfl
        rw [← hlnn] at hrc hln hpar
        obtain ⟨Ab, hAb⟩ : ∃ a, a = Ar b := ⟨_, rfl⟩
        obtain ⟨cb, hcb⟩ : ∃ a, a = cr b := ⟨_, rfl⟩
        rw [← hAb, ← hcb] at hrc
        have HNX := Lib.hid hnx
        have hGl := HCR5.out.row.lt
        have hM2 := hM'
        by_cases hx : (b : Int) ≤ Xh
        · by_cases hb0 : b = 0
          · have ho : (((ln : Int) % 2) == 1) = false := by rw [beq_eq_false_iff_ne]; intro h; have h3 := (hpar.2 hb0).1 h; omega
            have hb0' : ((b : Int) == 0) = true := by rw [hb0]; rfl
            have hb0'' : ¬ (0 : Int) < b := by omega
            clear hnx hlnn hAb hcb hpar hb0
            go_wp2_with fail
            go_round
            case rel => exact ⟨b + 1, by omega, by go_num, by rw [HNX.out]; go_num⟩
            case measure => simp [intOf]; omega
          · have ho : (((ln : Int) % 2) == 1) = true := by rw [beq_iff_eq]; exact (hpar.1 hb0).2 hx
            have hb0' : ((b : Int) == 0) = false := by rw [beq_eq_false_iff_ne]; omega
            have hb0'' : (0 : Int) < b := by omega
            clear hnx hlnn hAb hcb hpar hb0
            go_wp2_with fail
            go_round
            case rel => exact ⟨b + 1, by omega, by go_num, by rw [HNX.out]; go_num⟩
            case measure => simp [intOf]; omega
        · by_cases hb0 : b = 0
          · have ho : (((ln : Int) % 2) == 1) = true := by rw [beq_iff_eq]; exact (hpar.2 hb0).2 (by omega)
            have hb0' : ((b : Int) == 0) = true := by rw [hb0]; rfl
            have hb0'' : ¬ (0 : Int) < b := by omega
            clear hnx hlnn hAb hcb hpar hb0
            go_wp2_with fail
            go_round
            case rel => exact ⟨b + 1, by omega, by go_num, by rw [HNX.out]; go_num⟩
            case measure => simp [intOf]; omega
          · have ho : (((ln : Int) % 2) == 1) = false := by rw [beq_eq_false_iff_ne]; intro h; exact hx ((hpar.1 hb0).1 h)
            have hb0' : ((b : Int) == 0) = false := by rw [beq_eq_false_iff_ne]; omega
            have hb0'' : (0 : Int) < b := by omega
            clear hnx hlnn hAb hcb hpar hb0
            go_wp2_with fail
            go_round
            case rel => exact ⟨b + 1, by omega, by go_num, by rw [HNX.out]; go_num⟩
            case measure => simp [intOf]; omega
      · obtain rfl : b = M := by omega
        have hfin : decide ((sm : Int) ≤ (d' : Int)) = true := by rw [decide_eq_true_eq]; omega
        have hfin2 : decide (sm ≤ d') = true := by rw [decide_eq_true_eq]; omega
        go_wp2_with fail
        go_ret
        exact ⟨rfl, HB5.out⟩
  · refine (all_bad S Y steps T A n tc k c R g _ (HT.out.below HB1.out) HN.out (HA.out.below HB1.out) HK.out hE).mono ?_
    rintro e w2 ⟨rfl, hb2⟩
    have s2 := hb2.size
    have hm2 := row_below hm hb2 (by omega)
    have HM2 := Lib.hid hm2
    have HB2 := Lib.hid (HB1.out.trans (hb2.mono HB1.out.size))
    obtain ⟨z0, x0, x1, x2⟩ := mc_open hm2
    clear hm hb2 hm2
    go_wp2_with fail
    refine (runs_bad S Y steps T A n tc k c R g _ (HT.out.below HB2.out) HN.out (HA.out.below HB2.out) HK.out hE).mono ?_
    rintro e w3 ⟨rfl, hb3⟩
    have s3 := hb3.size
    have hm3 := row_below HM2.out hb3 (by omega)
    have HB3 := Lib.hid (HB2.out.trans (hb3.mono HB2.out.size))
    clear x0 x1 x2
    obtain ⟨z1, x0, x1, x2⟩ := mc_open hm3
    clear hb3 hm3 HM2
    obtain ⟨E, hEe⟩ : ∃ E, E = rcE S Y n R k g steps := ⟨_, rfl⟩
    have HE := Lib.hid hE
    rw [← hEe] at hE ⊢
    have hq : (E != 0) = true := by rw [bne_iff_ne]; exact hE
    clear hEe
    unfold zeroN
    have HB4 := Lib.hid (HB3.out.alloc (by omega) (.cells #[.int .i64 0, .int .i64 0, .int .i64 0, .slice none 0 0] 31))
    go_wp2_with fail
    refine (can_no S Y steps T A n tc k c R g _ (HT.out.below HB4.out) HN.out (HA.out.below HB4.out) HK.out WS.out HE.out).mono ?_
    rintro e w5 ⟨rfl, hb5⟩
    have HB5 := Lib.hid (HB4.out.trans (hb5.mono HB4.out.size))
    clear hb5
    go_wp2_with fail
    go_ret
    exact ⟨rfl, HB5.out⟩
end Go.Proofs.Ytcbcbanknjhhhaa
