/- The walk of CrossPaste. Conditions: the arguments read as told. -/
import Derived.Test.YtcbcbanknjhhhaaCrossPasteH
import Derived.Test.YtcbcbanknjhhhaaHeldMore
namespace Go.Proofs.Ytcbcbanknjhhhaa
open Go.ChangeShapes Go.WideShapes Go.ChangeAt Go.RowKit
set_option linter.unusedVariables false
set_option linter.unusedSimpArgs false
set_option maxRecDepth 100000 in
set_option maxHeartbeats 200000000 in
theorem crossPaste.goodN (w : World) (S Y : Int) (T : Option Addr) (n tc : Nat) (R : Nat → SI) (A : Option Addr) (ka ca : Nat) (ga : Nat → Int) (B : Option Addr) (kb cb : Nat) (gb : Nat → Int) (i1 i2 : Int)
    (wS : (Lit.int .i64 S).wf = true) (gT : Tm w T n R) (hn : n ≤ maxLen) (hA : Rd w A ka (fun i => .int .i64 (ga i))) (hkc : ka ≤ ca) (hcm : ca ≤ maxLen) (hB : Rd w B kb (fun i => .int .i64 (gb i))) (hkcb : kb ≤ cb) (hcbm : cb ≤ maxLen) (hz : ¬ i2 % ((kb : Int) + 1) = (cb : Int)) (hE : rcE S Y n R ka ga 60 = 0) (hF : rcE S Y n R kb gb 60 = 0) (v1 : 0 ≤ i1 ∧ i1 ≤ 255) (v2 : 0 ≤ i2 ∧ i2 ≤ 255) :
    Calls Try.prog 4 #[.agg #[.int .i64 S, .int .i64 Y, .slice T n tc], .slice A ka ca, .slice B kb cb, .int .u8 i1, .int .u8 i2] w fun e w' => e = .returned (.bool true) ∧ Below w.heap.size w w' := by
  obtain ⟨v10, v11⟩ := v1
  obtain ⟨v20, v21⟩ := v2
  obtain ⟨p1, p2, p3, -⟩ := rcE_parts S Y 60 n ka R ga hE
  obtain ⟨-, p5, p6, -⟩ := rcE_parts S Y 60 n kb R gb hF
  obtain ⟨y, hmk⟩ := tpE_mok p1
  obtain ⟨rfl, rfl, n1', n5, y2', y4', hrow, hgt⟩ := hmk
  have HE := Lib.hid hE
  have HF := Lib.hid hF
  have HGA := Lib.hid (show Gc n y 8 (begin0 ga ka) from laid_gc (n := n) (y := y) (B := 8) (s := 0) (h := 0) (first := 0) p3 (by omega) (by omega) (by omega) (by omega) (by omega))
  have HGB := Lib.hid (show Gc n y 8 (begin0 gb kb) from laid_gc (n := n) (y := y) (B := 8) (s := 0) (h := 0) (first := 0) p6 (by omega) (by omega) (by omega) (by omega) (by omega))
  have HGT := Lib.hid hgt
  have P1 := Lib.hid p1
  have P3 := Lib.hid p3
  have P6 := Lib.hid p6
  have HT := Lib.hid gT
  have HA := Lib.hid hA
  have HB := Lib.hid hB
  have WS := Lib.hid wS
  have HN := Lib.hid hn
  have HKA : Hid (ka ≤ maxLen) := Lib.hid (by unfold maxLen; omega)
  have HKB : Hid (kb ≤ maxLen) := Lib.hid (by unfold maxLen; omega)
  unfold maxLen at hcm hcbm
  clear gT hA hB wS hn hE hF p1 p3 p6 hrow hgt
  go_enter Try.func4, Try.ntmps4
  go_wp2_with fail
  have hm := mc_new w 24 n y (.slice T n tc)
  have hB1 := (Below.refl w.heap.size w).alloc (Nat.le_refl _) (.cells #[.int .i64 n, .int .i64 y, .slice T n tc] 24)
  obtain ⟨W1, hW1⟩ : ∃ X, X = w.alloc (.cells #[.int .i64 n, .int .i64 y, .slice T n tc] 24) := ⟨_, rfl⟩
  have sW : W1.heap.size = w.heap.size + 1 := by rw [hW1]; simp
  rw [← hW1] at hm hB1 ⊢
  clear hW1
  have HB1 := Lib.hid hB1
  clear hB1
  refine (all_good n y 60 T A n tc ka ca R ga _ (HT.out.below HB1.out) HN.out (HA.out.below HB1.out) HE.out).mono ?_
  rintro e w2 ⟨⟨da, pa, Ga, Aa, xa, rfl, hda, hCa⟩, hb2⟩
  rw [show (60 : Int).toNat = 60 from rfl] at hda
  have HDA := Lib.hid hda
  have s2 := hb2.size
  have HM2 := Lib.hid (row_below hm hb2 (by omega))
  have HB2 := Lib.hid (HB1.out.trans (hb2.mono HB1.out.size))
  have HCA2 := Lib.hid hCa
  obtain ⟨z0, x0, x1, x2⟩ := mc_open HM2.out
  clear hm hb2 hCa hda
  go_wp2_with fail
  clear x0 x1 x2
  refine (all_good n y 60 T B n tc kb cb R gb _ (HT.out.below HB2.out) HN.out (HB.out.below HB2.out) HF.out).mono ?_
  rintro e w3 ⟨⟨db, pb, Gb, Ab, xb, rfl, hdb, hCb⟩, hb3⟩
  rw [show (60 : Int).toNat = 60 from rfl] at hdb
  have HDB := Lib.hid hdb
  have s3 := hb3.size
  have HM3 := Lib.hid (row_below HM2.out hb3 (by omega))
  have HB3 := Lib.hid (HB2.out.trans (hb3.mono HB2.out.size))
  have HCA3 := Lib.hid (HCA2.out.below hb3)
  have HCB3 := Lib.hid hCb
  obtain ⟨z1, x0, x1, x2⟩ := mc_open HM3.out
  clear hb3 HM2 HCA2 hCb hdb
  go_wp2_with fail
  clear x0 x1 x2
  refine (runs_good n y 60 T A n tc ka ca R ga _ (HT.out.below HB3.out) HN.out (HA.out.below HB3.out) HE.out).mono ?_
  rintro e w4 ⟨⟨v, d4, rfl, hd4, lo, hi, N, A4, c4, hsp, hN, rfl, hown⟩, hb4⟩
  rw [show (60 : Int).toNat = 60 from rfl] at hd4
  obtain rfl := hd4.uniq HDA.out
  obtain ⟨C, hC⟩ : ∃ C, C = itC (TR R) d4 (begin0 ga ka) := ⟨_, rfl⟩
  have hgc := HGA.out.it HGT.out d4 hd4.2.1
  rw [← hC] at hsp hown hgc ⊢
  have hbd := hsp.bound hgc
  have hd60 := hd4.1
  have HC := Lib.hid hC
  obtain ⟨Xf, Xs, Xh⟩ := C
  obtain ⟨xh0, xh1⟩ : -((8 + d4 : Nat) : Int) ≤ Xh ∧ Xh ≤ ((8 + d4 : Nat) : Int) := hgc.2.2.1
  obtain ⟨lb0, lb1⟩ : -((8 + d4 : Nat) : Int) ≤ lo ∧ hi ≤ ((8 + d4 : Nat) : Int) := hbd
  have hloh : lo ≤ hi := by have := hsp.1; omega
  have HSP := Lib.hid hsp
  have HOW4 := Lib.hid hown.rd
  have s4 := hb4.size
  have HM4 := Lib.hid (row_below HM3.out hb4 (by omega))
  have HB4 := Lib.hid (HB3.out.trans (hb4.mono HB3.out.size))
  have HCA4 := Lib.hid (HCA3.out.below hb4)
  have HCB4 := Lib.hid (HCB3.out.below hb4)
  obtain ⟨z2, x0, x1, x2⟩ := mc_open HM4.out
  have HB5 := Lib.hid (HB4.out.alloc (by omega) (.cells #[.int .i64 Xs, .int .i64 Xh, .int .i64 lo, .slice A4 N c4] 31))
  have HM5 := Lib.hid (HM4.out.alloc (.cells #[.int .i64 Xs, .int .i64 Xh, .int .i64 lo, .slice A4 N c4] 31))
  have HV5 := Lib.hid (nw_new w4 31 Xs Xh lo (.slice A4 N c4) rfl)
  have HCA5 := Lib.hid (HCA4.out.alloc (.cells #[.int .i64 Xs, .int .i64 Xh, .int .i64 lo, .slice A4 N c4] 31))
  have HCB5 := Lib.hid (HCB4.out.alloc (.cells #[.int .i64 Xs, .int .i64 Xh, .int .i64 lo, .slice A4 N c4] 31))
  have HOW5 := Lib.hid (HOW4.out.alloc (.cells #[.int .i64 Xs, .int .i64 Xh, .int .i64 lo, .slice A4 N c4] 31))
  clear hb4 HM3 HCA3 HCB3 hsp hown hgc hC hd4
  go_wp2_with fail
  clear x0 x1 x2
  obtain ⟨W5, hW5⟩ : ∃ X, X = w4.alloc (.cells #[.int .i64 Xs, .int .i64 Xh, .int .i64 lo, .slice A4 N c4] 31) := ⟨_, rfl⟩
  have sW5 : W5.heap.size = w4.heap.size + 1 := by rw [hW5]; simp
  rw [← hW5] at HB5 HM5 HV5 HCA5 HCB5 HOW5 ⊢
  obtain ⟨q1, hq1⟩ : ∃ q, q = w4.heap.size := ⟨_, rfl⟩
  rw [← hq1] at HV5 sW5 ⊢
  clear hW5 hq1 HM4 HCA4 HCB4 HOW4 HB4
  refine (runs_good n y 60 T B n tc kb cb R gb _ (HT.out.below HB5.out) HN.out (HB.out.below HB5.out) HF.out).mono ?_
  rintro e w6 ⟨⟨v, d6, rfl, hd6, lo6, hi6, N6, A6, c6, hsp6, hN6, rfl, hown6⟩, hb6⟩
  rw [show (60 : Int).toNat = 60 from rfl] at hd6
  obtain rfl := hd6.uniq HDB.out
  obtain ⟨C6, hC6⟩ : ∃ C, C = itC (TR R) d6 (begin0 gb kb) := ⟨_, rfl⟩
  have hgc6 := HGB.out.it HGT.out d6 hd6.2.1
  rw [← hC6] at hgc6 ⊢
  have hd60' := hd6.1
  have HC6 := Lib.hid hC6
  obtain ⟨Zf, Zs, Zh⟩ := C6
  obtain ⟨zh0, zh1⟩ : -((8 + d6 : Nat) : Int) ≤ Zh ∧ Zh ≤ ((8 + d6 : Nat) : Int) := hgc6.2.2.1
  have s6 := hb6.size
  have HM6 := Lib.hid (row_below HM5.out hb6 HM5.out.lt)
  have HV6 := Lib.hid (row_below HV5.out hb6 HV5.out.lt)
  have HB6 := Lib.hid (HB5.out.trans (hb6.mono HB5.out.size))
  have HCA6 := Lib.hid (HCA5.out.below hb6)
  have HCB6 := Lib.hid (HCB5.out.below hb6)
  have HOW6 := Lib.hid (HOW5.out.below hb6)
  obtain ⟨z3, x0, x1, x2⟩ := mc_open HM6.out
  have HB7 := Lib.hid (HB6.out.alloc (by omega) (.cells #[.int .i64 Zs, .int .i64 Zh, .int .i64 lo6, .slice A6 N6 c6] 31))
  have HM7 := Lib.hid (HM6.out.alloc (.cells #[.int .i64 Zs, .int .i64 Zh, .int .i64 lo6, .slice A6 N6 c6] 31))
  have HV7 := Lib.hid (HV6.out.alloc (.cells #[.int .i64 Zs, .int .i64 Zh, .int .i64 lo6, .slice A6 N6 c6] 31))
  have HZ7 := Lib.hid (nw_new w6 31 Zs Zh lo6 (.slice A6 N6 c6) rfl)
  have HCA7 := Lib.hid (HCA6.out.alloc (.cells #[.int .i64 Zs, .int .i64 Zh, .int .i64 lo6, .slice A6 N6 c6] 31))
  have HCB7 := Lib.hid (HCB6.out.alloc (.cells #[.int .i64 Zs, .int .i64 Zh, .int .i64 lo6, .slice A6 N6 c6] 31))
  have HOW7 := Lib.hid (HOW6.out.alloc (.cells #[.int .i64 Zs, .int .i64 Zh, .int .i64 lo6, .slice A6 N6 c6] 31))
  clear hb6 HM5 HV5 HCA5 HCB5 HOW5 HB5 hsp6 hown6 hgc6 hC6 hd6
  go_wp2_with fail
  clear x0 x1 x2
  obtain ⟨W7, hW7⟩ : ∃ X, X = w6.alloc (.cells #[.int .i64 Zs, .int .i64 Zh, .int .i64 lo6, .slice A6 N6 c6] 31) := ⟨_, rfl⟩
  have sW7 : W7.heap.size = w6.heap.size + 1 := by rw [hW7]; simp
  rw [← hW7] at HB7 HM7 HV7 HZ7 HCA7 HCB7 HOW7 ⊢
  obtain ⟨q2, hq2⟩ : ∃ q, q = w6.heap.size := ⟨_, rfl⟩
  rw [← hq2] at HZ7 sW7 ⊢
  clear hW7 hq2 HM6 HV6 HCA6 HCB6 HOW6 HB6
  refine (can_yes n y 60 T A n tc ka ca R ga _ (HT.out.below HB7.out) HN.out (HA.out.below HB7.out) HKA.out WS.out HE.out).mono ?_
  rintro e w8 ⟨rfl, hb8⟩
  have s8 := hb8.size
  have HM8 := Lib.hid (row_below HM7.out hb8 HM7.out.lt)
  have HB8 := Lib.hid (HB7.out.trans (hb8.mono HB7.out.size))
  obtain ⟨z4, x0, x1, x2⟩ := mc_open HM8.out
  go_wp2_with fail
  clear x0 x1 x2
  refine (can_yes n y 60 T B n tc kb cb R gb _ (HT.out.below HB8.out) HN.out (HB.out.below HB8.out) HKB.out WS.out HF.out).mono ?_
  rintro e w9 ⟨rfl, hb9⟩
  have hb79 := hb8.trans (hb9.mono s8)
  have s9 := hb79.size
  have HM9 := Lib.hid (row_below HM7.out hb79 HM7.out.lt)
  have HV9 := Lib.hid (row_below HV7.out hb79 HV7.out.lt)
  have HZ9 := Lib.hid (row_below HZ7.out hb79 HZ7.out.lt)
  have HCA9 := Lib.hid (HCA7.out.below hb79)
  have HCB9 := Lib.hid (HCB7.out.below hb79)
  have HOW9 := Lib.hid (HOW7.out.below hb79)
  have HB9 := Lib.hid (HB7.out.trans (hb79.mono HB7.out.size))
  obtain ⟨Ma, hMa⟩ : ∃ M : Nat, M = ka + 1 := ⟨_, rfl⟩
  obtain ⟨Mb, hMb⟩ : ∃ M : Nat, M = kb + 1 := ⟨_, rfl⟩
  rw [← hMa] at HCA9 ⊢
  rw [← hMb] at HCB9 ⊢
  have hMa' : (ka : Int) + 1 = (Ma : Int) := by omega
  have hMb' : (kb : Int) + 1 = (Mb : Int) := by omega
  have hMa1 : 0 < Ma ∧ Ma ≤ 9 := by omega
  have hMb1 : 0 < Mb ∧ Mb ≤ 9 := by omega
  obtain ⟨ma0, ma1⟩ := hMa1
  obtain ⟨mb0, mb1⟩ := hMb1
  have HMA := Lib.hid hMa
  have HMB := Lib.hid hMb
  obtain ⟨p, hp⟩ : ∃ p : Nat, i1 % (Ma : Int) = (p : Int) := ⟨(i1 % (Ma : Int)).toNat, by have := Int.emod_nonneg i1 (show (Ma : Int) ≠ 0 by omega); omega⟩
  obtain ⟨q, hq⟩ : ∃ p : Nat, i2 % (Mb : Int) = (p : Int) := ⟨(i2 % (Mb : Int)).toNat, by have := Int.emod_nonneg i2 (show (Mb : Int) ≠ 0 by omega); omega⟩
  have hpa : p ≤ ka := by have := Int.emod_lt_of_pos i1 (show 0 < (Ma : Int) by omega); omega
  have hqb : q ≤ kb := by have := Int.emod_lt_of_pos i2 (show 0 < (Mb : Int) by omega); omega
  have HCQ := Lib.hid (show ¬ cb = q by intro h; apply hz; have h1 : (kb : Int) + 1 = (Mb : Int) := (by omega); rw [h1, hq]; omega)
  clear hz
  clear hMa hMb hb8 hb9 hb79 HM7 HV7 HZ7 HCA7 HCB7 HOW7 HB7 HM8 HB8
  obtain ⟨z5, x0, x1, x2⟩ := mc_open HM9.out
  obtain ⟨z6, ⟨a0, a1, a2, a3⟩, -⟩ := nw_open HV9.out
  obtain ⟨z7, ⟨b0, b1, b2, b3⟩, -⟩ := nw_open HZ9.out
  go_wp2_with fail
  by_cases t1 : Xs < n
  · as_aux_lemma =>
      go_region
      all_goals
        as_aux_lemma =>
          go_wp2_with fail
          go_ret
          exact ⟨rfl, by first | exact HB9.out | exact HB9.out.drew⟩
  · as_aux_lemma =>
      by_cases t2 : Zs < n
      · as_aux_lemma =>
          go_region
          all_goals
            as_aux_lemma =>
              go_wp2_with fail
              go_ret
              exact ⟨rfl, by first | exact HB9.out | exact HB9.out.drew⟩
      · as_aux_lemma =>
          by_cases t3 : p = 0
          · as_aux_lemma =>
              have e3 : ((p : Int) == 0) = true := by rw [t3]; rfl
              clear t3
              go_region
              all_goals
                as_aux_lemma =>
                  go_wp2_with fail
                  go_ret
                  exact ⟨rfl, by first | exact HB9.out | exact HB9.out.drew⟩
          · as_aux_lemma =>
              have e3 : ((p : Int) == 0) = false := by rw [beq_eq_false_iff_ne]; omega
              by_cases t4 : q = 0
              · as_aux_lemma =>
                  have e4 : ((q : Int) == 0) = true := by rw [t4]; rfl
                  clear t3 t4
                  go_region
                  all_goals
                    as_aux_lemma =>
                      go_wp2_with fail
                      go_ret
                      exact ⟨rfl, by first | exact HB9.out | exact HB9.out.drew⟩
              · as_aux_lemma =>
                  have e4 : ((q : Int) == 0) = false := by rw [beq_eq_false_iff_ne]; omega
                  have hpM : p < Ma := by have := HMA.out; omega
                  have hqM : q < Mb := by have := HMB.out; omega
                  have hra := HCA9.out.row.cell hpM
                  have hrb := HCB9.out.row.cell hqM
                  have hla := crs_len Ma (TR R) (begin0 ga ka) p d4
                  have hlb := crs_len Mb (TR R) (begin0 gb kb) q d6
                  have HOA := Lib.hid (HCA9.out.own p hpM).rd
                  have HOB := Lib.hid (HCB9.out.own q hqM).rd
                  obtain ⟨La, hLa⟩ : ∃ l, l = crs Ma (TR R) (begin0 ga ka) d4 p := ⟨_, rfl⟩
                  obtain ⟨Lb, hLb⟩ : ∃ l, l = crs Mb (TR R) (begin0 gb kb) d6 q := ⟨_, rfl⟩
                  rw [← hLa] at hra hla HOA
                  rw [← hLb] at hrb hlb HOB
                  have HLA := Lib.hid hLa
                  have HLB := Lib.hid hLb
                  obtain ⟨la, hlae⟩ : ∃ l, l = La.length := ⟨_, rfl⟩
                  obtain ⟨lb, hlbe⟩ : ∃ l, l = Lb.length := ⟨_, rfl⟩
                  rw [← hlae] at hra hla HOA
                  rw [← hlbe] at hrb hlb HOB
                  have HLAE := Lib.hid hlae
                  have HLBE := Lib.hid hlbe
                  obtain ⟨Xa, hXa⟩ : ∃ x, x = Aa p := ⟨_, rfl⟩
                  obtain ⟨Xb, hXb⟩ : ∃ x, x = Ab q := ⟨_, rfl⟩
                  obtain ⟨ya, hya⟩ : ∃ x, x = xa p := ⟨_, rfl⟩
                  obtain ⟨yb, hyb⟩ : ∃ x, x = xb q := ⟨_, rfl⟩
                  rw [← hXa] at hra HOA
                  rw [← hXb] at hrb HOB
                  rw [← hya] at hra
                  rw [← hyb] at hrb
                  have hpI0 : (0 : Int) ≤ (p : Int) := by omega
                  have hqI0 : (0 : Int) ≤ (q : Int) := by omega
                  have hpI1 : (p : Int) < (Ma : Int) := by omega
                  have hqI1 : (q : Int) < (Mb : Int) := by omega
                  have hga := HCA9.out.row.lt
                  have hgb := HCB9.out.row.lt
                  have hla2 : la ≤ maxLen := by unfold maxLen; omega
                  have hlb2 : lb ≤ maxLen := by unfold maxLen; omega
                  have HLA2 := Lib.hid hla2
                  have HLB2 := Lib.hid hlb2
                  clear hXa hXb hya hyb hLa hLb hlae hlbe hla2 hlb2
                  have hw1 : IntKind.i64.wrap ((p : Int) + (kb : Int)) = (p : Int) + (kb : Int) := IntWalk.i64_in _ (by omega)
                  have hw2 : IntKind.i64.wrap ((p : Int) + (kb : Int) - (q : Int)) = (p : Int) + (kb : Int) - (q : Int) := IntWalk.i64_in _ (by omega)
                  have QI : ∀ (b : Bool) (k : Nat), sameI la lb (fun i => La[i]?.getD 0) (fun i => Lb[i]?.getD 0) = b → Calls Try.prog 8 #[.slice Xa la ya, .slice Xb lb yb] (w9.drewN k) fun e w' => e = .returned (.bool b) ∧ ∃ m, w' = w9.drewN m := fun b k h => Calls.quiet_of (intsq_any Xa Xb la ya lb yb _ _ _ b h (HOA.out.drewN k) (HOB.out.drewN k) HLA2.out HLB2.out)
                  have HQI := Lib.hid QI
                  clear QI
                  cases hsI : sameI la lb (fun i => La[i]?.getD 0) (fun i => Lb[i]?.getD 0) with
                  | false =>
                    have HSI := Lib.hid hsI
                    clear hsI t3 t4
                    go_quiet ((go_at_call 8; exact HQI.out false _ HSI.out))
                    go_wp2_with fail
                    go_ret
                    exact ⟨rfl, below_drewN HB9.out _⟩
                  | true =>
                    have HSI := Lib.hid hsI
                    clear hsI
                    by_cases t5 : (8 : Int) < (p : Int) + (kb : Int) - (q : Int)
                    · as_aux_lemma =>
                        clear t3 t4
                        go_quiet ((go_at_call 8; exact HQI.out true _ HSI.out))
                        go_wp2_with fail
                        go_ret
                        exact ⟨rfl, below_drewN HB9.out _⟩
                    · as_aux_lemma =>
                        go_quiet ((go_at_call 8; exact HQI.out true _ HSI.out))
                        have HB10 := Lib.hid (below_drewN HB9.out nq)
                        have HM10 := Lib.hid (row_drewN HM9.out nq)
                        have HV10 := Lib.hid (row_drewN HV9.out nq)
                        have HZ10 := Lib.hid (row_drewN HZ9.out nq)
                        have HOW10 := Lib.hid (HOW9.out.drewN nq)
                        obtain ⟨W10, hW10⟩ : ∃ X, X = w9.drewN nq := ⟨_, rfl⟩
                        rw [← hW10] at HB10 HM10 HV10 HZ10 HOW10 ⊢
                        simp only [hp, hq]
                        clear hW10 x0 x1 x2 a0 a1 a2 a3 b0 b1 b2 b3 z5 z6 z7 hra hrb hw1 hw2 hp hq HB9 HM9 HV9 HZ9 HOW9 HCA9 HCB9 HOA HOB HQI e3 e4
                        obtain ⟨z5, x0, x1, x2⟩ := mc_open HM10.out
                        obtain ⟨z6, ⟨a0, a1, a2, a3⟩, -⟩ := nw_open HV10.out
                        obtain ⟨z7, ⟨b0, b1, b2, b3⟩, -⟩ := nw_open HZ10.out
                        by_cases t6 : (p : Int) ≤ Xh
                        · as_aux_lemma =>
                            go_wp2_with fail
                            go_ret
                            exact ⟨rfl, HB10.out⟩
                        · as_aux_lemma =>
                            by_cases t7 : (q : Int) ≤ Zh
                            · as_aux_lemma =>
                                go_wp2_with fail
                                go_ret
                                exact ⟨rfl, HB10.out⟩
                            · as_aux_lemma =>
                                obtain ⟨kc, hkce⟩ : ∃ k : Nat, k = p + (kb - q) := ⟨_, rfl⟩
                                have hkc8 : kc ≤ 8 := by omega
                                have HINS : Hid (insB y kc (gcP p q ga gb) = true) := Lib.hid (by rw [hkce]; exact gcP_ins P3.out P6.out hpa hqb)
                                have HEC : Hid (rcE n y n R kc (gcP p q ga gb) 60 = 0) := Lib.hid (by
                                  unfold rcE
                                  rw [if_neg (by rw [P1.out]; simp), if_neg (by omega), if_neg (by rw [HINS.out]; simp), if_neg (by omega)])
                                have ra := HA.out.below HB10.out
                                have rb := HB.out.below HB10.out
                                obtain ⟨ab, ao, rfl, hab, -⟩ := ra.at_ (k := 0) (by omega)
                                obtain ⟨bb, bo, rfl, hbb, -⟩ := rb.at_ (k := 0) (by omega)
                                have RA := Lib.hid (ra.le hpa)
                                have RB := Lib.hid (rb.cut (p := q))
                                have HKC := Lib.hid hkce
                                have hpc : p ≤ ca := by omega
                                have hqc : q ≤ cb := by omega
                                have ew1 : IntKind.i64.wrap (p : Int) = p := IntWalk.i64_in _ (by omega)
                                have ew2 : IntKind.i64.wrap (q : Int) = q := IntWalk.i64_in _ (by omega)
                                have hT10 : ∀ W, Below W10.heap.size W10 W → Tm W T n R := fun W hW => HT.out.below (HB10.out.trans (hW.mono HB10.out.size))
                                have HT10 := Lib.hid hT10
                                have hx10 : ∀ W, Below W10.heap.size W10 W → w.heap.size < W.heap.size ∧ W.cell? ⟨w.heap.size, 0, none⟩ = some (.int .i64 n) ∧ W.cell? ⟨w.heap.size, 1, none⟩ = some (.int .i64 y) ∧ W.cell? ⟨w.heap.size, 2, none⟩ = some (.slice T n tc) := fun W hW => mc_open (row_below HM10.out hW HM10.out.lt)
                                have HX10 := Lib.hid hx10
                                have hcong : ∀ i, i < kc → cat p (fun i => .int .i64 (ga i)) (fun i => .int .i64 (gb (q + i))) i = Value.int .i64 (gcP p q ga gb i) := fun i hi => by
                                  unfold gcP
                                  by_cases e : i < p
                                  · rw [cat_lt e, if_pos e]
                                  · rw [cat_ge (by omega), if_neg e]
                                have HCONG := Lib.hid hcong
                                clear ra rb hT10 hx10 hcong hkce
                                have RB10 : ∀ W, Below W10.heap.size W10 W → Rd W (some ⟨bb, bo + q, none⟩) (kb - q) (fun i => .int .i64 (gb (q + i))) := fun W hW => RB.out.below hW
                                have HRB10 := Lib.hid RB10
                                have RBZ : cb = q → ∀ W, Below W10.heap.size W10 W → Rd W (some ⟨bb, bo, none⟩) (kb - q) (fun i => .int .i64 (gb (q + i))) := fun h W hW => by rw [show kb - q = 0 by omega]; exact Rd.zero _ _ _
                                have HRBZ := Lib.hid RBZ
                                clear RB10 RBZ
                                go_upto_region 15 with (fail)
                                go_cut [23, 25] (fun s23 s25 wx => PasteMid n R (begin0 (gcP p q ga gb) kc) W10 s23 s25 wx)
                                case first =>
                                  as_aux_lemma =>
                                    have hcq := HCQ.out
                                    clear HCQ
                                    clear x0 x1 x2 a0 a1 a2 a3 b0 b1 b2 b3 z5 z6 z7
                                    obtain ⟨Wd, hWd⟩ : ∃ X, X = W10.drew := ⟨_, rfl⟩
                                    have HB : Hid (Below W10.heap.size W10 Wd) := Lib.hid (by rw [hWd]; exact (Below.refl _ _).drew)
                                    have HS0 := Lib.hid (HX10.out Wd HB.out).2
                                    refine wp_region_any (by kernel_rfl) ?_
                                    change wpAny _ _ _ _ _ _ _ (World.drew _)
                                    rw [← hWd]
                                    clear hWd
                                    refine any_of_T (S := fun W' => W'.cell? ⟨w.heap.size, 0, none⟩ = some (.int .i64 n) ∧ W'.cell? ⟨w.heap.size, 1, none⟩ = some (.int .i64 y) ∧ W'.cell? ⟨w.heap.size, 2, none⟩ = some (.slice T n tc)) (c := 10) _ _ _ _ ?_
                                    refine anyT_takeL [10] (i := 0) (v := ?_) rfl (by decide +kernel) (by decide +kernel) (by decide +kernel) (by decide +kernel) (by decide +kernel) (by decide +kernel) (fun _ _ _ h => h) (Or.inl ⟨by rfl, ?_⟩) HS0.out ?_; rotate_left 1
                                    · intro w hS; obtain ⟨s0, s1, s2⟩ := hS; go_simp; with_reducible rfl
                                    simp only [Act.put, List.getElem_toArray, List.getElem_cons_zero, List.getElem_cons_succ, List.setIfInBounds_toArray, List.set_cons_zero, List.set_cons_succ]
                                    refine anyT_takeY (i := 2) (v := ?_) rfl (by decide +kernel) (by decide +kernel) (by decide +kernel) (by decide +kernel) (fun _ _ _ h => h) (Or.inl ⟨by rfl, ?_⟩) HS0.out ?_; rotate_left 1
                                    · intro w _; go_simp; with_reducible rfl
                                    simp only [Act.put, List.getElem_toArray, List.getElem_cons_zero, List.getElem_cons_succ, List.setIfInBounds_toArray, List.set_cons_zero, List.set_cons_succ]
                                    refine anyT_takeY (i := 3) (v := ?_) rfl (by decide +kernel) (by decide +kernel) (by decide +kernel) (by decide +kernel) (fun _ _ _ h => h) (Or.inl ⟨by rfl, ?_⟩) HS0.out ?_; rotate_left 1
                                    · intro w _; go_simp; with_reducible rfl
                                    simp only [Act.put, List.getElem_toArray, List.getElem_cons_zero, List.getElem_cons_succ, List.setIfInBounds_toArray, List.set_cons_zero, List.set_cons_succ]
                                    refine anyT_takeY (i := 4) (v := ?_) rfl (by decide +kernel) (by decide +kernel) (by decide +kernel) (by decide +kernel) (fun _ _ _ h => h) (Or.inl ⟨by rfl, ?_⟩) HS0.out ?_; rotate_left 1
                                    · intro w _; go_simp; with_reducible rfl
                                    simp only [Act.put, List.getElem_toArray, List.getElem_cons_zero, List.getElem_cons_succ, List.setIfInBounds_toArray, List.set_cons_zero, List.set_cons_succ]
                                    refine anyT_takeY (i := 6) (v := ?_) rfl (by decide +kernel) (by decide +kernel) (by decide +kernel) (by decide +kernel) (fun _ _ _ h => h) (Or.inl ⟨by rfl, ?_⟩) HS0.out ?_; rotate_left 1
                                    · intro w _; go_simp; with_reducible rfl
                                    simp only [Act.put, List.getElem_toArray, List.getElem_cons_zero, List.getElem_cons_succ, List.setIfInBounds_toArray, List.set_cons_zero, List.set_cons_succ]
                                    refine anyT_takeY (i := 7) (v := ?_) rfl (by decide +kernel) (by decide +kernel) (by decide +kernel) (by decide +kernel) (fun _ _ _ h => h) (Or.inl ⟨by rfl, ?_⟩) HS0.out ?_; rotate_left 1
                                    · intro w _; go_simp; with_reducible rfl
                                    simp only [Act.put, List.getElem_toArray, List.getElem_cons_zero, List.getElem_cons_succ, List.setIfInBounds_toArray, List.set_cons_zero, List.set_cons_succ]
                                    refine anyT_takeY (i := 8) (v := ?_) rfl (by decide +kernel) (by decide +kernel) (by decide +kernel) (by decide +kernel) (fun _ _ _ h => h) (Or.inl ⟨by rfl, ?_⟩) HS0.out ?_; rotate_left 1
                                    · intro w _; go_simp; with_reducible rfl
                                    simp only [Act.put, List.getElem_toArray, List.getElem_cons_zero, List.getElem_cons_succ, List.setIfInBounds_toArray, List.set_cons_zero, List.set_cons_succ]
                                    refine anyT_two (i := 1) (j := 15) (by decide +kernel) rfl rfl (fun KK hK => ?_) (fun KK hK => ?_)
                                    · as_aux_lemma =>
                                        go_simp
                                        obtain ⟨X1, hXe⟩ : ∃ Y, Y = Wd.alloc (.cells #[] 3) := ⟨_, rfl⟩
                                        obtain ⟨g1, hge⟩ : ∃ g, g = Wd.heap.size := ⟨_, rfl⟩
                                        have HB' := Lib.hid (show Below W10.heap.size W10 X1 by rw [hXe]; exact HB.out.alloc HB.out.size _)
                                        have HO : Hid (Own X1 W10.heap.size 3 1 (some ⟨g1, 0, none⟩) 0 0 0 (fun _ => .int .i64 0)) := Lib.hid (by rw [hXe, hge]; exact Own.empty Wd _ _ _ _ HB.out.size)
                                        rw [← hXe, ← hge]
                                        refine hK.out _ _ (fun _ => (HX10.out _ HB'.out).2) ?_
                                        clear hK KK
                                        try simp only [Act.put, List.getElem_toArray, List.getElem_cons_zero, List.getElem_cons_succ, List.setIfInBounds_toArray, List.set_cons_zero, List.set_cons_succ]
                                        clear HB hXe hge
                                        have HB := HB'
                                        clear HB'
                                        refine anyT_two (i := 5) (j := 15) (by decide +kernel) rfl rfl (fun KK hK => ?_) (fun KK hK => ?_)
                                        · as_aux_lemma =>
                                            refine step_app _ rfl (.tmp 164) (.tmp 167) 25 rfl EIx rfl HO.out rfl (l := p) (by omega) (RA.out.below HB.out) (fun _ _ => rfl) (by unfold maxLen; omega) (by omega) HB.out.size p p (by omega) (by omega) ?_
                                            intro A2x c2x X2 hown2 hg2 hat2 hbl2
                                            have HB' := Lib.hid (HB.out.trans hbl2)
                                            have HO' := Lib.hid hown2
                                            clear hown2 hg2 hat2 hbl2
                                            refine hK.out _ _ (fun _ => (HX10.out _ HB'.out).2) ?_
                                            clear hK KK
                                            try simp only [Act.put, List.getElem_toArray, List.getElem_cons_zero, List.getElem_cons_succ, List.setIfInBounds_toArray, List.set_cons_zero, List.set_cons_succ]
                                            clear HB HO
                                            have HB := HB'
                                            clear HB'
                                            have HO := HO'
                                            clear HO'
                                            refine anyT_two (i := 9) (j := 15) (by decide +kernel) rfl rfl (fun KK hK => ?_) (fun KK hK => ?_)
                                            · as_aux_lemma =>
                                                refine step_app _ rfl (.tmp 168) (.tmp 171) 25 rfl EIx rfl HO.out rfl (l := kb - q) (by omega) (HRB10.out _ HB.out) (fun _ _ => rfl) (by unfold maxLen; omega) (by omega) HB.out.size kc kc (by have := HKC.out; omega) (by have := HKC.out; omega) ?_
                                                intro A3x c3x X3 hown2 hg2 hat2 hbl2
                                                have HB' := Lib.hid (HB.out.trans hbl2)
                                                have HO' := Lib.hid hown2
                                                clear hown2 hg2 hat2 hbl2
                                                refine hK.out _ _ (fun _ => (HX10.out _ HB'.out).2) ?_
                                                clear hK KK
                                                try simp only [Act.put, List.getElem_toArray, List.getElem_cons_zero, List.getElem_cons_succ, List.setIfInBounds_toArray, List.set_cons_zero, List.set_cons_succ]
                                                clear HB HO
                                                have HB := HB'
                                                clear HB'
                                                have HO := HO'
                                                clear HO'
                                                refine anyT_two (i := 10) (j := 15) (by decide +kernel) rfl rfl (fun KK hK => ?_) (fun KK hK => ?_)
                                                · as_aux_lemma =>
                                                    go_simp
                                                    go_at_call 6
                                                    have hcl := runs_good n y 60 T A3x n tc kc c3x R (gcP p q ga gb) X3 (HT10.out _ HB.out) HN.out (HO.out.rd.congr fun i hi => HCONG.out i hi) HEC.out
                                                    (with_reducible refine hcl.mono ?_)
                                                    clear hcl
                                                    rintro e w13 ⟨⟨v, d13, rfl, hd13, lo13, hi13, N13, A13, c13, hsp13, hN13, rfl, hown13⟩, hb13⟩
                                                    have hbe13 := HB.out.trans (hb13.mono HB.out.size)
                                                    try go_simp
                                                    refine hK.out _ _ (fun h => absurd h (by decide +kernel)) ?_
                                                    clear hK KK
                                                    try simp only [Act.put, List.getElem_toArray, List.getElem_cons_zero, List.getElem_cons_succ, List.setIfInBounds_toArray, List.set_cons_zero, List.set_cons_succ]
                                                    refine T_of_any _ _ _ _ (by decide +kernel) ?_
                                                    refine wpAny_take (i := 11) (v := ?_) rfl (by kernel_rfl) (by kernel_rfl) (by kernel_rfl) (fun _ _ _ h => h) (Or.inl ⟨by rfl, ?_⟩) ?_; rotate_left 1
                                                    · intro w; go_simp; with_reducible rfl
                                                    simp only [Act.put, List.getElem_toArray, List.getElem_cons_zero, List.getElem_cons_succ, List.setIfInBounds_toArray, List.set_cons_zero, List.set_cons_succ]
                                                    refine wpAny_take (i := 12) (v := ?_) rfl (by kernel_rfl) (by kernel_rfl) (by kernel_rfl) (fun _ _ _ h => h) (Or.inl ⟨by rfl, ?_⟩) ?_; rotate_left 1
                                                    · intro w; go_simp; with_reducible rfl
                                                    simp only [Act.put, List.getElem_toArray, List.getElem_cons_zero, List.getElem_cons_succ, List.setIfInBounds_toArray, List.set_cons_zero, List.set_cons_succ]
                                                    refine wpAny_take (i := 13) (v := ?_) rfl (by kernel_rfl) (by kernel_rfl) (by kernel_rfl) (fun _ _ _ h => h) (Or.inl ⟨by rfl, ?_⟩) ?_; rotate_left 1
                                                    · intro w; go_simp; with_reducible rfl
                                                    simp only [Act.put, List.getElem_toArray, List.getElem_cons_zero, List.getElem_cons_succ, List.setIfInBounds_toArray, List.set_cons_zero, List.set_cons_succ]
                                                    refine wpAny_take (i := 14) (v := ?_) rfl (by kernel_rfl) (by kernel_rfl) (by kernel_rfl) (fun _ _ _ h => h) (Or.inl ⟨by rfl, ?_⟩) ?_; rotate_left 1
                                                    · intro w; go_simp; with_reducible rfl
                                                    simp only [Act.put, List.getElem_toArray, List.getElem_cons_zero, List.getElem_cons_succ, List.setIfInBounds_toArray, List.set_cons_zero, List.set_cons_succ]
                                                    refine wpAny_ready (rs := [15]) (by kernel_rfl) (by simp) ?_
                                                    refine AllReady.cons rfl (fun KK hK => ?_) AllReady.nil
                                                    go_simp
                                                    refine hK _ _ ?_
                                                    clear hK KK
                                                    try simp only [Act.put, List.getElem_toArray, List.getElem_cons_zero, List.getElem_cons_succ, List.setIfInBounds_toArray, List.set_cons_zero, List.set_cons_succ]
                                                    refine wpAny_ready (rs := [16]) (by kernel_rfl) (by simp) ?_
                                                    refine AllReady.cons rfl (fun KK hK => ?_) AllReady.nil
                                                    go_simp
                                                    refine hK _ _ ?_
                                                    clear hK KK
                                                    try simp only [Act.put, List.getElem_toArray, List.getElem_cons_zero, List.getElem_cons_succ, List.setIfInBounds_toArray, List.set_cons_zero, List.set_cons_succ]
                                                    refine wpAny_take (i := 17) (v := ?_) rfl (by kernel_rfl) (by kernel_rfl) (by kernel_rfl) (fun _ _ _ h => h) (Or.inl ⟨by rfl, ?_⟩) ?_; rotate_left 1
                                                    · intro w; go_simp; with_reducible rfl
                                                    simp only [Act.put, List.getElem_toArray, List.getElem_cons_zero, List.getElem_cons_succ, List.setIfInBounds_toArray, List.set_cons_zero, List.set_cons_succ]
                                                    refine wpAny_take (i := 18) (v := ?_) rfl (by kernel_rfl) (by kernel_rfl) (by kernel_rfl) (fun _ _ _ h => h) (Or.inl ⟨by rfl, ?_⟩) ?_; rotate_left 1
                                                    · intro w; go_simp; with_reducible rfl
                                                    simp only [Act.put, List.getElem_toArray, List.getElem_cons_zero, List.getElem_cons_succ, List.setIfInBounds_toArray, List.set_cons_zero, List.set_cons_succ]
                                                    refine wpAny_done (by kernel_rfl) ?_ _
                                                    go_wp2_with fail
                                                    go_meet
                                                    exact ⟨_, d13, lo13, hi13, N13, A13, c13, rfl, rfl, hd13, hsp13, hN13, nw_new w13 31 _ _ _ _ rfl, hown13.rd.alloc _, hbe13.alloc (by have := hbe13.size; omega) _⟩
                                                · as_aux_lemma =>
                                                    go_simp
                                                    obtain ⟨X4, hXe⟩ : ∃ Y, Y = X3.alloc (.cells #[.int .i64 0, .int .i64 0, .int .i64 0, .slice none 0 0] 31) := ⟨_, rfl⟩
                                                    obtain ⟨z, hze⟩ : ∃ z, z = X3.heap.size := ⟨_, rfl⟩
                                                    have HB' := Lib.hid (show Below W10.heap.size W10 X4 by rw [hXe]; exact HB.out.alloc HB.out.size _)
                                                    have HZ : Hid (X4.rowIs z 31 4 (nwx 0 0 0 (.slice none 0 0)) ∧ W10.heap.size ≤ z ∧ z < X4.heap.size) := Lib.hid ⟨by rw [hXe]; exact nw_new X3 31 0 0 0 (.slice none 0 0) hze.symm, by rw [hze]; exact HB.out.size, by rw [hXe, hze]; simp⟩
                                                    have HNE : Hid (∀ g, (Value.slice A3x kc c3x).ownBlock = some g → g ≠ z) := Lib.hid fun g hg e => by have := (HO.out.lt g hg).2; omega
                                                    have HO' := Lib.hid (HO.out.alloc (.cells #[.int .i64 0, .int .i64 0, .int .i64 0, .slice none 0 0] 31))
                                                    rw [← hXe] at HO'
                                                    rw [← hXe, ← hze]
                                                    refine hK.out _ _ (fun _ => (HX10.out _ HB'.out).2) ?_
                                                    clear hK KK
                                                    try simp only [Act.put, List.getElem_toArray, List.getElem_cons_zero, List.getElem_cons_succ, List.setIfInBounds_toArray, List.set_cons_zero, List.set_cons_succ]
                                                    clear HB hXe hze HO
                                                    have HB := HB'
                                                    clear HB'
                                                    have HO := HO'
                                                    clear HO'
                                                    refine anyT_one (i := 10) (by decide +kernel) rfl (fun KK hK => ?_)
                                                    go_simp
                                                    go_at_call 6
                                                    have hcl := runs_good n y 60 T A3x n tc kc c3x R (gcP p q ga gb) X4 (HT10.out _ HB.out) HN.out (HO.out.rd.congr fun i hi => HCONG.out i hi) HEC.out
                                                    (with_reducible refine hcl.mono ?_)
                                                    clear hcl
                                                    rintro e w13 ⟨⟨v, d13, rfl, hd13, lo13, hi13, N13, A13, c13, hsp13, hN13, rfl, hown13⟩, hb13⟩
                                                    have hbe13 := HB.out.trans (hb13.mono HB.out.size)
                                                    have HZ13 := row_below HZ.out.1 hb13 HZ.out.2.2
                                                    have HQ := set4_all HZ13 hown13 HZ.out.2.2 hbe13 HZ.out.2.1 (((itC (TR R) d13 (begin0 (gcP p q ga gb) kc)).s : Nat) : Int) (itC (TR R) d13 (begin0 (gcP p q ga gb) kc)).h lo13 (.slice A13 N13 c13)
                                                    obtain ⟨zz4, ⟨g0, g1, g2, g3⟩, ⟨f0, f1, f2, f3⟩⟩ := nw_open HZ13
                                                    try go_simp
                                                    refine hK.out _ _ (fun h => absurd h (by decide +kernel)) ?_
                                                    clear hK KK
                                                    try simp only [Act.put, List.getElem_toArray, List.getElem_cons_zero, List.getElem_cons_succ, List.setIfInBounds_toArray, List.set_cons_zero, List.set_cons_succ]
                                                    refine T_of_any _ _ _ _ (by decide +kernel) ?_
                                                    refine wpAny_take (i := 11) (v := ?_) rfl (by kernel_rfl) (by kernel_rfl) (by kernel_rfl) (fun _ _ _ h => h) (Or.inl ⟨by rfl, ?_⟩) ?_; rotate_left 1
                                                    · intro w; go_simp; with_reducible rfl
                                                    simp only [Act.put, List.getElem_toArray, List.getElem_cons_zero, List.getElem_cons_succ, List.setIfInBounds_toArray, List.set_cons_zero, List.set_cons_succ]
                                                    refine wpAny_take (i := 12) (v := ?_) rfl (by kernel_rfl) (by kernel_rfl) (by kernel_rfl) (fun _ _ _ h => h) (Or.inl ⟨by rfl, ?_⟩) ?_; rotate_left 1
                                                    · intro w; go_simp; with_reducible rfl
                                                    simp only [Act.put, List.getElem_toArray, List.getElem_cons_zero, List.getElem_cons_succ, List.setIfInBounds_toArray, List.set_cons_zero, List.set_cons_succ]
                                                    refine wpAny_take (i := 13) (v := ?_) rfl (by kernel_rfl) (by kernel_rfl) (by kernel_rfl) (fun _ _ _ h => h) (Or.inl ⟨by rfl, ?_⟩) ?_; rotate_left 1
                                                    · intro w; go_simp; with_reducible rfl
                                                    simp only [Act.put, List.getElem_toArray, List.getElem_cons_zero, List.getElem_cons_succ, List.setIfInBounds_toArray, List.set_cons_zero, List.set_cons_succ]
                                                    refine wpAny_take (i := 14) (v := ?_) rfl (by kernel_rfl) (by kernel_rfl) (by kernel_rfl) (fun _ _ _ h => h) (Or.inl ⟨by rfl, ?_⟩) ?_; rotate_left 1
                                                    · intro w; go_simp; with_reducible rfl
                                                    simp only [Act.put, List.getElem_toArray, List.getElem_cons_zero, List.getElem_cons_succ, List.setIfInBounds_toArray, List.set_cons_zero, List.set_cons_succ]
                                                    refine wpAny_ready (rs := [16]) (by kernel_rfl) (by simp) ?_
                                                    refine AllReady.cons rfl (fun KK hK => ?_) AllReady.nil
                                                    go_simp
                                                    refine hK _ _ ?_
                                                    clear hK KK
                                                    try simp only [Act.put, List.getElem_toArray, List.getElem_cons_zero, List.getElem_cons_succ, List.setIfInBounds_toArray, List.set_cons_zero, List.set_cons_succ]
                                                    refine wpAny_take (i := 17) (v := ?_) rfl (by kernel_rfl) (by kernel_rfl) (by kernel_rfl) (fun _ _ _ h => h) (Or.inl ⟨by rfl, ?_⟩) ?_; rotate_left 1
                                                    · intro w; go_simp; with_reducible rfl
                                                    simp only [Act.put, List.getElem_toArray, List.getElem_cons_zero, List.getElem_cons_succ, List.setIfInBounds_toArray, List.set_cons_zero, List.set_cons_succ]
                                                    refine wpAny_take (i := 18) (v := ?_) rfl (by kernel_rfl) (by kernel_rfl) (by kernel_rfl) (fun _ _ _ h => h) (Or.inl ⟨by rfl, ?_⟩) ?_; rotate_left 1
                                                    · intro w; go_simp; with_reducible rfl
                                                    simp only [Act.put, List.getElem_toArray, List.getElem_cons_zero, List.getElem_cons_succ, List.setIfInBounds_toArray, List.set_cons_zero, List.set_cons_succ]
                                                    refine wpAny_done (by kernel_rfl) ?_ _
                                                    go_wp2_with fail
                                                    go_meet
                                                    exact ⟨_, d13, lo13, hi13, N13, A13, c13, rfl, rfl, hd13, hsp13, hN13, HQ.1, HQ.2.1, HQ.2.2⟩
                                            · as_aux_lemma =>
                                                go_simp
                                                obtain ⟨X5, hXe⟩ : ∃ Y, Y = X2.alloc (.cells #[.int .i64 0, .int .i64 0, .int .i64 0, .slice none 0 0] 31) := ⟨_, rfl⟩
                                                obtain ⟨z, hze⟩ : ∃ z, z = X2.heap.size := ⟨_, rfl⟩
                                                have HB' := Lib.hid (show Below W10.heap.size W10 X5 by rw [hXe]; exact HB.out.alloc HB.out.size _)
                                                have HZ : Hid (X5.rowIs z 31 4 (nwx 0 0 0 (.slice none 0 0)) ∧ W10.heap.size ≤ z ∧ z < X5.heap.size) := Lib.hid ⟨by rw [hXe]; exact nw_new X2 31 0 0 0 (.slice none 0 0) hze.symm, by rw [hze]; exact HB.out.size, by rw [hXe, hze]; simp⟩
                                                have HNE : Hid (∀ g, (Value.slice A2x p c2x).ownBlock = some g → g ≠ z) := Lib.hid fun g hg e => by have := (HO.out.lt g hg).2; omega
                                                have HO' := Lib.hid (HO.out.alloc (.cells #[.int .i64 0, .int .i64 0, .int .i64 0, .slice none 0 0] 31))
                                                rw [← hXe] at HO'
                                                rw [← hXe, ← hze]
                                                refine hK.out _ _ (fun _ => (HX10.out _ HB'.out).2) ?_
                                                clear hK KK
                                                try simp only [Act.put, List.getElem_toArray, List.getElem_cons_zero, List.getElem_cons_succ, List.setIfInBounds_toArray, List.set_cons_zero, List.set_cons_succ]
                                                clear HB hXe hze HO
                                                have HB := HB'
                                                clear HB'
                                                have HO := HO'
                                                clear HO'
                                                refine anyT_one (i := 9) (by decide +kernel) rfl (fun KK hK => ?_)
                                                refine step_app _ rfl (.tmp 168) (.tmp 171) 25 rfl EIx rfl HO.out rfl (l := kb - q) (by omega) (HRB10.out _ HB.out) (fun _ _ => rfl) (by unfold maxLen; omega) (by omega) HB.out.size kc kc (by have := HKC.out; omega) (by have := HKC.out; omega) ?_
                                                intro A3x c3x X6 hown2 hg2 hat2 hbl2
                                                have HB' := Lib.hid (HB.out.trans hbl2)
                                                have HO' := Lib.hid hown2
                                                have HZ' : Hid (X6.rowIs z 31 4 (nwx 0 0 0 (.slice none 0 0)) ∧ W10.heap.size ≤ z ∧ z < X6.heap.size) := Lib.hid ⟨HZ.out.1.of_block (hg2.block _ HZ.out.2.2 (fun e => HNE.out _ e.symm rfl)), HZ.out.2.1, Nat.lt_of_lt_of_le HZ.out.2.2 hbl2.size⟩
                                                have HNE' : Hid (∀ g, (Value.slice A3x kc c3x).ownBlock = some g → g ≠ z) := Lib.hid fun g hg e => by
                                                  rcases hat2 with h | h
                                                  · rw [h] at hg; exact HNE.out g hg e
                                                  · rw [h] at hg; have h1 := Option.some.inj hg; have h2 := HZ.out.2.2; omega
                                                clear hown2 hg2 hat2 hbl2
                                                refine hK.out _ _ (fun _ => (HX10.out _ HB'.out).2) ?_
                                                clear hK KK
                                                try simp only [Act.put, List.getElem_toArray, List.getElem_cons_zero, List.getElem_cons_succ, List.setIfInBounds_toArray, List.set_cons_zero, List.set_cons_succ]
                                                clear HB HO HZ HNE
                                                have HB := HB'
                                                clear HB'
                                                have HO := HO'
                                                clear HO'
                                                have HZ := HZ'
                                                clear HZ'
                                                have HNE := HNE'
                                                clear HNE'
                                                refine anyT_one (i := 10) (by decide +kernel) rfl (fun KK hK => ?_)
                                                go_simp
                                                go_at_call 6
                                                have hcl := runs_good n y 60 T A3x n tc kc c3x R (gcP p q ga gb) X6 (HT10.out _ HB.out) HN.out (HO.out.rd.congr fun i hi => HCONG.out i hi) HEC.out
                                                (with_reducible refine hcl.mono ?_)
                                                clear hcl
                                                rintro e w13 ⟨⟨v, d13, rfl, hd13, lo13, hi13, N13, A13, c13, hsp13, hN13, rfl, hown13⟩, hb13⟩
                                                have hbe13 := HB.out.trans (hb13.mono HB.out.size)
                                                have HZ13 := row_below HZ.out.1 hb13 HZ.out.2.2
                                                have HQ := set4_all HZ13 hown13 HZ.out.2.2 hbe13 HZ.out.2.1 (((itC (TR R) d13 (begin0 (gcP p q ga gb) kc)).s : Nat) : Int) (itC (TR R) d13 (begin0 (gcP p q ga gb) kc)).h lo13 (.slice A13 N13 c13)
                                                obtain ⟨zz4, ⟨g0, g1, g2, g3⟩, ⟨f0, f1, f2, f3⟩⟩ := nw_open HZ13
                                                try go_simp
                                                refine hK.out _ _ (fun h => absurd h (by decide +kernel)) ?_
                                                clear hK KK
                                                try simp only [Act.put, List.getElem_toArray, List.getElem_cons_zero, List.getElem_cons_succ, List.setIfInBounds_toArray, List.set_cons_zero, List.set_cons_succ]
                                                refine T_of_any _ _ _ _ (by decide +kernel) ?_
                                                refine wpAny_take (i := 11) (v := ?_) rfl (by kernel_rfl) (by kernel_rfl) (by kernel_rfl) (fun _ _ _ h => h) (Or.inl ⟨by rfl, ?_⟩) ?_; rotate_left 1
                                                · intro w; go_simp; with_reducible rfl
                                                simp only [Act.put, List.getElem_toArray, List.getElem_cons_zero, List.getElem_cons_succ, List.setIfInBounds_toArray, List.set_cons_zero, List.set_cons_succ]
                                                refine wpAny_take (i := 12) (v := ?_) rfl (by kernel_rfl) (by kernel_rfl) (by kernel_rfl) (fun _ _ _ h => h) (Or.inl ⟨by rfl, ?_⟩) ?_; rotate_left 1
                                                · intro w; go_simp; with_reducible rfl
                                                simp only [Act.put, List.getElem_toArray, List.getElem_cons_zero, List.getElem_cons_succ, List.setIfInBounds_toArray, List.set_cons_zero, List.set_cons_succ]
                                                refine wpAny_take (i := 13) (v := ?_) rfl (by kernel_rfl) (by kernel_rfl) (by kernel_rfl) (fun _ _ _ h => h) (Or.inl ⟨by rfl, ?_⟩) ?_; rotate_left 1
                                                · intro w; go_simp; with_reducible rfl
                                                simp only [Act.put, List.getElem_toArray, List.getElem_cons_zero, List.getElem_cons_succ, List.setIfInBounds_toArray, List.set_cons_zero, List.set_cons_succ]
                                                refine wpAny_take (i := 14) (v := ?_) rfl (by kernel_rfl) (by kernel_rfl) (by kernel_rfl) (fun _ _ _ h => h) (Or.inl ⟨by rfl, ?_⟩) ?_; rotate_left 1
                                                · intro w; go_simp; with_reducible rfl
                                                simp only [Act.put, List.getElem_toArray, List.getElem_cons_zero, List.getElem_cons_succ, List.setIfInBounds_toArray, List.set_cons_zero, List.set_cons_succ]
                                                refine wpAny_ready (rs := [16]) (by kernel_rfl) (by simp) ?_
                                                refine AllReady.cons rfl (fun KK hK => ?_) AllReady.nil
                                                go_simp
                                                refine hK _ _ ?_
                                                clear hK KK
                                                try simp only [Act.put, List.getElem_toArray, List.getElem_cons_zero, List.getElem_cons_succ, List.setIfInBounds_toArray, List.set_cons_zero, List.set_cons_succ]
                                                refine wpAny_take (i := 17) (v := ?_) rfl (by kernel_rfl) (by kernel_rfl) (by kernel_rfl) (fun _ _ _ h => h) (Or.inl ⟨by rfl, ?_⟩) ?_; rotate_left 1
                                                · intro w; go_simp; with_reducible rfl
                                                simp only [Act.put, List.getElem_toArray, List.getElem_cons_zero, List.getElem_cons_succ, List.setIfInBounds_toArray, List.set_cons_zero, List.set_cons_succ]
                                                refine wpAny_take (i := 18) (v := ?_) rfl (by kernel_rfl) (by kernel_rfl) (by kernel_rfl) (fun _ _ _ h => h) (Or.inl ⟨by rfl, ?_⟩) ?_; rotate_left 1
                                                · intro w; go_simp; with_reducible rfl
                                                simp only [Act.put, List.getElem_toArray, List.getElem_cons_zero, List.getElem_cons_succ, List.setIfInBounds_toArray, List.set_cons_zero, List.set_cons_succ]
                                                refine wpAny_done (by kernel_rfl) ?_ _
                                                go_wp2_with fail
                                                go_meet
                                                exact ⟨_, d13, lo13, hi13, N13, A13, c13, rfl, rfl, hd13, hsp13, hN13, HQ.1, HQ.2.1, HQ.2.2⟩
                                        · as_aux_lemma =>
                                            go_simp
                                            obtain ⟨X7, hXe⟩ : ∃ Y, Y = X1.alloc (.cells #[.int .i64 0, .int .i64 0, .int .i64 0, .slice none 0 0] 31) := ⟨_, rfl⟩
                                            obtain ⟨z, hze⟩ : ∃ z, z = X1.heap.size := ⟨_, rfl⟩
                                            have HB' := Lib.hid (show Below W10.heap.size W10 X7 by rw [hXe]; exact HB.out.alloc HB.out.size _)
                                            have HZ : Hid (X7.rowIs z 31 4 (nwx 0 0 0 (.slice none 0 0)) ∧ W10.heap.size ≤ z ∧ z < X7.heap.size) := Lib.hid ⟨by rw [hXe]; exact nw_new X1 31 0 0 0 (.slice none 0 0) hze.symm, by rw [hze]; exact HB.out.size, by rw [hXe, hze]; simp⟩
                                            have HNE : Hid (∀ g, (Value.slice (some ⟨g1, 0, none⟩) 0 0).ownBlock = some g → g ≠ z) := Lib.hid fun g hg e => by have := (HO.out.lt g hg).2; omega
                                            have HO' := Lib.hid (HO.out.alloc (.cells #[.int .i64 0, .int .i64 0, .int .i64 0, .slice none 0 0] 31))
                                            rw [← hXe] at HO'
                                            rw [← hXe, ← hze]
                                            refine hK.out _ _ (fun _ => (HX10.out _ HB'.out).2) ?_
                                            clear hK KK
                                            try simp only [Act.put, List.getElem_toArray, List.getElem_cons_zero, List.getElem_cons_succ, List.setIfInBounds_toArray, List.set_cons_zero, List.set_cons_succ]
                                            clear HB hXe hze HO
                                            have HB := HB'
                                            clear HB'
                                            have HO := HO'
                                            clear HO'
                                            refine anyT_one (i := 5) (by decide +kernel) rfl (fun KK hK => ?_)
                                            refine step_app _ rfl (.tmp 164) (.tmp 167) 25 rfl EIx rfl HO.out rfl (l := p) (by omega) (RA.out.below HB.out) (fun _ _ => rfl) (by unfold maxLen; omega) (by omega) HB.out.size p p (by omega) (by omega) ?_
                                            intro A2x c2x X8 hown2 hg2 hat2 hbl2
                                            have HB' := Lib.hid (HB.out.trans hbl2)
                                            have HO' := Lib.hid hown2
                                            have HZ' : Hid (X8.rowIs z 31 4 (nwx 0 0 0 (.slice none 0 0)) ∧ W10.heap.size ≤ z ∧ z < X8.heap.size) := Lib.hid ⟨HZ.out.1.of_block (hg2.block _ HZ.out.2.2 (fun e => HNE.out _ e.symm rfl)), HZ.out.2.1, Nat.lt_of_lt_of_le HZ.out.2.2 hbl2.size⟩
                                            have HNE' : Hid (∀ g, (Value.slice A2x p c2x).ownBlock = some g → g ≠ z) := Lib.hid fun g hg e => by
                                              rcases hat2 with h | h
                                              · rw [h] at hg; exact HNE.out g hg e
                                              · rw [h] at hg; have h1 := Option.some.inj hg; have h2 := HZ.out.2.2; omega
                                            clear hown2 hg2 hat2 hbl2
                                            refine hK.out _ _ (fun _ => (HX10.out _ HB'.out).2) ?_
                                            clear hK KK
                                            try simp only [Act.put, List.getElem_toArray, List.getElem_cons_zero, List.getElem_cons_succ, List.setIfInBounds_toArray, List.set_cons_zero, List.set_cons_succ]
                                            clear HB HO HZ HNE
                                            have HB := HB'
                                            clear HB'
                                            have HO := HO'
                                            clear HO'
                                            have HZ := HZ'
                                            clear HZ'
                                            have HNE := HNE'
                                            clear HNE'
                                            refine anyT_one (i := 9) (by decide +kernel) rfl (fun KK hK => ?_)
                                            refine step_app _ rfl (.tmp 168) (.tmp 171) 25 rfl EIx rfl HO.out rfl (l := kb - q) (by omega) (HRB10.out _ HB.out) (fun _ _ => rfl) (by unfold maxLen; omega) (by omega) HB.out.size kc kc (by have := HKC.out; omega) (by have := HKC.out; omega) ?_
                                            intro A3x c3x X9 hown2 hg2 hat2 hbl2
                                            have HB' := Lib.hid (HB.out.trans hbl2)
                                            have HO' := Lib.hid hown2
                                            have HZ' : Hid (X9.rowIs z 31 4 (nwx 0 0 0 (.slice none 0 0)) ∧ W10.heap.size ≤ z ∧ z < X9.heap.size) := Lib.hid ⟨HZ.out.1.of_block (hg2.block _ HZ.out.2.2 (fun e => HNE.out _ e.symm rfl)), HZ.out.2.1, Nat.lt_of_lt_of_le HZ.out.2.2 hbl2.size⟩
                                            have HNE' : Hid (∀ g, (Value.slice A3x kc c3x).ownBlock = some g → g ≠ z) := Lib.hid fun g hg e => by
                                              rcases hat2 with h | h
                                              · rw [h] at hg; exact HNE.out g hg e
                                              · rw [h] at hg; have h1 := Option.some.inj hg; have h2 := HZ.out.2.2; omega
                                            clear hown2 hg2 hat2 hbl2
                                            refine hK.out _ _ (fun _ => (HX10.out _ HB'.out).2) ?_
                                            clear hK KK
                                            try simp only [Act.put, List.getElem_toArray, List.getElem_cons_zero, List.getElem_cons_succ, List.setIfInBounds_toArray, List.set_cons_zero, List.set_cons_succ]
                                            clear HB HO HZ HNE
                                            have HB := HB'
                                            clear HB'
                                            have HO := HO'
                                            clear HO'
                                            have HZ := HZ'
                                            clear HZ'
                                            have HNE := HNE'
                                            clear HNE'
                                            refine anyT_one (i := 10) (by decide +kernel) rfl (fun KK hK => ?_)
                                            go_simp
                                            go_at_call 6
                                            have hcl := runs_good n y 60 T A3x n tc kc c3x R (gcP p q ga gb) X9 (HT10.out _ HB.out) HN.out (HO.out.rd.congr fun i hi => HCONG.out i hi) HEC.out
                                            (with_reducible refine hcl.mono ?_)
                                            clear hcl
                                            rintro e w13 ⟨⟨v, d13, rfl, hd13, lo13, hi13, N13, A13, c13, hsp13, hN13, rfl, hown13⟩, hb13⟩
                                            have hbe13 := HB.out.trans (hb13.mono HB.out.size)
                                            have HZ13 := row_below HZ.out.1 hb13 HZ.out.2.2
                                            have HQ := set4_all HZ13 hown13 HZ.out.2.2 hbe13 HZ.out.2.1 (((itC (TR R) d13 (begin0 (gcP p q ga gb) kc)).s : Nat) : Int) (itC (TR R) d13 (begin0 (gcP p q ga gb) kc)).h lo13 (.slice A13 N13 c13)
                                            obtain ⟨zz4, ⟨g0, g1, g2, g3⟩, ⟨f0, f1, f2, f3⟩⟩ := nw_open HZ13
                                            try go_simp
                                            refine hK.out _ _ (fun h => absurd h (by decide +kernel)) ?_
                                            clear hK KK
                                            try simp only [Act.put, List.getElem_toArray, List.getElem_cons_zero, List.getElem_cons_succ, List.setIfInBounds_toArray, List.set_cons_zero, List.set_cons_succ]
                                            refine T_of_any _ _ _ _ (by decide +kernel) ?_
                                            refine wpAny_take (i := 11) (v := ?_) rfl (by kernel_rfl) (by kernel_rfl) (by kernel_rfl) (fun _ _ _ h => h) (Or.inl ⟨by rfl, ?_⟩) ?_; rotate_left 1
                                            · intro w; go_simp; with_reducible rfl
                                            simp only [Act.put, List.getElem_toArray, List.getElem_cons_zero, List.getElem_cons_succ, List.setIfInBounds_toArray, List.set_cons_zero, List.set_cons_succ]
                                            refine wpAny_take (i := 12) (v := ?_) rfl (by kernel_rfl) (by kernel_rfl) (by kernel_rfl) (fun _ _ _ h => h) (Or.inl ⟨by rfl, ?_⟩) ?_; rotate_left 1
                                            · intro w; go_simp; with_reducible rfl
                                            simp only [Act.put, List.getElem_toArray, List.getElem_cons_zero, List.getElem_cons_succ, List.setIfInBounds_toArray, List.set_cons_zero, List.set_cons_succ]
                                            refine wpAny_take (i := 13) (v := ?_) rfl (by kernel_rfl) (by kernel_rfl) (by kernel_rfl) (fun _ _ _ h => h) (Or.inl ⟨by rfl, ?_⟩) ?_; rotate_left 1
                                            · intro w; go_simp; with_reducible rfl
                                            simp only [Act.put, List.getElem_toArray, List.getElem_cons_zero, List.getElem_cons_succ, List.setIfInBounds_toArray, List.set_cons_zero, List.set_cons_succ]
                                            refine wpAny_take (i := 14) (v := ?_) rfl (by kernel_rfl) (by kernel_rfl) (by kernel_rfl) (fun _ _ _ h => h) (Or.inl ⟨by rfl, ?_⟩) ?_; rotate_left 1
                                            · intro w; go_simp; with_reducible rfl
                                            simp only [Act.put, List.getElem_toArray, List.getElem_cons_zero, List.getElem_cons_succ, List.setIfInBounds_toArray, List.set_cons_zero, List.set_cons_succ]
                                            refine wpAny_ready (rs := [16]) (by kernel_rfl) (by simp) ?_
                                            refine AllReady.cons rfl (fun KK hK => ?_) AllReady.nil
                                            go_simp
                                            refine hK _ _ ?_
                                            clear hK KK
                                            try simp only [Act.put, List.getElem_toArray, List.getElem_cons_zero, List.getElem_cons_succ, List.setIfInBounds_toArray, List.set_cons_zero, List.set_cons_succ]
                                            refine wpAny_take (i := 17) (v := ?_) rfl (by kernel_rfl) (by kernel_rfl) (by kernel_rfl) (fun _ _ _ h => h) (Or.inl ⟨by rfl, ?_⟩) ?_; rotate_left 1
                                            · intro w; go_simp; with_reducible rfl
                                            simp only [Act.put, List.getElem_toArray, List.getElem_cons_zero, List.getElem_cons_succ, List.setIfInBounds_toArray, List.set_cons_zero, List.set_cons_succ]
                                            refine wpAny_take (i := 18) (v := ?_) rfl (by kernel_rfl) (by kernel_rfl) (by kernel_rfl) (fun _ _ _ h => h) (Or.inl ⟨by rfl, ?_⟩) ?_; rotate_left 1
                                            · intro w; go_simp; with_reducible rfl
                                            simp only [Act.put, List.getElem_toArray, List.getElem_cons_zero, List.getElem_cons_succ, List.setIfInBounds_toArray, List.set_cons_zero, List.set_cons_succ]
                                            refine wpAny_done (by kernel_rfl) ?_ _
                                            go_wp2_with fail
                                            go_meet
                                            exact ⟨_, d13, lo13, hi13, N13, A13, c13, rfl, rfl, hd13, hsp13, hN13, HQ.1, HQ.2.1, HQ.2.2⟩
                                    · as_aux_lemma =>
                                        go_simp
                                        obtain ⟨X10, hXe⟩ : ∃ Y, Y = Wd.alloc (.cells #[.int .i64 0, .int .i64 0, .int .i64 0, .slice none 0 0] 31) := ⟨_, rfl⟩
                                        obtain ⟨z, hze⟩ : ∃ z, z = Wd.heap.size := ⟨_, rfl⟩
                                        have HB' := Lib.hid (show Below W10.heap.size W10 X10 by rw [hXe]; exact HB.out.alloc HB.out.size _)
                                        have HZ : Hid (X10.rowIs z 31 4 (nwx 0 0 0 (.slice none 0 0)) ∧ W10.heap.size ≤ z ∧ z < X10.heap.size) := Lib.hid ⟨by rw [hXe]; exact nw_new Wd 31 0 0 0 (.slice none 0 0) hze.symm, by rw [hze]; exact HB.out.size, by rw [hXe, hze]; simp⟩
                                        rw [← hXe, ← hze]
                                        refine hK.out _ _ (fun _ => (HX10.out _ HB'.out).2) ?_
                                        clear hK KK
                                        try simp only [Act.put, List.getElem_toArray, List.getElem_cons_zero, List.getElem_cons_succ, List.setIfInBounds_toArray, List.set_cons_zero, List.set_cons_succ]
                                        clear HB hXe hze
                                        have HB := HB'
                                        clear HB'
                                        refine anyT_one (i := 1) (by decide +kernel) rfl (fun KK hK => ?_)
                                        go_simp
                                        obtain ⟨X11, hXe⟩ : ∃ Y, Y = X10.alloc (.cells #[] 3) := ⟨_, rfl⟩
                                        obtain ⟨g1, hge⟩ : ∃ g, g = X10.heap.size := ⟨_, rfl⟩
                                        have HB' := Lib.hid (show Below W10.heap.size W10 X11 by rw [hXe]; exact HB.out.alloc HB.out.size _)
                                        have HO : Hid (Own X11 W10.heap.size 3 1 (some ⟨g1, 0, none⟩) 0 0 0 (fun _ => .int .i64 0)) := Lib.hid (by rw [hXe, hge]; exact Own.empty X10 _ _ _ _ HB.out.size)
                                        have HZ' : Hid (X11.rowIs z 31 4 (nwx 0 0 0 (.slice none 0 0)) ∧ W10.heap.size ≤ z ∧ z < X11.heap.size) := Lib.hid ⟨by rw [hXe]; exact HZ.out.1.alloc _, HZ.out.2.1, by rw [hXe]; have := HZ.out.2.2; simp; omega⟩
                                        have HNE : Hid (∀ g, (Value.slice (some ⟨g1, 0, none⟩) 0 0).ownBlock = some g → g ≠ z) := Lib.hid fun g hg e => by subst e; have := HZ.out.2.2; simp [Value.ownBlock] at hg; omega
                                        rw [← hXe, ← hge]
                                        refine hK.out _ _ (fun _ => (HX10.out _ HB'.out).2) ?_
                                        clear hK KK
                                        try simp only [Act.put, List.getElem_toArray, List.getElem_cons_zero, List.getElem_cons_succ, List.setIfInBounds_toArray, List.set_cons_zero, List.set_cons_succ]
                                        clear HB hXe hge HZ
                                        have HB := HB'
                                        clear HB'
                                        have HZ := HZ'
                                        clear HZ'
                                        refine anyT_one (i := 5) (by decide +kernel) rfl (fun KK hK => ?_)
                                        refine step_app _ rfl (.tmp 164) (.tmp 167) 25 rfl EIx rfl HO.out rfl (l := p) (by omega) (RA.out.below HB.out) (fun _ _ => rfl) (by unfold maxLen; omega) (by omega) HB.out.size p p (by omega) (by omega) ?_
                                        intro A2x c2x X12 hown2 hg2 hat2 hbl2
                                        have HB' := Lib.hid (HB.out.trans hbl2)
                                        have HO' := Lib.hid hown2
                                        have HZ' : Hid (X12.rowIs z 31 4 (nwx 0 0 0 (.slice none 0 0)) ∧ W10.heap.size ≤ z ∧ z < X12.heap.size) := Lib.hid ⟨HZ.out.1.of_block (hg2.block _ HZ.out.2.2 (fun e => HNE.out _ e.symm rfl)), HZ.out.2.1, Nat.lt_of_lt_of_le HZ.out.2.2 hbl2.size⟩
                                        have HNE' : Hid (∀ g, (Value.slice A2x p c2x).ownBlock = some g → g ≠ z) := Lib.hid fun g hg e => by
                                          rcases hat2 with h | h
                                          · rw [h] at hg; exact HNE.out g hg e
                                          · rw [h] at hg; have h1 := Option.some.inj hg; have h2 := HZ.out.2.2; omega
                                        clear hown2 hg2 hat2 hbl2
                                        refine hK.out _ _ (fun _ => (HX10.out _ HB'.out).2) ?_
                                        clear hK KK
                                        try simp only [Act.put, List.getElem_toArray, List.getElem_cons_zero, List.getElem_cons_succ, List.setIfInBounds_toArray, List.set_cons_zero, List.set_cons_succ]
                                        clear HB HO HZ HNE
                                        have HB := HB'
                                        clear HB'
                                        have HO := HO'
                                        clear HO'
                                        have HZ := HZ'
                                        clear HZ'
                                        have HNE := HNE'
                                        clear HNE'
                                        refine anyT_one (i := 9) (by decide +kernel) rfl (fun KK hK => ?_)
                                        refine step_app _ rfl (.tmp 168) (.tmp 171) 25 rfl EIx rfl HO.out rfl (l := kb - q) (by omega) (HRB10.out _ HB.out) (fun _ _ => rfl) (by unfold maxLen; omega) (by omega) HB.out.size kc kc (by have := HKC.out; omega) (by have := HKC.out; omega) ?_
                                        intro A3x c3x X13 hown2 hg2 hat2 hbl2
                                        have HB' := Lib.hid (HB.out.trans hbl2)
                                        have HO' := Lib.hid hown2
                                        have HZ' : Hid (X13.rowIs z 31 4 (nwx 0 0 0 (.slice none 0 0)) ∧ W10.heap.size ≤ z ∧ z < X13.heap.size) := Lib.hid ⟨HZ.out.1.of_block (hg2.block _ HZ.out.2.2 (fun e => HNE.out _ e.symm rfl)), HZ.out.2.1, Nat.lt_of_lt_of_le HZ.out.2.2 hbl2.size⟩
                                        have HNE' : Hid (∀ g, (Value.slice A3x kc c3x).ownBlock = some g → g ≠ z) := Lib.hid fun g hg e => by
                                          rcases hat2 with h | h
                                          · rw [h] at hg; exact HNE.out g hg e
                                          · rw [h] at hg; have h1 := Option.some.inj hg; have h2 := HZ.out.2.2; omega
                                        clear hown2 hg2 hat2 hbl2
                                        refine hK.out _ _ (fun _ => (HX10.out _ HB'.out).2) ?_
                                        clear hK KK
                                        try simp only [Act.put, List.getElem_toArray, List.getElem_cons_zero, List.getElem_cons_succ, List.setIfInBounds_toArray, List.set_cons_zero, List.set_cons_succ]
                                        clear HB HO HZ HNE
                                        have HB := HB'
                                        clear HB'
                                        have HO := HO'
                                        clear HO'
                                        have HZ := HZ'
                                        clear HZ'
                                        have HNE := HNE'
                                        clear HNE'
                                        refine anyT_one (i := 10) (by decide +kernel) rfl (fun KK hK => ?_)
                                        go_simp
                                        go_at_call 6
                                        have hcl := runs_good n y 60 T A3x n tc kc c3x R (gcP p q ga gb) X13 (HT10.out _ HB.out) HN.out (HO.out.rd.congr fun i hi => HCONG.out i hi) HEC.out
                                        (with_reducible refine hcl.mono ?_)
                                        clear hcl
                                        rintro e w13 ⟨⟨v, d13, rfl, hd13, lo13, hi13, N13, A13, c13, hsp13, hN13, rfl, hown13⟩, hb13⟩
                                        have hbe13 := HB.out.trans (hb13.mono HB.out.size)
                                        have HZ13 := row_below HZ.out.1 hb13 HZ.out.2.2
                                        have HQ := set4_all HZ13 hown13 HZ.out.2.2 hbe13 HZ.out.2.1 (((itC (TR R) d13 (begin0 (gcP p q ga gb) kc)).s : Nat) : Int) (itC (TR R) d13 (begin0 (gcP p q ga gb) kc)).h lo13 (.slice A13 N13 c13)
                                        obtain ⟨zz4, ⟨g0, g1, g2, g3⟩, ⟨f0, f1, f2, f3⟩⟩ := nw_open HZ13
                                        try go_simp
                                        refine hK.out _ _ (fun h => absurd h (by decide +kernel)) ?_
                                        clear hK KK
                                        try simp only [Act.put, List.getElem_toArray, List.getElem_cons_zero, List.getElem_cons_succ, List.setIfInBounds_toArray, List.set_cons_zero, List.set_cons_succ]
                                        refine T_of_any _ _ _ _ (by decide +kernel) ?_
                                        refine wpAny_take (i := 11) (v := ?_) rfl (by kernel_rfl) (by kernel_rfl) (by kernel_rfl) (fun _ _ _ h => h) (Or.inl ⟨by rfl, ?_⟩) ?_; rotate_left 1
                                        · intro w; go_simp; with_reducible rfl
                                        simp only [Act.put, List.getElem_toArray, List.getElem_cons_zero, List.getElem_cons_succ, List.setIfInBounds_toArray, List.set_cons_zero, List.set_cons_succ]
                                        refine wpAny_take (i := 12) (v := ?_) rfl (by kernel_rfl) (by kernel_rfl) (by kernel_rfl) (fun _ _ _ h => h) (Or.inl ⟨by rfl, ?_⟩) ?_; rotate_left 1
                                        · intro w; go_simp; with_reducible rfl
                                        simp only [Act.put, List.getElem_toArray, List.getElem_cons_zero, List.getElem_cons_succ, List.setIfInBounds_toArray, List.set_cons_zero, List.set_cons_succ]
                                        refine wpAny_take (i := 13) (v := ?_) rfl (by kernel_rfl) (by kernel_rfl) (by kernel_rfl) (fun _ _ _ h => h) (Or.inl ⟨by rfl, ?_⟩) ?_; rotate_left 1
                                        · intro w; go_simp; with_reducible rfl
                                        simp only [Act.put, List.getElem_toArray, List.getElem_cons_zero, List.getElem_cons_succ, List.setIfInBounds_toArray, List.set_cons_zero, List.set_cons_succ]
                                        refine wpAny_take (i := 14) (v := ?_) rfl (by kernel_rfl) (by kernel_rfl) (by kernel_rfl) (fun _ _ _ h => h) (Or.inl ⟨by rfl, ?_⟩) ?_; rotate_left 1
                                        · intro w; go_simp; with_reducible rfl
                                        simp only [Act.put, List.getElem_toArray, List.getElem_cons_zero, List.getElem_cons_succ, List.setIfInBounds_toArray, List.set_cons_zero, List.set_cons_succ]
                                        refine wpAny_ready (rs := [16]) (by kernel_rfl) (by simp) ?_
                                        refine AllReady.cons rfl (fun KK hK => ?_) AllReady.nil
                                        go_simp
                                        refine hK _ _ ?_
                                        clear hK KK
                                        try simp only [Act.put, List.getElem_toArray, List.getElem_cons_zero, List.getElem_cons_succ, List.setIfInBounds_toArray, List.set_cons_zero, List.set_cons_succ]
                                        refine wpAny_take (i := 17) (v := ?_) rfl (by kernel_rfl) (by kernel_rfl) (by kernel_rfl) (fun _ _ _ h => h) (Or.inl ⟨by rfl, ?_⟩) ?_; rotate_left 1
                                        · intro w; go_simp; with_reducible rfl
                                        simp only [Act.put, List.getElem_toArray, List.getElem_cons_zero, List.getElem_cons_succ, List.setIfInBounds_toArray, List.set_cons_zero, List.set_cons_succ]
                                        refine wpAny_take (i := 18) (v := ?_) rfl (by kernel_rfl) (by kernel_rfl) (by kernel_rfl) (fun _ _ _ h => h) (Or.inl ⟨by rfl, ?_⟩) ?_; rotate_left 1
                                        · intro w; go_simp; with_reducible rfl
                                        simp only [Act.put, List.getElem_toArray, List.getElem_cons_zero, List.getElem_cons_succ, List.setIfInBounds_toArray, List.set_cons_zero, List.set_cons_succ]
                                        refine wpAny_done (by kernel_rfl) ?_ _
                                        go_wp2_with fail
                                        go_meet
                                        exact ⟨_, d13, lo13, hi13, N13, A13, c13, rfl, rfl, hd13, hsp13, hN13, HQ.1, HQ.2.1, HQ.2.2⟩
                                case rest =>
                                  as_aux_lemma =>
                                    obtain ⟨q3, dc, lo3, hi3, N3, A3, c3, rfl, rfl, hdc, hsp3, hN3, hr3, hrd3, hbe3⟩ := hcut
                                    have hgcc : Gc n y 8 (begin0 (gcP p q ga gb) kc) := laid_gc (n := n) (y := y) (B := 8) (s := 0) (h := 0) (first := 0) HINS.out (by omega) (by omega) (by omega) (by omega) (by omega)
                                    have hgc3 := hgcc.it HGT.out dc hdc.2.1
                                    have hb3 := hsp3.bound hgc3
                                    have hdc60 := hdc.1
                                    obtain ⟨C, hC⟩ : ∃ C, C = itC (TR R) dc (begin0 (gcP p q ga gb) kc) := ⟨_, rfl⟩
                                    rw [← hC] at hsp3 hr3 hrd3 hgc3
                                    have HC3 := Lib.hid hC
                                    obtain ⟨Yf, Ys, Yh⟩ := C
                                    have hsp3' : Sp Yf Yh lo3 hi3 := hsp3
                                    have hr3' : wc.rowIs q3 31 4 (nwx Ys Yh lo3 (.slice A3 N3 c3)) := hr3
                                    have hrd3' : Rd wc A3 N3 (fun i => .int .i64 (Yf (lo3 + i))) := hrd3
                                    obtain ⟨yh0, yh1⟩ : -((8 + dc : Nat) : Int) ≤ Yh ∧ Yh ≤ ((8 + dc : Nat) : Int) := hgc3.2.2.1
                                    obtain ⟨yb0, yb1⟩ : -((8 + dc : Nat) : Int) ≤ lo3 ∧ hi3 ≤ ((8 + dc : Nat) : Int) := hb3
                                    have hlh3 : lo3 ≤ hi3 := by have := hsp3'.1; omega
                                    have HDC := Lib.hid hdc
                                    have HSP3 := Lib.hid hsp3'
                                    have HR3 := Lib.hid hr3'
                                    have HRD3 := Lib.hid hrd3'
                                    have HBE3 := Lib.hid hbe3
                                    have HVC := Lib.hid (row_below HV10.out hbe3 HV10.out.lt)
                                    have HOWC := Lib.hid (HOW10.out.below hbe3)
                                    have HBC := Lib.hid (HB10.out.trans (hbe3.mono HB10.out.size))
                                    obtain ⟨zc5, xc0, xc1, xc2⟩ := HX10.out _ hbe3
                                    obtain ⟨zc6, ⟨ac0, ac1, ac2, ac3⟩, -⟩ := nw_open HVC.out
                                    obtain ⟨zc7, ⟨yc0, yc1, yc2, yc3⟩, -⟩ := nw_open hr3'
                                    clear hgcc hgc3 hsp3 hr3 hrd3 hC hsp3' hr3' hrd3' hbe3 hdc x0 x1 x2 a0 a1 a2 a3 b0 b1 b2 b3 z5 z6 z7
                                    by_cases t8 : Ys < n
                                    · as_aux_lemma =>
                                        go_wp2_with fail
                                        go_ret
                                        exact ⟨rfl, HBC.out⟩
                                    · as_aux_lemma =>
                                        have hlist : La = Lb := ls_eq (by rw [← HLAE.out, ← HLBE.out]; exact HSI.out)
                                        have hlist2 : crs Ma (TR R) (begin0 ga ka) d4 p = crs Mb (TR R) (begin0 gb kb) d6 q := by rw [← HLA.out, ← HLB.out]; exact hlist
                                        have hrun := paste_runs (n := n) (y := y) (p := p) (q := q) (ka := ka) (kb := kb) (da := d4) (db := d6) (dc := dc) (Ma := Ma) (Mb := Mb) (T := TR R) (ga := ga) (gb := gb) HGT.out (by omega) P3.out P6.out (by omega) (by omega) hpa hqb hpM hqM HDA.out.2.1 HDB.out.2.1 (by rw [← HKC.out]; exact HDC.out.2.1) (by rw [← HC.out]; show n ≤ Xs; omega) (by rw [← HC6.out]; show n ≤ Zs; omega) (by rw [← HKC.out, ← HC3.out]; show n ≤ Ys; omega) (by rw [← HC6.out]; show Zh < q; omega) hlist2
                                        rw [← HKC.out, ← HC3.out, ← HC.out] at hrun
                                        obtain ⟨hh, hf⟩ : Yh = Xh ∧ ∀ x, x < (p : Int) → Yf x = Xf x := hrun
                                        have HF := Lib.hid hf
                                        subst hh
                                        clear hlist hlist2 hf
                                        go_wp2_with fail
                                        have s1 : ∀ (a : Int), -60 ≤ a → a < (p : Int) → ∀ W, Below wc.heap.size wc W → Calls Try.prog 9 #[.agg #[.int .i64 Ys, .int .i64 Yh, .int .i64 lo3, .slice A3 N3 c3], .int .i64 a] W fun e w' => e = .returned (.int .i64 (Xf a)) ∧ Below W.heap.size W w' := fun a h0 h1 W hW => by
                                          rw [← HF.out a h1]
                                          exact sign_any Ys Yh lo3 a A3 N3 c3 Yf W (HRD3.out.below hW) (fun h => by
                                            by_cases e : Yf a = 0
                                            · exact e
                                            · have := HSP3.out.2.1 a e; omega) (by omega) (by omega) (by omega) (by omega) (by omega)
                                        have s2 : ∀ (a : Int), -60 ≤ a → a < (p : Int) → ∀ W, Below wc.heap.size wc W → Calls Try.prog 9 #[.agg #[.int .i64 Xs, .int .i64 Yh, .int .i64 lo, .slice A4 N c4], .int .i64 a] W fun e w' => e = .returned (.int .i64 (Xf a)) ∧ Below W.heap.size W w' := fun a h0 h1 W hW => by
                                          exact sign_any Xs Yh lo a A4 N c4 Xf W (HOWC.out.below hW) (fun h => by
                                            by_cases e : Xf a = 0
                                            · exact e
                                            · have := HSP.out.2.1 a e; omega) (by omega) (by omega) (by omega) (by omega) (by omega)
                                        have HS1 := Lib.hid s1
                                        have HS2 := Lib.hid s2
                                        have rws : ∀ W, Below wc.heap.size wc W → W.rowIs q1 31 4 (nwx Xs Yh lo (.slice A4 N c4)) ∧ W.rowIs q3 31 4 (nwx Ys Yh lo3 (.slice A3 N3 c3)) := fun W hW => ⟨row_below HVC.out hW HVC.out.lt, row_below HR3.out hW HR3.out.lt⟩
                                        have HRWS := Lib.hid rws
                                        clear s1 s2 rws xc0 xc1 xc2 ac0 ac1 ac2 ac3 yc0 yc1 yc2 yc3 zc5 zc6 zc7
                                        go_loopw [26] (fun s26 wr => ∃ a : Int, -60 ≤ a ∧ a ≤ (p : Int) ∧ s26 = .int .i64 a ∧ Below wc.heap.size wc wr) (fun s26 _ => ((p : Int) - intOf s26).toNat)
                                        case atStart => exact ⟨-60, by omega, by omega, rfl, Below.refl _ _⟩
                                        case round =>
                                          as_aux_lemma =>
                                            obtain ⟨wo, rfl⟩ : ∃ wo : World, wo = wr := ⟨_, rfl⟩
                                            obtain ⟨a, ha0, ha1, rfl, hbel⟩ := hrel
                                            by_cases hlt : a < (p : Int)
                                            · as_aux_lemma =>
                                                obtain ⟨r1, r3⟩ := HRWS.out _ hbel
                                                obtain ⟨zn, ⟨n0, n1, n2, n3⟩, -⟩ := nw_open r1
                                                obtain ⟨zm, ⟨m0, m1, m2, m3⟩, -⟩ := nw_open r3
                                                have HBEL := Lib.hid hbel
                                                obtain ⟨v, hv⟩ : ∃ v, v = Xf a := ⟨_, rfl⟩
                                                have c1 := HS1.out a ha0 hlt
                                                have c2 := HS2.out a ha0 hlt
                                                rw [← hv] at c1 c2
                                                have HC1 := Lib.hid c1
                                                have HC2 := Lib.hid c2
                                                clear r1 r3 c1 c2 hv hbel
                                                go_wp2_with fail
                                                have HCS : Hid (∀ W, Below wc.heap.size wc W → W.cell? ⟨q3, 0, none⟩ = some (.int .i64 Ys) ∧ W.cell? ⟨q3, 1, none⟩ = some (.int .i64 Yh) ∧ W.cell? ⟨q3, 2, none⟩ = some (.int .i64 lo3) ∧ W.cell? ⟨q3, 3, none⟩ = some (.slice A3 N3 c3) ∧ W.cell? ⟨q1, 0, none⟩ = some (.int .i64 Xs) ∧ W.cell? ⟨q1, 1, none⟩ = some (.int .i64 Yh) ∧ W.cell? ⟨q1, 2, none⟩ = some (.int .i64 lo) ∧ W.cell? ⟨q1, 3, none⟩ = some (.slice A4 N c4)) := Lib.hid fun W hW => by
                                                  obtain ⟨-, ⟨n0', n1', n2', n3'⟩, -⟩ := nw_open (HRWS.out _ hW).1
                                                  obtain ⟨-, ⟨m0', m1', m2', m3'⟩, -⟩ := nw_open (HRWS.out _ hW).2
                                                  exact ⟨m0', m1', m2', m3', n0', n1', n2', n3'⟩
                                                go_region_held3 (fun w' => w'.cell? ⟨q3, 0, none⟩ = some (.int .i64 Ys) ∧ w'.cell? ⟨q3, 1, none⟩ = some (.int .i64 Yh) ∧ w'.cell? ⟨q3, 2, none⟩ = some (.int .i64 lo3) ∧ w'.cell? ⟨q3, 3, none⟩ = some (.slice A3 N3 c3) ∧ w'.cell? ⟨q1, 0, none⟩ = some (.int .i64 Xs) ∧ w'.cell? ⟨q1, 1, none⟩ = some (.int .i64 Yh) ∧ w'.cell? ⟨q1, 2, none⟩ = some (.int .i64 lo) ∧ w'.cell? ⟨q1, 3, none⟩ = some (.slice A4 N c4)) (first | exact cs15 | exact cs14 | go_keep) (first
                                                  | ((go_at_call 9; (with_reducible refine (HC1.out _ hbe14).mono ?_); rintro e w15 ⟨rfl, hb15⟩; have hbe15 := hbe14.trans (hb15.mono (by have := hbe14.size; simpa using this)); have cs15 := HCS.out _ hbe15))
                                                  | ((go_at_call 9; (with_reducible refine (HC2.out _ hbe14).mono ?_); rintro e w15 ⟨rfl, hb15⟩; have hbe15 := hbe14.trans (hb15.mono (by have := hbe14.size; simpa using this)); have cs15 := HCS.out _ hbe15))
                                                  | ((go_at_call 9; (with_reducible refine (HC1.out _ hbe14.drew).mono ?_); rintro e w15 ⟨rfl, hb15⟩; have hbe15 := hbe14.drew.trans (hb15.mono (by have := hbe14.drew.size; simpa using this)); have cs15 := HCS.out _ hbe15))
                                                  | ((go_at_call 9; (with_reducible refine (HC2.out _ hbe14.drew).mono ?_); rintro e w15 ⟨rfl, hb15⟩; have hbe15 := hbe14.drew.trans (hb15.mono (by have := hbe14.drew.size; simpa using this)); have cs15 := HCS.out _ hbe15))
                                                  | ((go_at_call 9; (with_reducible refine (HC1.out _ HBEL.out).mono ?_); rintro e w14 ⟨rfl, hb14⟩; have hbe14 := HBEL.out.trans (hb14.mono (by have := HBEL.out.size; simpa using this)); have cs14 := HCS.out _ hbe14))
                                                  | ((go_at_call 9; (with_reducible refine (HC2.out _ HBEL.out).mono ?_); rintro e w14 ⟨rfl, hb14⟩; have hbe14 := HBEL.out.trans (hb14.mono (by have := HBEL.out.size; simpa using this)); have cs14 := HCS.out _ hbe14))
                                                  | ((go_at_call 9; (with_reducible refine (HC1.out _ HBEL.out.drew).mono ?_); rintro e w14 ⟨rfl, hb14⟩; have hbe14 := HBEL.out.drew.trans (hb14.mono (by have := HBEL.out.drew.size; simpa using this)); have cs14 := HCS.out _ hbe14))
                                                  | ((go_at_call 9; (with_reducible refine (HC2.out _ HBEL.out.drew).mono ?_); rintro e w14 ⟨rfl, hb14⟩; have hbe14 := HBEL.out.drew.trans (hb14.mono (by have := HBEL.out.drew.size; simpa using this)); have cs14 := HCS.out _ hbe14)))
                                                all_goals
                                                  as_aux_lemma =>
                                                    go_wp2_with fail
                                                    go_roundw
                                                    case rel => exact ⟨a + 1, by omega, by omega, rfl, by first | exact hbe15 | exact hbe15.drew⟩
                                                    case measure => simp [intOf]; omega
                                            · as_aux_lemma =>
                                                have hap : a = (p : Int) := by omega
                                                subst hap
                                                go_wp2_with fail
                                                go_ret
                                                exact ⟨rfl, HBC.out.trans (hbel.mono HBC.out.size)⟩
end Go.Proofs.Ytcbcbanknjhhhaa
