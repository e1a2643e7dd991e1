/- The walk of TapeTwo. Conditions: the arguments read as told. -/
import Derived.Test.YtecbiokdefgoeaaTapeRuns
import Derived.Test.YtecbiokdefgoeaaTapeGo
import Derived.Test.YtecbiokdefgoeaaTapeRef2
import Derived.Test.YtecbiokdefgoeaaTapeCan
import Derived.Test.YtecbiokdefgoeaaTapeNows
import Derived.Test.YtecbiokdefgoeaaTapeOpen
namespace Go.Proofs.Ytecbiokdefgoeaa
open Go.ChangeShapes Go.WideShapes Go.ChangeAt Go.RowKit
set_option linter.unusedVariables false
theorem Dn.add {n m m' d d' : Nat} {T : Nat → Nat → Int} {c : Cf} (h : Dn n T m d c) (h' : Dn n T m' d' (itC T d c)) : Dn n T (m + m') (d + d') c := by
  obtain ⟨a1, a2, a3⟩ := h
  obtain ⟨b1, b2, b3⟩ := h'
  refine ⟨by omega, fun j hj => ?_, ?_⟩
  · by_cases e : j < d
    · exact a2 j e
    · have := b2 (j - d) (by omega)
      rw [← itC_add, show d + (j - d) = j by omega] at this
      exact this
  · rw [itC_add]
    rcases b3 with e | e
    · rcases a3 with e' | e'
      · left; omega
      · by_cases h0 : d' = 0
        · subst h0; exact .inr e'
        · have := b2 0 (by omega)
          have h2 : (itC T d c).s < n := this
          omega
    · exact .inr e
/-- how far a run from the beginning comes -/
def Fr (d : Nat) (c : Cf) : Prop := (-(d : Int) ≤ c.h ∧ c.h ≤ d) ∧ ∀ x, c.f x ≠ 0 → -(d : Int) ≤ x
theorem Fr.it {n y : Nat} {T : Nat → Nat → Int} {c : Cf} {B : Nat} (g : Gt n y T) (gc : Gc n y B c) (h : Fr 0 c) : ∀ d, (∀ j, j < d → (itC T j c).s < n) → Fr d (itC T d c) := by
  intro d
  induction d with
  | zero => intro _; exact h
  | succ d ih =>
    intro hj
    have i1 := ih fun j hj' => hj j (by omega)
    have i2 := gc.it g d fun j hj' => hj j (by omega)
    obtain ⟨r0, r1, r2⟩ := i2.rule g (hj d (by omega))
    obtain ⟨h1, h2⟩ := i1
    refine ⟨?_, fun x hx => ?_⟩
    · show _ ≤ (itC T d c).h + ruM T (itC T d c) ∧ (itC T d c).h + ruM T (itC T d c) ≤ _; omega
    · have hx' : (if x = (itC T d c).h then ruW T (itC T d c) else (itC T d c).f x) ≠ 0 := hx
      by_cases e : x = (itC T d c).h
      · subst e; omega
      · rw [if_neg e] at hx'
        have := h2 x hx'
        omega
theorem Fr.low {d : Nat} {c : Cf} (h : Fr d c) {lo hi : Int} (a : Sp c.f c.h lo hi) : -(d : Int) ≤ lo ∧ lo ≤ d := by
  obtain ⟨h1, h2⟩ := h
  obtain ⟨a1, a2, a3, a4⟩ := a
  refine ⟨?_, by omega⟩
  rcases a3 with e | e
  · omega
  · exact h2 _ e
theorem begin_fr (g : Nat → Int) (k : Nat) : Fr 0 (begin0 g k) := by
  refine ⟨by show -((0 : Nat) : Int) ≤ (0 : Int) ∧ (0 : Int) ≤ ((0 : Nat) : Int); omega, fun x hx => ?_⟩
  have hx' : laid g k 0 x ≠ 0 := hx
  unfold laid at hx'
  by_cases e : (0 : Int) ≤ x ∧ x < 0 + k
  · omega
  · rw [if_neg e] at hx'; exact absurd rfl hx'
set_option maxRecDepth 100000 in
set_option maxHeartbeats 4000000 in
theorem tapeTwo.walk (w : World) (S Y : Int) (T : Option Addr) (n tc : Nat) (R : Nat → SI) (A : Option Addr) (k c : Nat) (g : Nat → Int) (steps kk : Int)
    (wS : (Lit.int .i64 S).wf = true) (wY : (Lit.int .i64 Y).wf = true) (gT : Tm w T n R) (wT : ∀ i, (R i).wide) (l : n ≤ tc) (m : tc ≤ maxLen)
    (hA : Rd w A k (fun i => .int .i64 (g i))) (wg : ∀ i, (Lit.int .i64 (g i)).wf = true) (lk : k ≤ c) (mk : c ≤ maxLen) (zk : c * 8 ≤ 140737488351232) (w4 : (Lit.int .i64 steps).wf = true) (w5 : (Lit.int .u8 kk).wf = true) :
    Calls Try.prog 5 #[.agg #[.int .i64 S, .int .i64 Y, .slice T n tc], .slice A k c, .int .i64 steps, .int .u8 kk] w fun e w' => e = .returned (.bool true) ∧ Below w.heap.size w w' := by
  have hn : n ≤ maxLen := by omega
  have hk : k ≤ maxLen := by omega
  have hy0 : 0 ≤ kk ∧ kk ≤ 255 := by
    simp [Lit.wf, IntKind.min, IntKind.max, IntKind.signed, IntKind.bits] at w5; omega
  obtain ⟨v0, v1⟩ := hy0
  have HT := Lib.hid gT
  have HA := Lib.hid hA
  have WS := Lib.hid wS
  have HN := Lib.hid hn
  have HK := Lib.hid hk
  clear gT hA wS wY wT wg w4 w5 lk mk hn hk l m zk
  go_enter Try.func5, Try.ntmps5
  go_wp2_with fail
  have hm := mc_new w 24 S Y (.slice T n tc)
  have hB1 := (Below.refl w.heap.size w).alloc (Nat.le_refl _) (.cells #[.int .i64 S, .int .i64 Y, .slice T n tc] 24)
  obtain ⟨W1, hW1⟩ : ∃ X, X = w.alloc (.cells #[.int .i64 S, .int .i64 Y, .slice T n tc] 24) := ⟨_, rfl⟩
  have sW : W1.heap.size = w.heap.size + 1 := by rw [hW1]; simp
  rw [← hW1] at hm hB1 ⊢
  clear hW1
  have HB1 := Lib.hid hB1
  clear hB1
  by_cases hE : rcE S Y n R k g steps = 0
  · obtain ⟨p1, p2, p3, ⟨p4, p5⟩⟩ := rcE_parts S Y steps n k R g hE
    obtain ⟨y, hmk⟩ := tpE_mok p1
    obtain ⟨rfl, rfl, n1', n5, y2', y4', hrow, hgt⟩ := hmk
    obtain ⟨sn, rfl⟩ := Int.eq_ofNat_of_zero_le p4
    have HE := Lib.hid hE
    have HGC := Lib.hid (show Gc n y 8 (begin0 g k) from laid_gc (n := n) (y := y) (B := 8) (s := 0) (h := 0) (first := 0) p3 (by omega) (by omega) (by omega) (by omega) (by omega))
    have HGT := Lib.hid hgt
    have P1 := Lib.hid p1
    have P3 := Lib.hid p3
    clear hE p1 p3 hrow hgt
    refine (runs_good n y sn T A n tc k c R g _ (HT.out.below HB1.out) HN.out (HA.out.below HB1.out) HE.out).mono ?_
    rintro e w2 ⟨⟨v, d, rfl, hdn, lo, hi, N, A3, c3, hsp, hN, rfl, hown⟩, hb2⟩
    rw [Int.toNat_natCast] at hdn
    have HDN := Lib.hid hdn
    obtain ⟨C, hC⟩ : ∃ C, C = itC (TR R) d (begin0 g k) := ⟨_, rfl⟩
    have hgc := HGC.out.it HGT.out d hdn.2.1
    rw [← hC] at hsp hown hgc ⊢
    have hlb := hsp.bound hgc
    have hdn1 := hdn.1
    have HC := Lib.hid hC
    obtain ⟨Xf, Xs, Xh⟩ := C
    have hloh : lo ≤ hi := by have := hsp.1; omega
    have HSP := Lib.hid hsp
    have HOWN := Lib.hid hown.rd
    have s2 := hb2.size
    have hm2 := row_below hm hb2 (by omega)
    have HB2 := Lib.hid (HB1.out.trans (hb2.mono HB1.out.size))
    obtain ⟨z0, x0, x1, x2⟩ := mc_open hm2
    have HM3 := Lib.hid (hm2.alloc (.cells #[.int .i64 Xs, .int .i64 Xh, .int .i64 lo, .slice A3 N c3] 27))
    have HN3 := Lib.hid (nw_new w2 27 Xs Xh lo (.slice A3 N c3) rfl)
    have HB3 := Lib.hid (HB2.out.alloc (by omega) (.cells #[.int .i64 Xs, .int .i64 Xh, .int .i64 lo, .slice A3 N c3] 27))
    have HO3 := Lib.hid (HOWN.out.alloc (.cells #[.int .i64 Xs, .int .i64 Xh, .int .i64 lo, .slice A3 N c3] 27))
    clear hm hm2 hb2 hC hdn hsp hown hgc HOWN
    go_wp2_with fail
    clear x0 x1 x2 z0
    obtain ⟨W3, hW3⟩ : ∃ X, X = w2.alloc (.cells #[.int .i64 Xs, .int .i64 Xh, .int .i64 lo, .slice A3 N c3] 27) := ⟨_, rfl⟩
    have sW3 : W3.heap.size = w2.heap.size + 1 := by rw [hW3]; simp
    rw [← hW3] at HM3 HN3 HO3 HB3 ⊢
    obtain ⟨p, hp⟩ : ∃ p, p = w2.heap.size := ⟨_, rfl⟩
    rw [← hp] at HN3 s2 sW3 ⊢
    have hp1 : w.heap.size < p := by omega
    clear hW3 hp HB2
    refine (can_yes n y sn T A n tc k c R g _ (HT.out.below HB3.out) HN.out (HA.out.below HB3.out) HK.out WS.out HE.out).mono ?_
    rintro e w4 ⟨rfl, hb4⟩
    have s4 := hb4.size
    have HM4 := Lib.hid (row_below HM3.out hb4 (by omega))
    have HN4 := Lib.hid (row_below HN3.out hb4 (by omega))
    have HO4 := Lib.hid (HO3.out.below hb4)
    have HB4 := Lib.hid (HB3.out.trans (hb4.mono HB3.out.size))
    clear hb4 HM3 HN3 HO3 HB3
    obtain ⟨z0, x0, x1, x2⟩ := mc_open HM4.out
    obtain ⟨i, hi0⟩ : ∃ i : Nat, kk % ((sn : Int) + 1) = (i : Int) := ⟨(kk % ((sn : Int) + 1)).toNat, by have := Int.emod_nonneg kk (show (sn : Int) + 1 ≠ 0 by omega); omega⟩
    have hi1 : i ≤ sn := by have := Int.emod_lt_of_pos kk (show 0 < (sn : Int) + 1 by omega); omega
    go_wp2_with fail
    rw [hi0]
    clear hi0 x0 x1 x2
    have HE5 : Hid (rcE n y n R k g i = 0) := Lib.hid (by
      unfold rcE
      rw [if_neg (by rw [P1.out]; simp), if_neg (by omega), if_neg (by rw [P3.out]; simp), if_neg (by omega)])
    refine (runs_good n y i T A n tc k c R g _ (HT.out.below HB4.out) HN.out (HA.out.below HB4.out) HE5.out).mono ?_
    rintro e w5 ⟨⟨v, d1, rfl, hdn', lo1, hi2, N1, A5, c5, hsp', hN', rfl, hown'⟩, hb5⟩
    rw [Int.toNat_natCast] at hdn'
    have HDN1 := Lib.hid hdn'
    obtain ⟨C1, hC1⟩ : ∃ C, C = itC (TR R) d1 (begin0 g k) := ⟨_, rfl⟩
    have hgc1 := HGC.out.it HGT.out d1 hdn'.2.1
    have hfr1 := Fr.it HGT.out HGC.out (begin_fr g k) d1 hdn'.2.1
    rw [← hC1] at hsp' hown' hgc1 hfr1 ⊢
    have hlb1 := hfr1.low hsp'
    have hbb1 := hsp'.bound hgc1
    have hd1 := hdn'.1
    have HC1 := Lib.hid hC1
    obtain ⟨Zf, Zs, Zh⟩ := C1
    have hzs : Zs ≤ n := hgc1.2.1
    obtain ⟨hzh0, hzh1⟩ : -(d1 : Int) ≤ Zh ∧ Zh ≤ d1 := hfr1.1
    obtain ⟨hl0, hl1⟩ := hlb1
    have hloh1 : lo1 ≤ hi2 := by have := hsp'.1; omega
    have HINS : Hid (insB y N1 (fun j => Zf (lo1 + j)) = true) := Lib.hid (insB_iff.2 fun j _ => hgc1.1 _)
    have HBK : Hid ((⟨laid (fun j => Zf (lo1 + j)) N1 lo1, Zs, Zh⟩ : Cf) = ⟨Zf, Zs, Zh⟩) := Lib.hid (by rw [laid_back hsp' hN' (fun _ _ => rfl)])
    have HOW5 := Lib.hid hown'.rd
    have s5 := hb5.size
    have HM5 := Lib.hid (row_below HM4.out hb5 (by omega))
    have HN5 := Lib.hid (row_below HN4.out hb5 (by omega))
    have HO5 := Lib.hid (HO4.out.below hb5)
    have HB5 := Lib.hid (HB4.out.trans (hb5.mono HB4.out.size))
    clear hb5 hC1 hdn' hsp' hown' hgc1 hfr1 HM4 HN4 HO4 HB4 z0
    obtain ⟨z0, x0, x1, x2⟩ := mc_open HM5.out
    have HM6 := Lib.hid (HM5.out.alloc (.cells #[.int .i64 Zs, .int .i64 Zh, .int .i64 lo1, .slice A5 N1 c5] 27))
    have HN6 := Lib.hid (HN5.out.alloc (.cells #[.int .i64 Zs, .int .i64 Zh, .int .i64 lo1, .slice A5 N1 c5] 27))
    have HA6 := Lib.hid (nw_new w5 27 Zs Zh lo1 (.slice A5 N1 c5) rfl)
    have HO6 := Lib.hid (HO5.out.alloc (.cells #[.int .i64 Zs, .int .i64 Zh, .int .i64 lo1, .slice A5 N1 c5] 27))
    have HW6 := Lib.hid (HOW5.out.alloc (.cells #[.int .i64 Zs, .int .i64 Zh, .int .i64 lo1, .slice A5 N1 c5] 27))
    have HB6 := Lib.hid (HB5.out.alloc (by omega) (.cells #[.int .i64 Zs, .int .i64 Zh, .int .i64 lo1, .slice A5 N1 c5] 27))
    go_wp2_with fail
    clear x0 x1 x2
    obtain ⟨W6, hW6⟩ : ∃ X, X = w5.alloc (.cells #[.int .i64 Zs, .int .i64 Zh, .int .i64 lo1, .slice A5 N1 c5] 27) := ⟨_, rfl⟩
    have sW6 : W6.heap.size = w5.heap.size + 1 := by rw [hW6]; simp
    rw [← hW6] at HM6 HN6 HA6 HO6 HW6 HB6 ⊢
    obtain ⟨q, hq⟩ : ∃ q, q = w5.heap.size := ⟨_, rfl⟩
    rw [← hq] at HA6 s5 sW6 ⊢
    have hpq : p < q := by have := HN5.out.lt; omega
    clear hW6 hq z0 HB5 HN5 HM5 HO5 HOW5
    by_cases hbig : 60 < N1
    · have hg1 : gcE n y n R Zs Zh lo1 N1 (fun j => Zf (lo1 + j)) ((sn : Int) - i) = 1 := by
        unfold gcE
        rw [if_neg (by rw [P1.out]; simp), if_pos hbig]
      refine (gos_bad n y ((sn : Int) - i) Zs Zh lo1 T A5 n tc N1 c5 R (fun j => Zf (lo1 + j)) _ (HT.out.below HB6.out) HN.out HW6.out (by unfold maxLen; omega) (by rw [hg1]; decide)).mono ?_
      rintro e w7 ⟨rfl, hb7⟩
      rw [hg1]
      have s7 := hb7.size
      have HA7 := Lib.hid (row_below HA6.out hb7 (by omega))
      have HB7 := Lib.hid (HB6.out.trans (hb7.mono HB6.out.size))
      clear hb7 hg1
      obtain ⟨z1, ⟨y0, y1, y2, y3⟩, -⟩ := nw_open HA7.out
      have HB8 := Lib.hid (HB7.out.alloc (by omega) (.cells #[.int .i64 0, .int .i64 0, .int .i64 0, .slice none 0 0] 27))
      unfold zeroN
      go_wp2_with fail
      go_ret
      exact ⟨rfl, HB8.out⟩
    · have hg0 : gcE n y n R Zs Zh lo1 N1 (fun j => Zf (lo1 + j)) ((sn : Int) - i) = 0 := by
        unfold gcE
        rw [if_neg (by rw [P1.out]; simp), if_neg hbig, if_neg (by omega), if_neg (by rw [HINS.out]; simp), if_neg (by omega)]
      refine (gos_good n y ((sn : Int) - i) Zs Zh lo1 T A5 n tc N1 c5 R (fun j => Zf (lo1 + j)) _ (HT.out.below HB6.out) HN.out HW6.out hg0).mono ?_
      clear hg0
      rintro e w7 ⟨⟨v, d2, rfl, hdn2, lo2, hi3, N2, A7, c7, hsp2, hN2, rfl, hown2⟩, hb7⟩
      rw [Int.toNat_natCast, HBK.out] at hdn2 hsp2 hown2
      rw [Int.toNat_natCast, HBK.out]
      have hadd := HDN1.out.add (HC1.out ▸ hdn2)
      rw [show i + ((sn : Int) - i).toNat = sn by omega] at hadd
      have hdd := hadd.uniq HDN.out
      rw [HC1.out, ← itC_add, hdd, ← HC.out] at hsp2 hown2 ⊢
      obtain ⟨rfl, rfl⟩ := hsp2.uniq HSP.out
      obtain rfl : N2 = N := by omega
      subst hdd
      have s7 := hb7.size
      have HN7 := Lib.hid (row_below HN6.out hb7 (by omega))
      have HA7 := Lib.hid (row_below HA6.out hb7 (by omega))
      have HO7 := Lib.hid (HO6.out.below hb7)
      have HOW7 := Lib.hid hown2.rd
      have HB7 := Lib.hid (HB6.out.trans (hb7.mono HB6.out.size))
      have hd2 : d2 ≤ 60 := by have := hdn2.1; omega
      clear hb7 hadd hdn2 hsp2 hown2 HN6 HA6 HO6 HB6 HM6 HW6
      obtain ⟨z1, ⟨y0, y1, y2, y3⟩, -⟩ := nw_open HA7.out
      obtain ⟨z2, ⟨x0, x1, x2, x3⟩, -⟩ := nw_open HN7.out
      have HB8 := Lib.hid (HB7.out.alloc (by omega) (.cells #[.int .i64 Xs, .int .i64 Xh, .int .i64 lo2, .slice A7 N2 c7] 27))
      have HO8 := Lib.hid (HO7.out.alloc (.cells #[.int .i64 Xs, .int .i64 Xh, .int .i64 lo2, .slice A7 N2 c7] 27))
      have HW8 := Lib.hid (HOW7.out.alloc (.cells #[.int .i64 Xs, .int .i64 Xh, .int .i64 lo2, .slice A7 N2 c7] 27))
      have hNs : N2 ≤ maxLen := by unfold maxLen; omega
      have HNs := Lib.hid hNs
      clear hNs
      go_wp2_with fail
      refine (nows_same Xs Xh lo2 _ _ N2 c7 c3 _ _ _ HW8.out HO8.out (fun _ _ => rfl) HNs.out).mono ?_
      rintro e w9 ⟨rfl, hb9⟩
      have HB9 := Lib.hid (HB8.out.trans (hb9.mono HB8.out.size))
      clear hb9
      go_wp2_with fail
      go_ret
      exact ⟨rfl, HB9.out⟩
  · refine (runs_bad S Y steps T A n tc k c R g _ (HT.out.below HB1.out) HN.out (HA.out.below HB1.out) HK.out hE).mono ?_
    rintro e w2 ⟨rfl, hb2⟩
    have s2 := hb2.size
    have hm2 := row_below hm hb2 (by omega)
    have HB2 := Lib.hid (HB1.out.trans (hb2.mono HB1.out.size))
    obtain ⟨z0, x0, x1, x2⟩ := mc_open hm2
    clear hm hb2
    obtain ⟨E, hEe⟩ : ∃ E, E = rcE S Y n R k g steps := ⟨_, rfl⟩
    have HE := Lib.hid hE
    rw [← hEe] at hE ⊢
    have hq : (E != 0) = true := by rw [bne_iff_ne]; exact hE
    clear hEe
    unfold zeroN
    have HB3 := Lib.hid (HB2.out.alloc (by omega) (.cells #[.int .i64 0, .int .i64 0, .int .i64 0, .slice none 0 0] 27))
    go_wp2_with fail
    refine (can_no S Y steps T A n tc k c R g _ (HT.out.below HB3.out) HN.out (HA.out.below HB3.out) HK.out WS.out HE.out).mono ?_
    rintro e w3 ⟨rfl, hb3⟩
    have HB4 := Lib.hid (HB3.out.trans (hb3.mono HB3.out.size))
    clear hb3
    go_wp2_with fail
    go_ret
    exact ⟨rfl, HB4.out⟩
end Go.Proofs.Ytecbiokdefgoeaa
