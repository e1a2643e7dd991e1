/- The walk of TapeMoved. Conditions: the arguments read as told. -/
import Derived.Test.YtecbiokdefgoeaaTapeGo
import Derived.Test.YtecbiokdefgoeaaTapeRef2
import Derived.Test.YtecbiokdefgoeaaTapeNows
import Derived.Test.YtecbiokdefgoeaaTapeOpen
namespace Go.Proofs.Ytecbiokdefgoeaa
open Go.ChangeShapes Go.WideShapes Go.ChangeAt Go.RowKit
set_option linter.unusedVariables false
set_option maxRecDepth 100000 in
set_option maxHeartbeats 4000000 in
theorem tapeMoved.walk (w : World) (S Y : Int) (T : Option Addr) (n tc : Nat) (R : Nat → SI) (st hd fs : Int) (s : SI) (steps : Int) (by_ : Int)
    (wS : (Lit.int .i64 S).wf = true) (wY : (Lit.int .i64 Y).wf = true) (gT : Tm w T n R) (wT : ∀ i, (R i).wide) (l : n ≤ tc) (m : tc ≤ maxLen)
    (w1 : (Lit.int .i64 st).wf = true) (w2 : (Lit.int .i64 hd).wf = true) (w3 : (Lit.int .i64 fs).wf = true) (gs : s.good w) (w4 : (Lit.int .i64 steps).wf = true) (w5 : (Lit.int .i8 by_).wf = true) :
    Calls Try.prog 4 #[.agg #[.int .i64 S, .int .i64 Y, .slice T n tc], .agg #[.int .i64 st, .int .i64 hd, .int .i64 fs, .slice s.A s.n s.c], .int .i64 steps, .int .i8 by_] w fun e w' => e = .returned (.bool true) ∧ Below w.heap.size w w' := by
  obtain ⟨A, k, c, g⟩ := s
  obtain ⟨hA, wg, lk, mk⟩ := gs
  have hn : n ≤ maxLen := by omega
  have hk : k ≤ maxLen := by show k ≤ _; have : k ≤ c := lk; have : c ≤ maxLen := mk; omega
  have hA' : Rd w A k (fun i => .int .i64 (g i)) := hA
  have hy0 : -128 ≤ by_ ∧ by_ ≤ 127 := by
    simp [Lit.wf, IntKind.min, IntKind.max, IntKind.signed, IntKind.bits] at w5; omega
  obtain ⟨v0, v1⟩ := hy0
  have HT := Lib.hid gT
  have HA := Lib.hid hA'
  have WS := Lib.hid wS
  have HN := Lib.hid hn
  have HK := Lib.hid hk
  clear gT hA hA' wS wY wT wg w1 w2 w3 w4 w5 lk mk hn hk l m
  show Calls Try.prog 4 #[.agg #[.int .i64 S, .int .i64 Y, .slice T n tc], .agg #[.int .i64 st, .int .i64 hd, .int .i64 fs, .slice A k c], .int .i64 steps, .int .i8 by_] w fun e w' => e = .returned (.bool true) ∧ Below w.heap.size w w'
  go_enter Try.func4, Try.ntmps4
  go_wp2_with fail
  have hm := (mc_new w 24 S Y (.slice T n tc)).alloc (.cells #[.int .i64 st, .int .i64 hd, .int .i64 fs, .slice A k c] 27)
  have hw := nw_new (w.alloc (.cells #[.int .i64 S, .int .i64 Y, .slice T n tc] 24)) 27 st hd fs (.slice A k c) (K := w.heap.size + 1) (by simp)
  have hB1 := ((Below.refl w.heap.size w).alloc (Nat.le_refl _) (.cells #[.int .i64 S, .int .i64 Y, .slice T n tc] 24)).alloc (by simp) (.cells #[.int .i64 st, .int .i64 hd, .int .i64 fs, .slice A k c] 27)
  obtain ⟨W1, hW1⟩ : ∃ X, X = (w.alloc (.cells #[.int .i64 S, .int .i64 Y, .slice T n tc] 24)).alloc (.cells #[.int .i64 st, .int .i64 hd, .int .i64 fs, .slice A k c] 27) := ⟨_, rfl⟩
  have sW : W1.heap.size = w.heap.size + 2 := by rw [hW1]; simp
  rw [← hW1] at hm hw hB1 ⊢
  clear hW1
  have HB1 := Lib.hid hB1
  clear hB1
  by_cases hE : gcE S Y n R st hd fs k g steps = 0
  · obtain ⟨p1, p2, p3, ⟨p4, p5⟩, ⟨p6, p7⟩, ⟨h3a, h3b⟩, ⟨h4a, h4b⟩⟩ := gcE_parts S Y steps st hd fs n k R g hE
    obtain ⟨y, hmk⟩ := tpE_mok p1
    obtain ⟨rfl, rfl, n1', n5, y2', y4', hrow, hgt⟩ := hmk
    obtain ⟨sn, rfl⟩ := Int.eq_ofNat_of_zero_le p4
    obtain ⟨sq, rfl⟩ := Int.eq_ofNat_of_zero_le p6
    have HE := Lib.hid hE
    have HGC := Lib.hid (laid_gc (n := n) (y := y) (B := 200) (s := sq) (h := hd) (first := fs) p3 (by omega) (by omega) (by omega) (by omega) (by omega))
    have HGT := Lib.hid hgt
    clear hE p1 p3 hrow hgt
    refine (gos_good n y sn sq hd fs T A n tc k c R g _ (HT.out.below HB1.out) HN.out (HA.out.below HB1.out) HE.out).mono ?_
    rintro e w2 ⟨⟨v, d, rfl, hdn, lo, hi, N, A3, c3, hsp, hN, rfl, hown⟩, hb2⟩
    rw [Int.toNat_natCast] at hdn hsp hown
    rw [Int.toNat_natCast] at hdn ⊢
    have HDN := Lib.hid hdn
    obtain ⟨C, hC⟩ : ∃ C, C = itC (TR R) d ⟨laid g k fs, sq, hd⟩ := ⟨_, rfl⟩
    have hgc := HGC.out.it HGT.out d hdn.2.1
    rw [← hC] at hsp hown hgc ⊢
    have hlb := hsp.bound hgc
    have hhb := hgc.2.2.1
    have hdn1 := hdn.1
    have HC := Lib.hid hC
    obtain ⟨Xf, Xs, Xh⟩ := C
    obtain ⟨lb0, lb1⟩ : -((200 + d : Nat) : Int) ≤ lo ∧ hi ≤ (200 + d : Nat) := hlb
    obtain ⟨hh0, hh1⟩ : -((200 + d : Nat) : Int) ≤ Xh ∧ Xh ≤ (200 + d : Nat) := hhb
    have hloh : lo ≤ hi := by have := hsp.1; omega
    have HSP := Lib.hid hsp
    obtain ⟨g3, F3, rfl, -, hrow3, -, -⟩ := hown.row (by omega)
    have hg3 := hrow3.lt
    have HOWN := Lib.hid hown.rd
    have s2 := hb2.size
    have hm2 := row_below hm hb2 (by omega)
    have hw2 := row_below hw hb2 (by omega)
    have HB2 := Lib.hid (HB1.out.trans (hb2.mono HB1.out.size))
    obtain ⟨z0, x0, x1, x2⟩ := mc_open hm2
    obtain ⟨z1, ⟨y0, y1, y2, y3⟩, -⟩ := nw_open hw2
    clear hm hw hb2 hC hdn hsp hown hgc hrow3
    have hm3 := (hm2.alloc (.cells #[.int .i64 Xs, .int .i64 Xh, .int .i64 lo, .slice (some ⟨g3, 0, none⟩) N c3] 27)).alloc (.cells #[.int .i64 sq, .int .i64 (hd + by_), .int .i64 (fs + by_), .slice A k c] 27)
    have hw3 := (hw2.alloc (.cells #[.int .i64 Xs, .int .i64 Xh, .int .i64 lo, .slice (some ⟨g3, 0, none⟩) N c3] 27)).alloc (.cells #[.int .i64 sq, .int .i64 (hd + by_), .int .i64 (fs + by_), .slice A k c] 27)
    have hn3 := (nw_new w2 27 Xs Xh lo (.slice (some ⟨g3, 0, none⟩) N c3) rfl).alloc (.cells #[.int .i64 sq, .int .i64 (hd + by_), .int .i64 (fs + by_), .slice A k c] 27)
    have hf3 := nw_new (w2.alloc (.cells #[.int .i64 Xs, .int .i64 Xh, .int .i64 lo, .slice (some ⟨g3, 0, none⟩) N c3] 27)) 27 sq (hd + by_) (fs + by_) (.slice A k c) (K := w2.heap.size + 1) (by simp)
    have HB3 := Lib.hid ((HB2.out.alloc (by omega) (.cells #[.int .i64 Xs, .int .i64 Xh, .int .i64 lo, .slice (some ⟨g3, 0, none⟩) N c3] 27)).alloc (by simp; omega) (.cells #[.int .i64 sq, .int .i64 (hd + by_), .int .i64 (fs + by_), .slice A k c] 27))
    have ho3 := (HOWN.out.alloc (.cells #[.int .i64 Xs, .int .i64 Xh, .int .i64 lo, .slice (some ⟨g3, 0, none⟩) N c3] 27)).alloc (.cells #[.int .i64 sq, .int .i64 (hd + by_), .int .i64 (fs + by_), .slice A k c] 27)
    have HM3 := Lib.hid hm3
    have HW3 := Lib.hid hw3
    have HN3 := Lib.hid hn3
    have HF3 := Lib.hid hf3
    have HO3 := Lib.hid ho3
    clear hm2 hw2 hm3 hw3 hn3 hf3 ho3 HOWN
    go_wp2_with fail
    obtain ⟨W4, hW4⟩ : ∃ X, X = (w2.alloc (.cells #[.int .i64 Xs, .int .i64 Xh, .int .i64 lo, .slice (some ⟨g3, 0, none⟩) N c3] 27)).alloc (.cells #[.int .i64 sq, .int .i64 (hd + by_), .int .i64 (fs + by_), .slice A k c] 27) := ⟨_, rfl⟩
    have sW4 : W4.heap.size = w2.heap.size + 2 := by rw [hW4]; simp
    rw [← hW4] at HM3 HW3 HN3 HF3 HO3 HB3 ⊢
    obtain ⟨p, hp⟩ : ∃ p, p = w2.heap.size := ⟨_, rfl⟩
    rw [← hp] at HN3 HF3 s2 sW4 hg3 ⊢
    have hp1 : w.heap.size + 1 < p := by omega
    clear hW4 hp x0 x1 x2 y0 y1 y2 y3 z0 z1 HB2
    refine (gocheck_any n y sn sq hd fs T A n tc k c R g _ (HT.out.below HB3.out) HN.out (HA.out.below HB3.out) HK.out WS.out).mono ?_
    rintro e w3 ⟨rfl, hb3⟩
    rw [HE.out]
    have s3 := hb3.size
    have HM4 := Lib.hid (row_below HM3.out hb3 (by omega))
    have HN4 := Lib.hid (row_below HN3.out hb3 (by omega))
    have HF4 := Lib.hid (row_below HF3.out hb3 (by omega))
    have HO4 := Lib.hid (HO3.out.below hb3)
    have HB4 := Lib.hid (HB3.out.trans (hb3.mono HB3.out.size))
    clear hb3 HM3 HN3 HF3 HO3 HW3 HB3
    obtain ⟨z0, x0, x1, x2⟩ := mc_open HM4.out
    obtain ⟨z1, ⟨y0, y1, y2, y3⟩, -⟩ := nw_open HF4.out
    go_wp2_with fail
    clear x0 x1 x2 y0 y1 y2 y3
    by_cases hE2 : gcE n y n R sq (hd + by_) (fs + by_) k g sn = 0
    · have HE2 := Lib.hid hE2
      obtain ⟨-, -, -, -, -, ⟨h5a, h5b⟩, ⟨h6a, h6b⟩⟩ := gcE_parts n y sn sq (hd + by_) (fs + by_) n k R g hE2
      clear hE2
      refine (gos_good n y sn sq (hd + by_) (fs + by_) T A n tc k c R g _ (HT.out.below HB4.out) HN.out (HA.out.below HB4.out) HE2.out).mono ?_
      rintro e w5 ⟨⟨v, d', rfl, hdn', lo', hi', N', A5, c5, hsp', hN', rfl, hown'⟩, hb5⟩
      rw [Int.toNat_natCast, mvC_laid] at hdn' hsp' hown'
      rw [Int.toNat_natCast] at hdn'
      rw [Int.toNat_natCast, mvC_laid]
      obtain rfl := (mvC_dn.1 hdn').uniq HDN.out
      rw [mvC_it, ← HC.out] at hsp' hown' ⊢
      have hu := hsp'.uniq (mvC_sp.2 HSP.out)
      obtain ⟨rfl, rfl⟩ := hu
      obtain rfl : N' = N := by omega
      have es : (mvC by_ ⟨Xf, Xs, Xh⟩).s = Xs := rfl
      have eh : (mvC by_ ⟨Xf, Xs, Xh⟩).h = Xh + by_ := rfl
      have ef : ∀ i : Nat, (mvC by_ ⟨Xf, Xs, Xh⟩).f (lo + by_ + i) = Xf (lo + i) := fun i => by show Xf (lo + by_ + i - by_) = _; congr 1; omega
      rw [es, eh]
      obtain ⟨g5, F5, rfl, hg5, hrow5, -, -⟩ := hown'.row (by omega)
      clear hrow5
      have HO5 := Lib.hid (hown'.rd.congr fun i _ => by rw [ef])
      have HX5 := Lib.hid (HO4.out.below hb5)
      have s5 := hb5.size
      have HM5 := Lib.hid (row_below HM4.out hb5 (by omega))
      have HN5 := Lib.hid (row_below HN4.out hb5 (by omega))
      have HF5 := Lib.hid (row_below HF4.out hb5 (by omega))
      have HB5 := Lib.hid (HB4.out.trans (hb5.mono HB4.out.size))
      clear hb5 hdn' hsp' hown' es eh ef HM4 HN4 HF4 HO4
      obtain ⟨z0, x0, x1, x2⟩ := mc_open HM5.out
      obtain ⟨z1, ⟨y0, y1, y2, y3⟩, -⟩ := nw_open HF5.out
      have HB6 := Lib.hid (HB5.out.alloc (by omega) (.cells #[.int .i64 Xs, .int .i64 (Xh + by_), .int .i64 (lo + by_), .slice (some ⟨g5, 0, none⟩) N' c5] 27))
      have HN6 := Lib.hid (HN5.out.alloc (.cells #[.int .i64 Xs, .int .i64 (Xh + by_), .int .i64 (lo + by_), .slice (some ⟨g5, 0, none⟩) N' c5] 27))
      have HV6 := Lib.hid (nw_new w5 27 Xs (Xh + by_) (lo + by_) (.slice (some ⟨g5, 0, none⟩) N' c5) rfl)
      have HO6 := Lib.hid (HO5.out.alloc (.cells #[.int .i64 Xs, .int .i64 (Xh + by_), .int .i64 (lo + by_), .slice (some ⟨g5, 0, none⟩) N' c5] 27))
      have HX6 := Lib.hid (HX5.out.alloc (.cells #[.int .i64 Xs, .int .i64 (Xh + by_), .int .i64 (lo + by_), .slice (some ⟨g5, 0, none⟩) N' c5] 27))
      go_wp2_with fail
      clear x0 x1 x2 y0 y1 y2 y3
      obtain ⟨W6, hW6⟩ : ∃ X, X = w5.alloc (.cells #[.int .i64 Xs, .int .i64 (Xh + by_), .int .i64 (lo + by_), .slice (some ⟨g5, 0, none⟩) N' c5] 27) := ⟨_, rfl⟩
      have sW6 : W6.heap.size = w5.heap.size + 1 := by rw [hW6]; simp
      rw [← hW6] at HN6 HV6 HO6 HX6 HB6 ⊢
      obtain ⟨q, hq⟩ : ∃ q, q = w5.heap.size := ⟨_, rfl⟩
      rw [← hq] at HV6 s5 sW6 ⊢
      have hpq : p < q := by have := HN5.out.lt; omega
      clear hW6 hq z0 z1 HB5 HN5 HM5 HF5 HO5 HX5
      refine (gocheck_any n y sn sq (hd + by_) (fs + by_) T A n tc k c R g _ (HT.out.below HB6.out) HN.out (HA.out.below HB6.out) HK.out WS.out).mono ?_
      rintro e w7 ⟨rfl, hb7⟩
      rw [HE2.out]
      have s7 := hb7.size
      have HN7 := Lib.hid (row_below HN6.out hb7 (by omega))
      have HV7 := Lib.hid (row_below HV6.out hb7 (by omega))
      have HO7 := Lib.hid (HO6.out.below hb7)
      have HX7 := Lib.hid (HX6.out.below hb7)
      have HB7 := Lib.hid (HB6.out.trans (hb7.mono HB6.out.size))
      clear hb7 HN6 HV6 HO6 HX6 HB6
      obtain ⟨z0, ⟨x0, x1, x2, x3⟩, ⟨f0, f1, f2, f3⟩⟩ := nw_open HN7.out
      obtain ⟨z1, ⟨y0, y1, y2, y3⟩, -⟩ := nw_open HV7.out
      have hne : q ≠ p := by omega
      have hne2 : p ≠ q := by omega
      have hl1 : Below w.heap.size w (w7.setCell ⟨p, 1, none⟩ (.int .i64 (Xh + by_))) := HB7.out.setCell (by show w.heap.size ≤ p; omega) _
      have hl2 : Below w.heap.size w ((w7.setCell ⟨p, 1, none⟩ (.int .i64 (Xh + by_))).setCell ⟨p, 2, none⟩ (.int .i64 (lo + by_))) := hl1.setCell (by show w.heap.size ≤ p; omega) _
      have HB8 := Lib.hid hl2
      clear hl1 hl2
      have hNs : N' ≤ maxLen := by unfold maxLen; omega
      have HNs := Lib.hid hNs
      clear hNs
      go_wp2_with fail
      refine (nows_same Xs (Xh + by_) (lo + by_) _ _ N' c3 c5 _ _ _ ((HX7.out.setFar (by omega) _).setFar (by omega) _) ((HO7.out.setFar (by omega) _).setFar (by omega) _) (fun _ _ => rfl) HNs.out).mono ?_
      rintro e w9 ⟨rfl, hb9⟩
      have HB9 := Lib.hid (HB8.out.trans (hb9.mono HB8.out.size))
      clear hb9
      go_wp2_with fail
      go_ret
      exact ⟨rfl, HB9.out⟩
    · refine (gos_bad n y sn sq (hd + by_) (fs + by_) T A n tc k c R g _ (HT.out.below HB4.out) HN.out (HA.out.below HB4.out) HK.out hE2).mono ?_
      rintro e w5 ⟨rfl, hb5⟩
      have s5 := hb5.size
      have HM5 := Lib.hid (row_below HM4.out hb5 (by omega))
      have HF5 := Lib.hid (row_below HF4.out hb5 (by omega))
      have HB5 := Lib.hid (HB4.out.trans (hb5.mono HB4.out.size))
      obtain ⟨z0, x0, x1, x2⟩ := mc_open HM5.out
      obtain ⟨z1, ⟨y0, y1, y2, y3⟩, -⟩ := nw_open HF5.out
      obtain ⟨E, hEe⟩ : ∃ E, E = gcE n y n R sq (hd + by_) (fs + by_) k g sn := ⟨_, rfl⟩
      rw [← hEe] at hE2 ⊢
      have HEE := Lib.hid hEe
      have hq : (E != 0) = true := by rw [bne_iff_ne]; exact hE2
      clear hEe hb5
      unfold zeroN
      have HB6 := Lib.hid (HB5.out.alloc (by omega) (.cells #[.int .i64 0, .int .i64 0, .int .i64 0, .slice none 0 0] 27))
      go_wp2_with fail
      refine (gocheck_any n y sn sq (hd + by_) (fs + by_) T A n tc k c R g _ (HT.out.below HB6.out) HN.out (HA.out.below HB6.out) HK.out WS.out).mono ?_
      rintro e w7 ⟨rfl, hb7⟩
      rw [← HEE.out]
      have HB7 := Lib.hid (HB6.out.trans (hb7.mono HB6.out.size))
      clear hb7
      go_wp2_with fail
      go_ret
      exact ⟨rfl, HB7.out⟩
  · refine (gos_bad S Y steps st hd fs T A n tc k c R g _ (HT.out.below HB1.out) HN.out (HA.out.below HB1.out) HK.out hE).mono ?_
    rintro e w2 ⟨rfl, hb2⟩
    have s2 := hb2.size
    have hm2 := row_below hm hb2 (by omega)
    have hw2 := row_below hw hb2 (by omega)
    have HB2 := Lib.hid (HB1.out.trans (hb2.mono HB1.out.size))
    obtain ⟨z0, x0, x1, x2⟩ := mc_open hm2
    obtain ⟨z1, ⟨y0, y1, y2, y3⟩, -⟩ := nw_open hw2
    clear hm hw hb2
    obtain ⟨E, hEe⟩ : ∃ E, E = gcE S Y n R st hd fs k g steps := ⟨_, rfl⟩
    rw [← hEe] at hE ⊢
    have HEE := Lib.hid hEe
    have hq : (E != 0) = true := by rw [bne_iff_ne]; exact hE
    clear hEe
    unfold zeroN
    have HB3 := Lib.hid ((HB2.out.alloc (by omega) (.cells #[.int .i64 0, .int .i64 0, .int .i64 0, .slice none 0 0] 27)).alloc (by simp; omega) (.cells #[.int .i64 st, .int .i64 (wrap64 (hd + by_)), .int .i64 (wrap64 (fs + by_)), .slice A k c] 27))
    go_wp2_with fail
    refine (gocheck_any S Y steps st hd fs T A n tc k c R g _ (HT.out.below HB3.out) HN.out (HA.out.below HB3.out) HK.out WS.out).mono ?_
    rintro e w3 ⟨rfl, hb3⟩
    rw [← HEE.out]
    have HB4 := Lib.hid (HB3.out.trans (hb3.mono HB3.out.size))
    clear hb3
    go_wp2_with fail
    go_ret
    exact ⟨rfl, HB4.out⟩
end Go.Proofs.Ytecbiokdefgoeaa
