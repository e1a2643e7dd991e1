/- The walk of TapeStill. Conditions: the arguments read as told. -/
import Derived.Test.YtecbiokdefgoeaaTapeGo
import Derived.Test.YtecbiokdefgoeaaTapeRef2
import Derived.Test.YtecbiokdefgoeaaTapeOpen
namespace Go.Proofs.Ytecbiokdefgoeaa
open Go.ChangeShapes Go.WideShapes Go.ChangeAt Go.RowKit
set_option linter.unusedVariables false
set_option maxRecDepth 100000 in
set_option maxHeartbeats 4000000 in
theorem tapeStill.walk (w : World) (S Y : Int) (T : Option Addr) (n tc : Nat) (R : Nat → SI) (st hd fs : Int) (s : SI) (steps : Int)
    (wS : (Lit.int .i64 S).wf = true) (wY : (Lit.int .i64 Y).wf = true) (gT : Tm w T n R) (wT : ∀ i, (R i).wide) (l : n ≤ tc) (m : tc ≤ maxLen)
    (w1 : (Lit.int .i64 st).wf = true) (w2 : (Lit.int .i64 hd).wf = true) (w3 : (Lit.int .i64 fs).wf = true) (gs : s.good w) (w4 : (Lit.int .i64 steps).wf = true) :
    Calls Try.prog 3 #[.agg #[.int .i64 S, .int .i64 Y, .slice T n tc], .agg #[.int .i64 st, .int .i64 hd, .int .i64 fs, .slice s.A s.n s.c], .int .i64 steps] w fun e w' => e = .returned (.bool true) ∧ Below w.heap.size w w' := by
  obtain ⟨A, k, c, g⟩ := s
  obtain ⟨hA, wg, lk, mk⟩ := gs
  have hn : n ≤ maxLen := by omega
  have hk : k ≤ maxLen := by show k ≤ _; have : k ≤ c := lk; have : c ≤ maxLen := mk; omega
  have hA' : Rd w A k (fun i => .int .i64 (g i)) := hA
  have HT := Lib.hid gT
  have HA := Lib.hid hA'
  have WS := Lib.hid wS
  have HN := Lib.hid hn
  have HK := Lib.hid hk
  clear gT hA hA' wS wY wT wg w1 w2 w3 w4 lk mk hn hk l m
  show Calls Try.prog 3 #[.agg #[.int .i64 S, .int .i64 Y, .slice T n tc], .agg #[.int .i64 st, .int .i64 hd, .int .i64 fs, .slice A k c], .int .i64 steps] w fun e w' => e = .returned (.bool true) ∧ Below w.heap.size w w'
  go_enter Try.func3, Try.ntmps3
  go_wp2_with fail
  have b0 : ((w.alloc (.cells #[.int .i64 S, .int .i64 Y, .slice T n tc] 24)).alloc (.cells #[.int .i64 st, .int .i64 hd, .int .i64 fs, .slice A k c] 27)).cell? ⟨w.heap.size, 0, none⟩ = some (.int .i64 S) := by
    rw [World.cell?_alloc_lt _ _ _ (by simp)]; simp [go_sem]
  have b1 : ((w.alloc (.cells #[.int .i64 S, .int .i64 Y, .slice T n tc] 24)).alloc (.cells #[.int .i64 st, .int .i64 hd, .int .i64 fs, .slice A k c] 27)).cell? ⟨w.heap.size, 1, none⟩ = some (.int .i64 Y) := by
    rw [World.cell?_alloc_lt _ _ _ (by simp)]; simp [go_sem]
  have b2 : ((w.alloc (.cells #[.int .i64 S, .int .i64 Y, .slice T n tc] 24)).alloc (.cells #[.int .i64 st, .int .i64 hd, .int .i64 fs, .slice A k c] 27)).cell? ⟨w.heap.size, 2, none⟩ = some (.slice T n tc) := by
    rw [World.cell?_alloc_lt _ _ _ (by simp)]; simp [go_sem]
  have n0 : ((w.alloc (.cells #[.int .i64 S, .int .i64 Y, .slice T n tc] 24)).alloc (.cells #[.int .i64 st, .int .i64 hd, .int .i64 fs, .slice A k c] 27)).cell? ⟨w.heap.size + 1, 0, none⟩ = some (.int .i64 st) := by simp [go_sem]
  have n1 : ((w.alloc (.cells #[.int .i64 S, .int .i64 Y, .slice T n tc] 24)).alloc (.cells #[.int .i64 st, .int .i64 hd, .int .i64 fs, .slice A k c] 27)).cell? ⟨w.heap.size + 1, 1, none⟩ = some (.int .i64 hd) := by simp [go_sem]
  have n2 : ((w.alloc (.cells #[.int .i64 S, .int .i64 Y, .slice T n tc] 24)).alloc (.cells #[.int .i64 st, .int .i64 hd, .int .i64 fs, .slice A k c] 27)).cell? ⟨w.heap.size + 1, 2, none⟩ = some (.int .i64 fs) := by simp [go_sem]
  have n3 : ((w.alloc (.cells #[.int .i64 S, .int .i64 Y, .slice T n tc] 24)).alloc (.cells #[.int .i64 st, .int .i64 hd, .int .i64 fs, .slice A k c] 27)).cell? ⟨w.heap.size + 1, 3, none⟩ = some (.slice A k c) := by simp [go_sem]
  have hB1 := ((Below.refl w.heap.size w).alloc (Nat.le_refl _) (.cells #[.int .i64 S, .int .i64 Y, .slice T n tc] 24)).alloc (by simp) (.cells #[.int .i64 st, .int .i64 hd, .int .i64 fs, .slice A k c] 27)
  obtain ⟨W1, hW1⟩ : ∃ X, X = (w.alloc (.cells #[.int .i64 S, .int .i64 Y, .slice T n tc] 24)).alloc (.cells #[.int .i64 st, .int .i64 hd, .int .i64 fs, .slice A k c] 27) := ⟨_, rfl⟩
  have sW : W1.heap.size = w.heap.size + 2 := by rw [hW1]; simp
  rw [← hW1] at b0 b1 b2 n0 n1 n2 n3 hB1 ⊢
  clear hW1
  have HB1 := Lib.hid hB1
  clear hB1
  by_cases hE : gcE S Y n R st hd fs k g steps = 0
  · obtain ⟨p1, p2, p3, ⟨p4, p5⟩, ⟨p6, p7⟩, ⟨h3a, h3b⟩, ⟨h4a, h4b⟩⟩ := gcE_parts S Y steps st hd fs n k R g hE
    obtain ⟨y, hm⟩ := tpE_mok p1
    obtain ⟨rfl, rfl, n1', n5, y2, y4, hrow, hgt⟩ := hm
    obtain ⟨sn, rfl⟩ := Int.eq_ofNat_of_zero_le p4
    obtain ⟨sq, rfl⟩ := Int.eq_ofNat_of_zero_le p6
    have HE := Lib.hid hE
    clear hE p1 p3 hrow hgt
    refine (gos_good n y sn sq hd fs T A n tc k c R g _ (HT.out.below HB1.out) HN.out (HA.out.below HB1.out) HE.out).mono ?_
    rintro e w2 ⟨⟨v, d, rfl, hdn, lo, hi, N, A3, c3, hsp, hN, rfl, hown⟩, hb2⟩
    rw [Int.toNat_natCast] at hdn hsp hown
    rw [Int.toNat_natCast] at hdn ⊢
    have HDN := Lib.hid hdn
    have e0 : ∃ C, C = itC (TR R) d ⟨laid g k fs, sq, hd⟩ := ⟨_, rfl⟩
    obtain ⟨C, hC⟩ := e0
    rw [← hC] at hsp hown ⊢
    have HC := Lib.hid hC
    obtain ⟨Xf, Xs, Xh⟩ := C
    have dd : d ≤ sn ∧ (Xs < n → d = sn) ∧ (n ≤ sq → d = 0 ∧ Xs = sq ∧ Xh = hd) := by
      have h1 := HDN.out
      refine ⟨h1.1, fun hl => ?_, fun hl => ?_⟩
      · rcases h1.2.2 with h | h
        · exact h
        · rw [← HC.out] at h; have h' : n ≤ Xs := h; omega
      · have d0 : d = 0 := by
          rcases Nat.eq_zero_or_pos d with h | h
          · exact h
          · have := h1.2.1 0 h; have : sq < n := this; omega
        have hc := HC.out
        rw [d0] at hc
        have hc' : (⟨Xf, Xs, Xh⟩ : Cf) = ⟨laid g k fs, sq, hd⟩ := hc
        injection hc' with _ e1 e2
        exact ⟨d0, e1, e2⟩
    obtain ⟨d1, d2, d3⟩ := dd
    have D2 := Lib.hid d2
    have D3 := Lib.hid d3
    have s2 := hb2.size
    have x0 := (hb2.cell (p := ⟨w.heap.size, 0, none⟩) (by show w.heap.size < _; omega)).trans b0
    have x1 := (hb2.cell (p := ⟨w.heap.size, 1, none⟩) (by show w.heap.size < _; omega)).trans b1
    have x2 := (hb2.cell (p := ⟨w.heap.size, 2, none⟩) (by show w.heap.size < _; omega)).trans b2
    have y0 := (hb2.cell (p := ⟨w.heap.size + 1, 0, none⟩) (by show w.heap.size + 1 < _; omega)).trans n0
    have y1 := (hb2.cell (p := ⟨w.heap.size + 1, 1, none⟩) (by show w.heap.size + 1 < _; omega)).trans n1
    have y2' := (hb2.cell (p := ⟨w.heap.size + 1, 2, none⟩) (by show w.heap.size + 1 < _; omega)).trans n2
    have y3 := (hb2.cell (p := ⟨w.heap.size + 1, 3, none⟩) (by show w.heap.size + 1 < _; omega)).trans n3
    have HB2 := Lib.hid (HB1.out.trans (hb2.mono HB1.out.size))
    clear b0 b1 b2 n0 n1 n2 n3 hdn hC hsp hown d2 d3 hb2
    have z1 : w.heap.size < w2.heap.size := by omega
    have z2 : w.heap.size + 1 < w2.heap.size := by omega
    have HB3 := Lib.hid (HB2.out.alloc (by omega) (.cells #[.int .i64 Xs, .int .i64 Xh, .int .i64 lo, .slice A3 N c3] 27))
    go_wp2_with fail
    refine (gocheck_any n y sn sq hd fs T A n tc k c R g _ (HT.out.below HB3.out) HN.out (HA.out.below HB3.out) HK.out WS.out).mono ?_
    rintro e w3 ⟨rfl, hb3⟩
    rw [HE.out]
    have s3 := hb3.size
    have g0 := (hb3.cell (p := ⟨w.heap.size, 0, none⟩) (by show w.heap.size < _; simp; omega)).trans ((World.cell?_alloc_lt _ _ _ (by show w.heap.size < _; omega)).trans x0)
    have l0 := (hb3.cell (p := ⟨w.heap.size + 1, 0, none⟩) (by show w.heap.size + 1 < _; simp; omega)).trans ((World.cell?_alloc_lt _ _ _ (by show w.heap.size + 1 < _; omega)).trans y0)
    have l1 := (hb3.cell (p := ⟨w.heap.size + 1, 1, none⟩) (by show w.heap.size + 1 < _; simp; omega)).trans ((World.cell?_alloc_lt _ _ _ (by show w.heap.size + 1 < _; omega)).trans y1)
    have r0 := (hb3.cell (p := ⟨w2.heap.size, 0, none⟩) (by show w2.heap.size < _; simp)).trans (c := some (.int .i64 Xs)) (by simp [go_sem])
    have r1 := (hb3.cell (p := ⟨w2.heap.size, 1, none⟩) (by show w2.heap.size < _; simp)).trans (c := some (.int .i64 Xh)) (by simp [go_sem])
    have HB4 := Lib.hid (HB3.out.trans (hb3.mono HB3.out.size))
    clear x0 x1 x2 y0 y1 y2' y3 hb3
    by_cases hl : Xs < n
    · obtain rfl := D2.out hl
      by_cases hq : sq < n
      · go_wp2_with fail
        go_ret
        exact ⟨rfl, HB4.out⟩
      · have := D3.out (by omega)
        omega
    · by_cases hq : sq < n
      · go_wp2_with fail
        go_ret
        exact ⟨rfl, HB4.out⟩
      · obtain ⟨rfl, rfl, rfl⟩ := D3.out (by omega)
        go_wp2_with fail
        go_ret
        exact ⟨rfl, HB4.out⟩
  · refine (gos_bad S Y steps st hd fs T A n tc k c R g _ (HT.out.below HB1.out) HN.out (HA.out.below HB1.out) HK.out hE).mono ?_
    rintro e w2 ⟨rfl, hb2⟩
    have s2 := hb2.size
    have x0 := (hb2.cell (p := ⟨w.heap.size, 0, none⟩) (by show w.heap.size < _; omega)).trans b0
    have x1 := (hb2.cell (p := ⟨w.heap.size, 1, none⟩) (by show w.heap.size < _; omega)).trans b1
    have x2 := (hb2.cell (p := ⟨w.heap.size, 2, none⟩) (by show w.heap.size < _; omega)).trans b2
    have y0 := (hb2.cell (p := ⟨w.heap.size + 1, 0, none⟩) (by show w.heap.size + 1 < _; omega)).trans n0
    have y1 := (hb2.cell (p := ⟨w.heap.size + 1, 1, none⟩) (by show w.heap.size + 1 < _; omega)).trans n1
    have y2' := (hb2.cell (p := ⟨w.heap.size + 1, 2, none⟩) (by show w.heap.size + 1 < _; omega)).trans n2
    have y3 := (hb2.cell (p := ⟨w.heap.size + 1, 3, none⟩) (by show w.heap.size + 1 < _; omega)).trans n3
    have HB2 := Lib.hid (HB1.out.trans (hb2.mono HB1.out.size))
    clear b0 b1 b2 n0 n1 n2 n3 hb2
    obtain ⟨E, hEe⟩ : ∃ E, E = gcE S Y n R st hd fs k g steps := ⟨_, rfl⟩
    rw [← hEe] at hE ⊢
    have HEE := Lib.hid hEe
    have hq : (E != 0) = true := by rw [bne_iff_ne]; exact hE
    clear hEe
    unfold zeroN
    have z1 : w.heap.size < w2.heap.size := by omega
    have z2 : w.heap.size + 1 < w2.heap.size := by omega
    have HB3 := Lib.hid (HB2.out.alloc (by omega) (.cells #[.int .i64 0, .int .i64 0, .int .i64 0, .slice none 0 0] 27))
    go_wp2_with fail
    refine (gocheck_any S Y steps st hd fs T A n tc k c R g _ (HT.out.below HB3.out) HN.out (HA.out.below HB3.out) HK.out WS.out).mono ?_
    rintro e w3 ⟨rfl, hb3⟩
    rw [← HEE.out]
    have HB4 := Lib.hid (HB3.out.trans (hb3.mono HB3.out.size))
    clear hb3
    go_wp2_with fail
    go_ret
    exact ⟨rfl, HB4.out⟩
end Go.Proofs.Ytecbiokdefgoeaa
