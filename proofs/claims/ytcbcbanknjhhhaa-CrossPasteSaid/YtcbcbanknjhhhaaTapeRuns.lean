/- What tape.Run computes. Conditions: as each theorem states. -/
import Derived.Test.YtcbcbanknjhhhaaTapeMach
namespace Go.Proofs.Ytcbcbanknjhhhaa
open Go.ChangeShapes Go.WideShapes Go.ChangeAt Go.RowKit Go.Maps
set_option linter.unusedVariables false
set_option maxRecDepth 100000 in
set_option maxHeartbeats 4000000 in
theorem runs_bad (S Y steps : Int) (T A : Option Addr) (n tc k c : Nat) (R : Nat → SI) (g : Nat → Int) (w : World) (hT : Tm w T n R) (hn : n ≤ maxLen) (hA : Rd w A k (fun i => .int .i64 (g i))) (hk : k ≤ maxLen) (hE : rcE S Y n R k g steps ≠ 0) :
    Calls Try.prog 6 #[.agg #[.int .i64 S, .int .i64 Y, .slice T n tc], .slice A k c, .int .i64 steps] w fun e w' => e = .returned (.tuple #[zeroN, .int .i64 0, .int .i64 (rcE S Y n R k g steps)]) ∧ Below w.heap.size w w' := by
  have HT := Lib.hid hT
  have HA := Lib.hid hA
  clear hT hA
  unfold maxLen at hk
  go_enter Try.func6, Try.ntmps6
  go_wp2_with fail
  have b0 : ((w.alloc (.cells #[.int .i64 S, .int .i64 Y, .slice T n tc] 24)).alloc (.cells #[.int .i64 0, .int .i64 0, .int .i64 0, .slice none 0 0] 31)).cell? ⟨w.heap.size, 0, none⟩ = some (.int .i64 S) := by
    rw [World.cell?_alloc_lt _ _ _ (by simp <;> omega)]; simp [go_sem]
  have b1 : ((w.alloc (.cells #[.int .i64 S, .int .i64 Y, .slice T n tc] 24)).alloc (.cells #[.int .i64 0, .int .i64 0, .int .i64 0, .slice none 0 0] 31)).cell? ⟨w.heap.size, 1, none⟩ = some (.int .i64 Y) := by
    rw [World.cell?_alloc_lt _ _ _ (by simp <;> omega)]; simp [go_sem]
  have b2 : ((w.alloc (.cells #[.int .i64 S, .int .i64 Y, .slice T n tc] 24)).alloc (.cells #[.int .i64 0, .int .i64 0, .int .i64 0, .slice none 0 0] 31)).cell? ⟨w.heap.size, 2, none⟩ = some (.slice T n tc) := by
    rw [World.cell?_alloc_lt _ _ _ (by simp <;> omega)]; simp [go_sem]
  have hB1 := ((Below.refl w.heap.size w).alloc (Nat.le_refl _) (.cells #[.int .i64 S, .int .i64 Y, .slice T n tc] 24)).alloc (by simp <;> omega) (.cells #[.int .i64 0, .int .i64 0, .int .i64 0, .slice none 0 0] 31)
  have hres := row4 (w.alloc (.cells #[.int .i64 S, .int .i64 Y, .slice T n tc] 24)) 31 (.int .i64 0) (.int .i64 0) (.int .i64 0) (.slice none 0 0) (nwx 0 0 0 (.slice none 0 0)) rfl rfl rfl rfl
  obtain ⟨W1, hW1⟩ : ∃ X, X = ((w.alloc (.cells #[.int .i64 S, .int .i64 Y, .slice T n tc] 24)).alloc (.cells #[.int .i64 0, .int .i64 0, .int .i64 0, .slice none 0 0] 31)) := ⟨_, rfl⟩
  rw [show (w.alloc (.cells #[.int .i64 S, .int .i64 Y, .slice T n tc] 24)).heap.size = w.heap.size + 1 by simp] at hres
  have sW : W1.heap.size = w.heap.size + 1 + 1 := by rw [hW1]; simp
  rw [← hW1] at b0 b1 b2 hB1 hres ⊢
  clear hW1
  refine (tapeCheck_any S Y T n tc R _ (HT.out.below hB1) hn).mono ?_
  rintro e w2 ⟨rfl, hb2⟩
  have s2 := hb2.size
  have hB2 := hB1.trans (hb2.mono hB1.size)
  have hr2 := row_below hres hb2 (by omega)
  have d0 := (hb2.cell (p := ⟨w.heap.size, 0, none⟩) (by show w.heap.size < _; omega)).trans b0
  have d1 := (hb2.cell (p := ⟨w.heap.size, 1, none⟩) (by show w.heap.size < _; omega)).trans b1
  have d2 := (hb2.cell (p := ⟨w.heap.size, 2, none⟩) (by show w.heap.size < _; omega)).trans b2
  have HR2 := Lib.hid hr2
  have HB2 := Lib.hid hB2
  clear b0 b1 b2 hres hr2 hB2 hb2
  obtain ⟨E, hEe⟩ : ∃ E, E = tpE S Y n R := ⟨_, rfl⟩
  rw [← hEe]
  have HEE := Lib.hid hEe
  clear hEe
  by_cases hE0 : E = 0
  · subst hE0
    by_cases hk8 : 8 < k
    · have hcode : rcE S Y n R k g steps = 1 := by unfold rcE; rw [← HEE.out, if_neg (by omega), if_pos (hk8)]
      have HCD := Lib.hid hcode
      clear hcode
      have hr3 := HR2.out
      have f0 := hr3.frozen 0
      have f1 := hr3.frozen 1
      have f2 := hr3.frozen 2
      have f3 := hr3.frozen 3
      have q0 := hr3.cell (i := 0) (by omega)
      have q1 := hr3.cell (i := 1) (by omega)
      have q2 := hr3.cell (i := 2) (by omega)
      have q3 := hr3.cell (i := 3) (by omega)
      have hs0 : Below w.heap.size w (w2.setCell ⟨w.heap.size + 1, 0, none⟩ (.int .i64 0)) := HB2.out.setCell (by show w.heap.size ≤ w.heap.size + 1; omega) _
      have hs1 : Below w.heap.size w ((w2.setCell ⟨w.heap.size + 1, 0, none⟩ (.int .i64 0)).setCell ⟨w.heap.size + 1, 1, none⟩ (.int .i64 0)) := hs0.setCell (by show w.heap.size ≤ w.heap.size + 1; omega) _
      have hs2 : Below w.heap.size w (((w2.setCell ⟨w.heap.size + 1, 0, none⟩ (.int .i64 0)).setCell ⟨w.heap.size + 1, 1, none⟩ (.int .i64 0)).setCell ⟨w.heap.size + 1, 2, none⟩ (.int .i64 0)) := hs1.setCell (by show w.heap.size ≤ w.heap.size + 1; omega) _
      have hs3 : Below w.heap.size w ((((w2.setCell ⟨w.heap.size + 1, 0, none⟩ (.int .i64 0)).setCell ⟨w.heap.size + 1, 1, none⟩ (.int .i64 0)).setCell ⟨w.heap.size + 1, 2, none⟩ (.int .i64 0)).setCell ⟨w.heap.size + 1, 3, none⟩ (.slice none 0 0)) := hs2.setCell (by show w.heap.size ≤ w.heap.size + 1; omega) _
      have HBL := Lib.hid hs3
      clear hr3 hs0 hs1 hs2 hs3
      go_wp2_with fail
      (try simp only [Exit.inBlock, Exit.then])
      exact bodyPost_ret (v := .tuple #[zeroN, .int .i64 0, .int .i64 1]) (by rw [results_c2 rfl]; go_simp; rfl) rfl ⟨by rw [HCD.out], HBL.out⟩
    · have hk0 : k ≤ 8 := by omega
      have hY4 : Y ≤ 1000 := by
        obtain ⟨y, hm⟩ := tpE_mok (HEE.out.symm)
        have := hm.hY; have := hm.y4; omega
      cases hg : insB Y k g with
      | false =>
        have hcode : rcE S Y n R k g steps = 2 := by unfold rcE; rw [← HEE.out, if_neg (by omega), if_neg (by omega), if_pos (by first | rfl | exact hg)]
        have HCD := Lib.hid hcode
        clear hcode
        have HG := Lib.hid hg
        clear hg
        go_wp2_with fail
        refine (lay_bad S Y T A n tc k c g 0 _ (HA.out.below HB2.out) (by omega) HG.out hY4 (by omega) (by omega)).mono ?_
        rintro e w3 ⟨rfl, hb3⟩
        have hr3 := row_below HR2.out hb3 (by omega)
        have f0 := hr3.frozen 0
        have f1 := hr3.frozen 1
        have f2 := hr3.frozen 2
        have f3 := hr3.frozen 3
        have q0 := hr3.cell (i := 0) (by omega)
        have q1 := hr3.cell (i := 1) (by omega)
        have q2 := hr3.cell (i := 2) (by omega)
        have q3 := hr3.cell (i := 3) (by omega)
        have hs0 : Below w.heap.size w (w3.setCell ⟨w.heap.size + 1, 0, none⟩ (.int .i64 0)) := (HB2.out.trans (hb3.mono HB2.out.size)).setCell (by show w.heap.size ≤ w.heap.size + 1; omega) _
        have hs1 : Below w.heap.size w ((w3.setCell ⟨w.heap.size + 1, 0, none⟩ (.int .i64 0)).setCell ⟨w.heap.size + 1, 1, none⟩ (.int .i64 0)) := hs0.setCell (by show w.heap.size ≤ w.heap.size + 1; omega) _
        have hs2 : Below w.heap.size w (((w3.setCell ⟨w.heap.size + 1, 0, none⟩ (.int .i64 0)).setCell ⟨w.heap.size + 1, 1, none⟩ (.int .i64 0)).setCell ⟨w.heap.size + 1, 2, none⟩ (.int .i64 0)) := hs1.setCell (by show w.heap.size ≤ w.heap.size + 1; omega) _
        have hs3 : Below w.heap.size w ((((w3.setCell ⟨w.heap.size + 1, 0, none⟩ (.int .i64 0)).setCell ⟨w.heap.size + 1, 1, none⟩ (.int .i64 0)).setCell ⟨w.heap.size + 1, 2, none⟩ (.int .i64 0)).setCell ⟨w.heap.size + 1, 3, none⟩ (.slice none 0 0)) := hs2.setCell (by show w.heap.size ≤ w.heap.size + 1; omega) _
        have HBL := Lib.hid hs3
        clear hr3 hs0 hs1 hs2 hs3
        go_wp2_with fail
        (try simp only [Exit.inBlock, Exit.then])
        exact bodyPost_ret (v := .tuple #[zeroN, .int .i64 0, .int .i64 2]) (by rw [results_c2 rfl]; go_simp; rfl) rfl ⟨by rw [HCD.out], HBL.out⟩
      | true =>
        have hst : steps < 0 ∨ 60 < steps := by
          by_cases e : steps < 0 ∨ 60 < steps
          · exact e
          · exact absurd (by unfold rcE; rw [← HEE.out, if_neg (by omega), if_neg (by omega), if_neg (by rw [hg]; simp), if_neg (e)]) hE
        have hcode : rcE S Y n R k g steps = 7 := by unfold rcE; rw [← HEE.out, if_neg (by omega), if_neg (by omega), if_neg (by rw [hg]; simp), if_pos (hst)]
        have HCD := Lib.hid hcode
        clear hcode
        have HG := Lib.hid hg
        clear hg
        by_cases st0 : steps < 0
        · clear hst
          go_wp2_with fail
          refine (lay_good S Y T A n tc k c g 0 _ (HA.out.below HB2.out) (by omega) HG.out hY4 (by omega) (by omega)).mono ?_
          rintro e w3 ⟨⟨b, hbb, rfl, hM3⟩, hb3⟩
          clear hM3
          have hr3 := row_below HR2.out hb3 (by omega)
          have f0 := hr3.frozen 0
          have f1 := hr3.frozen 1
          have f2 := hr3.frozen 2
          have f3 := hr3.frozen 3
          have q0 := hr3.cell (i := 0) (by omega)
          have q1 := hr3.cell (i := 1) (by omega)
          have q2 := hr3.cell (i := 2) (by omega)
          have q3 := hr3.cell (i := 3) (by omega)
          have hs0 : Below w.heap.size w (w3.setCell ⟨w.heap.size + 1, 0, none⟩ (.int .i64 0)) := (HB2.out.trans (hb3.mono HB2.out.size)).setCell (by show w.heap.size ≤ w.heap.size + 1; omega) _
          have hs1 : Below w.heap.size w ((w3.setCell ⟨w.heap.size + 1, 0, none⟩ (.int .i64 0)).setCell ⟨w.heap.size + 1, 1, none⟩ (.int .i64 0)) := hs0.setCell (by show w.heap.size ≤ w.heap.size + 1; omega) _
          have hs2 : Below w.heap.size w (((w3.setCell ⟨w.heap.size + 1, 0, none⟩ (.int .i64 0)).setCell ⟨w.heap.size + 1, 1, none⟩ (.int .i64 0)).setCell ⟨w.heap.size + 1, 2, none⟩ (.int .i64 0)) := hs1.setCell (by show w.heap.size ≤ w.heap.size + 1; omega) _
          have hs3 : Below w.heap.size w ((((w3.setCell ⟨w.heap.size + 1, 0, none⟩ (.int .i64 0)).setCell ⟨w.heap.size + 1, 1, none⟩ (.int .i64 0)).setCell ⟨w.heap.size + 1, 2, none⟩ (.int .i64 0)).setCell ⟨w.heap.size + 1, 3, none⟩ (.slice none 0 0)) := hs2.setCell (by show w.heap.size ≤ w.heap.size + 1; omega) _
          have HBL := Lib.hid hs3
          clear hr3 hs0 hs1 hs2 hs3
          go_wp2_with fail
          (try simp only [Exit.inBlock, Exit.then])
          exact bodyPost_ret (v := .tuple #[zeroN, .int .i64 0, .int .i64 7]) (by rw [results_c2 rfl]; go_simp; rfl) rfl ⟨by rw [HCD.out], HBL.out⟩
        · have st1 : 60 < steps := by omega
          clear hst
          go_wp2_with fail
          refine (lay_good S Y T A n tc k c g 0 _ (HA.out.below HB2.out) (by omega) HG.out hY4 (by omega) (by omega)).mono ?_
          rintro e w3 ⟨⟨b, hbb, rfl, hM3⟩, hb3⟩
          clear hM3
          have hr3 := row_below HR2.out hb3 (by omega)
          have f0 := hr3.frozen 0
          have f1 := hr3.frozen 1
          have f2 := hr3.frozen 2
          have f3 := hr3.frozen 3
          have q0 := hr3.cell (i := 0) (by omega)
          have q1 := hr3.cell (i := 1) (by omega)
          have q2 := hr3.cell (i := 2) (by omega)
          have q3 := hr3.cell (i := 3) (by omega)
          have hs0 : Below w.heap.size w (w3.setCell ⟨w.heap.size + 1, 0, none⟩ (.int .i64 0)) := (HB2.out.trans (hb3.mono HB2.out.size)).setCell (by show w.heap.size ≤ w.heap.size + 1; omega) _
          have hs1 : Below w.heap.size w ((w3.setCell ⟨w.heap.size + 1, 0, none⟩ (.int .i64 0)).setCell ⟨w.heap.size + 1, 1, none⟩ (.int .i64 0)) := hs0.setCell (by show w.heap.size ≤ w.heap.size + 1; omega) _
          have hs2 : Below w.heap.size w (((w3.setCell ⟨w.heap.size + 1, 0, none⟩ (.int .i64 0)).setCell ⟨w.heap.size + 1, 1, none⟩ (.int .i64 0)).setCell ⟨w.heap.size + 1, 2, none⟩ (.int .i64 0)) := hs1.setCell (by show w.heap.size ≤ w.heap.size + 1; omega) _
          have hs3 : Below w.heap.size w ((((w3.setCell ⟨w.heap.size + 1, 0, none⟩ (.int .i64 0)).setCell ⟨w.heap.size + 1, 1, none⟩ (.int .i64 0)).setCell ⟨w.heap.size + 1, 2, none⟩ (.int .i64 0)).setCell ⟨w.heap.size + 1, 3, none⟩ (.slice none 0 0)) := hs2.setCell (by show w.heap.size ≤ w.heap.size + 1; omega) _
          have HBL := Lib.hid hs3
          clear hr3 hs0 hs1 hs2 hs3
          go_wp2_with fail
          (try simp only [Exit.inBlock, Exit.then])
          exact bodyPost_ret (v := .tuple #[zeroN, .int .i64 0, .int .i64 7]) (by rw [results_c2 rfl]; go_simp; rfl) rfl ⟨by rw [HCD.out], HBL.out⟩
  · have hq : (E != 0) = true := by rw [bne_iff_ne]; exact hE0
    have hcode : rcE S Y n R k g steps = E := by unfold rcE; rw [← HEE.out, if_pos (hE0)]
    have HCD := Lib.hid hcode
    clear hcode
    have hr3 := HR2.out
    have f0 := hr3.frozen 0
    have f1 := hr3.frozen 1
    have f2 := hr3.frozen 2
    have f3 := hr3.frozen 3
    have q0 := hr3.cell (i := 0) (by omega)
    have q1 := hr3.cell (i := 1) (by omega)
    have q2 := hr3.cell (i := 2) (by omega)
    have q3 := hr3.cell (i := 3) (by omega)
    have hs0 : Below w.heap.size w (w2.setCell ⟨w.heap.size + 1, 0, none⟩ (.int .i64 0)) := HB2.out.setCell (by show w.heap.size ≤ w.heap.size + 1; omega) _
    have hs1 : Below w.heap.size w ((w2.setCell ⟨w.heap.size + 1, 0, none⟩ (.int .i64 0)).setCell ⟨w.heap.size + 1, 1, none⟩ (.int .i64 0)) := hs0.setCell (by show w.heap.size ≤ w.heap.size + 1; omega) _
    have hs2 : Below w.heap.size w (((w2.setCell ⟨w.heap.size + 1, 0, none⟩ (.int .i64 0)).setCell ⟨w.heap.size + 1, 1, none⟩ (.int .i64 0)).setCell ⟨w.heap.size + 1, 2, none⟩ (.int .i64 0)) := hs1.setCell (by show w.heap.size ≤ w.heap.size + 1; omega) _
    have hs3 : Below w.heap.size w ((((w2.setCell ⟨w.heap.size + 1, 0, none⟩ (.int .i64 0)).setCell ⟨w.heap.size + 1, 1, none⟩ (.int .i64 0)).setCell ⟨w.heap.size + 1, 2, none⟩ (.int .i64 0)).setCell ⟨w.heap.size + 1, 3, none⟩ (.slice none 0 0)) := hs2.setCell (by show w.heap.size ≤ w.heap.size + 1; omega) _
    have HBL := Lib.hid hs3
    clear hr3 hs0 hs1 hs2 hs3
    go_wp2_with fail
    (try simp only [Exit.inBlock, Exit.then])
    exact bodyPost_ret (v := .tuple #[zeroN, .int .i64 0, .int .i64 E]) (by rw [results_c2 rfl]; go_simp; rfl) rfl ⟨by rw [HCD.out], HBL.out⟩
theorem rcE_parts (S Y steps : Int) (n k : Nat) (R : Nat → SI) (g : Nat → Int) (hE : rcE S Y n R k g steps = 0) : tpE S Y n R = 0 ∧ k ≤ 8 ∧ insB Y k g = true ∧ (0 ≤ steps ∧ steps ≤ 60) := by
  unfold rcE at hE
  by_cases h1 : tpE S Y n R = 0
  · rw [if_neg (by rw [h1]; simp)] at hE
    by_cases h2 : 8 < k
    · rw [if_pos h2] at hE; omega
    · rw [if_neg h2] at hE
      cases h3 : insB Y k g with
      | false => rw [if_pos h3] at hE; omega
      | true =>
        rw [if_neg (by rw [h3]; simp)] at hE
        by_cases h4 : steps < 0 ∨ 60 < steps
        · rw [if_pos h4] at hE; omega
        · exact ⟨h1, by omega, rfl, by omega⟩
  · rw [if_pos h1] at hE; exact absurd hE h1
set_option maxRecDepth 100000 in
set_option maxHeartbeats 4000000 in
theorem runs_good (S Y steps : Int) (T A : Option Addr) (n tc k c : Nat) (R : Nat → SI) (g : Nat → Int) (w : World) (hT : Tm w T n R) (hn : n ≤ maxLen) (hA : Rd w A k (fun i => .int .i64 (g i))) (hE : rcE S Y n R k g steps = 0) :
    Calls Try.prog 6 #[.agg #[.int .i64 S, .int .i64 Y, .slice T n tc], .slice A k c, .int .i64 steps] w (RunsRet n R steps.toNat (begin0 g k) w) := by
  obtain ⟨p1, p2, p3, ⟨p4, p5⟩⟩ := rcE_parts S Y steps n k R g hE
  obtain ⟨y, hm⟩ := tpE_mok p1
  obtain ⟨rfl, rfl, n1, n5, y2, y4, hrow, hgt⟩ := hm
  obtain ⟨sn, rfl⟩ := Int.eq_ofNat_of_zero_le p4
  have P1 := Lib.hid p1
  have P3 := Lib.hid p3
  have HRW := Lib.hid hrow
  have HGT := Lib.hid hgt
  clear p1 p3 hE hrow hgt
  have HT := Lib.hid hT
  have HA := Lib.hid hA
  clear hT hA
  go_enter Try.func6, Try.ntmps6
  go_wp2_with fail
  have b0 : ((w.alloc (.cells #[.int .i64 n, .int .i64 y, .slice T n tc] 24)).alloc (.cells #[.int .i64 0, .int .i64 0, .int .i64 0, .slice none 0 0] 31)).cell? ⟨w.heap.size, 0, none⟩ = some (.int .i64 n) := by
    rw [World.cell?_alloc_lt _ _ _ (by simp <;> omega)]; simp [go_sem]
  have b1 : ((w.alloc (.cells #[.int .i64 n, .int .i64 y, .slice T n tc] 24)).alloc (.cells #[.int .i64 0, .int .i64 0, .int .i64 0, .slice none 0 0] 31)).cell? ⟨w.heap.size, 1, none⟩ = some (.int .i64 y) := by
    rw [World.cell?_alloc_lt _ _ _ (by simp <;> omega)]; simp [go_sem]
  have b2 : ((w.alloc (.cells #[.int .i64 n, .int .i64 y, .slice T n tc] 24)).alloc (.cells #[.int .i64 0, .int .i64 0, .int .i64 0, .slice none 0 0] 31)).cell? ⟨w.heap.size, 2, none⟩ = some (.slice T n tc) := by
    rw [World.cell?_alloc_lt _ _ _ (by simp <;> omega)]; simp [go_sem]
  have hB1 := ((Below.refl w.heap.size w).alloc (Nat.le_refl _) (.cells #[.int .i64 n, .int .i64 y, .slice T n tc] 24)).alloc (by simp <;> omega) (.cells #[.int .i64 0, .int .i64 0, .int .i64 0, .slice none 0 0] 31)
  have hres := row4 (w.alloc (.cells #[.int .i64 n, .int .i64 y, .slice T n tc] 24)) 31 (.int .i64 0) (.int .i64 0) (.int .i64 0) (.slice none 0 0) (nwx 0 0 0 (.slice none 0 0)) rfl rfl rfl rfl
  obtain ⟨W1, hW1⟩ : ∃ X, X = ((w.alloc (.cells #[.int .i64 n, .int .i64 y, .slice T n tc] 24)).alloc (.cells #[.int .i64 0, .int .i64 0, .int .i64 0, .slice none 0 0] 31)) := ⟨_, rfl⟩
  rw [show (w.alloc (.cells #[.int .i64 n, .int .i64 y, .slice T n tc] 24)).heap.size = w.heap.size + 1 by simp] at hres
  have sW : W1.heap.size = w.heap.size + 1 + 1 := by rw [hW1]; simp
  rw [← hW1] at b0 b1 b2 hB1 hres ⊢
  clear hW1
  refine (tapeCheck_any n y T n tc R _ (HT.out.below hB1) hn).mono ?_
  rintro e w2 ⟨rfl, hb2⟩
  have s2 := hb2.size
  have hB2 := hB1.trans (hb2.mono hB1.size)
  have hr2 := row_below hres hb2 (by omega)
  have d0 := (hb2.cell (p := ⟨w.heap.size, 0, none⟩) (by show w.heap.size < _; omega)).trans b0
  have d1 := (hb2.cell (p := ⟨w.heap.size, 1, none⟩) (by show w.heap.size < _; omega)).trans b1
  have d2 := (hb2.cell (p := ⟨w.heap.size, 2, none⟩) (by show w.heap.size < _; omega)).trans b2
  have HR2 := Lib.hid hr2
  have HB2 := Lib.hid hB2
  clear b0 b1 b2 hres hr2 hB2 hb2
  obtain ⟨E, hEe⟩ : ∃ E, E = tpE n y n R := ⟨_, rfl⟩
  rw [← hEe]
  have HEE := Lib.hid hEe
  clear hEe
  obtain rfl : E = 0 := HEE.out.trans P1.out
  go_wp2_with fail
  refine (lay_good n y T A n tc k c g 0 _ (HA.out.below HB2.out) (by omega) P3.out (by omega) (by omega) (by omega)).mono ?_
  rintro e w3 ⟨⟨b, hbb, rfl, hM3⟩, hb3⟩
  have s3 := hb3.size
  have hB3 := HB2.out.trans (hb3.mono HB2.out.size)
  have z0 := (hb3.cell (p := ⟨w.heap.size, 0, none⟩) (by show w.heap.size < _; omega)).trans d0
  have z1 := (hb3.cell (p := ⟨w.heap.size, 1, none⟩) (by show w.heap.size < _; omega)).trans d1
  have z2 := (hb3.cell (p := ⟨w.heap.size, 2, none⟩) (by show w.heap.size < _; omega)).trans d2
  have RA := run_any y T n tc b k 200 sn R ⟨laid g k 0, 0, 0⟩ w w3 HT.out HRW.out HGT.out y4 n5 (laid_gc P3.out (by omega) (by omega) (by omega) (by omega) (by omega)) (by omega) (by omega) hB3 (by have := HB2.out.size; omega) hM3 (by omega)
  have HRA := Lib.hid RA
  have HB3 := Lib.hid hB3
  have HR3 := Lib.hid (row_below HR2.out hb3 (by omega))
  clear RA hB3 hM3 d0 d1 d2
  go_wp2_with fail
  refine HRA.out.mono ?_
  rintro e w4 ⟨⟨v, d, rfl, hdn, lo, hi, N, A3, c3, hsp, hN, rfl, hown⟩, hg4⟩
  obtain ⟨C, hC⟩ : ∃ C, C = itC (TR R) d ⟨laid g k 0, 0, 0⟩ := ⟨_, rfl⟩
  rw [← hC] at hsp hown ⊢
  have HC := Lib.hid hC
  have HDN := Lib.hid hdn
  obtain ⟨Xf, Xs, Xh⟩ := C
  have HSP := Lib.hid hsp
  clear hC hdn hsp
  have s4 := hg4.size
  have hB4 := HB3.out.grown hg4 (by omega) (fun q e => by have := Option.some.inj e; omega)
  have hr4 := HR3.out.of_block (hg4.block (w.heap.size + 1) (by omega) (fun e => by have := Option.some.inj e; omega))
  have hr3 := hr4.alloc (.cells #[.int .i64 Xs, .int .i64 Xh, .int .i64 lo, .slice A3 N c3] 31)
  have hB5 := hB4.alloc (by omega) (.cells #[.int .i64 Xs, .int .i64 Xh, .int .i64 lo, .slice A3 N c3] 31)
  have f0 := hr3.frozen 0
  have f1 := hr3.frozen 1
  have f2 := hr3.frozen 2
  have f3 := hr3.frozen 3
  have q0 := hr3.cell (i := 0) (by omega)
  have q1 := hr3.cell (i := 1) (by omega)
  have q2 := hr3.cell (i := 2) (by omega)
  have q3 := hr3.cell (i := 3) (by omega)
  have hs0 : Below w.heap.size w ((w4.alloc (.cells #[.int .i64 Xs, .int .i64 Xh, .int .i64 lo, .slice A3 N c3] 31)).setCell ⟨w.heap.size + 1, 0, none⟩ (.int .i64 Xs)) := hB5.setCell (by show w.heap.size ≤ w.heap.size + 1; omega) _
  have hs1 : Below w.heap.size w (((w4.alloc (.cells #[.int .i64 Xs, .int .i64 Xh, .int .i64 lo, .slice A3 N c3] 31)).setCell ⟨w.heap.size + 1, 0, none⟩ (.int .i64 Xs)).setCell ⟨w.heap.size + 1, 1, none⟩ (.int .i64 Xh)) := hs0.setCell (by show w.heap.size ≤ w.heap.size + 1; omega) _
  have hs2 : Below w.heap.size w ((((w4.alloc (.cells #[.int .i64 Xs, .int .i64 Xh, .int .i64 lo, .slice A3 N c3] 31)).setCell ⟨w.heap.size + 1, 0, none⟩ (.int .i64 Xs)).setCell ⟨w.heap.size + 1, 1, none⟩ (.int .i64 Xh)).setCell ⟨w.heap.size + 1, 2, none⟩ (.int .i64 lo)) := hs1.setCell (by show w.heap.size ≤ w.heap.size + 1; omega) _
  have hs3 : Below w.heap.size w (((((w4.alloc (.cells #[.int .i64 Xs, .int .i64 Xh, .int .i64 lo, .slice A3 N c3] 31)).setCell ⟨w.heap.size + 1, 0, none⟩ (.int .i64 Xs)).setCell ⟨w.heap.size + 1, 1, none⟩ (.int .i64 Xh)).setCell ⟨w.heap.size + 1, 2, none⟩ (.int .i64 lo)).setCell ⟨w.heap.size + 1, 3, none⟩ (.slice A3 N c3)) := hs2.setCell (by show w.heap.size ≤ w.heap.size + 1; omega) _
  have hO := (hown.alloc (.cells #[.int .i64 Xs, .int .i64 Xh, .int .i64 lo, .slice A3 N c3] 31)).of_block (w' := (((((w4.alloc (.cells #[.int .i64 Xs, .int .i64 Xh, .int .i64 lo, .slice A3 N c3] 31)).setCell ⟨w.heap.size + 1, 0, none⟩ (.int .i64 Xs)).setCell ⟨w.heap.size + 1, 1, none⟩ (.int .i64 Xh)).setCell ⟨w.heap.size + 1, 2, none⟩ (.int .i64 lo)).setCell ⟨w.heap.size + 1, 3, none⟩ (.slice A3 N c3))) (fun g' hg' => by
    have := (hown.lt g' hg').1
    rw [Deep.blk_setCell_other _ _ _ _ (by show g' ≠ w.heap.size + 1; omega), Deep.blk_setCell_other _ _ _ _ (by show g' ≠ w.heap.size + 1; omega), Deep.blk_setCell_other _ _ _ _ (by show g' ≠ w.heap.size + 1; omega), Deep.blk_setCell_other _ _ _ _ (by show g' ≠ w.heap.size + 1; omega)])
  have HO := Lib.hid hO
  have HBL := Lib.hid hs3
  clear hr3 hr4 hO hown hs0 hs1 hs2 hs3 hB4 hB5
  go_wp2_with fail
  (try simp only [Exit.inBlock, Exit.then])
  refine bodyPost_ret (v := .tuple #[.agg #[.int .i64 Xs, .int .i64 Xh, .int .i64 lo, .slice A3 N c3], .int .i64 d, .int .i64 0]) (by rw [results_c2 rfl]; go_simp) rfl ⟨⟨_, d, rfl, HDN.out, ?_⟩, HBL.out⟩
  rw [show begin0 g k = ⟨laid g k 0, 0, 0⟩ from rfl, ← HC.out]
  exact ⟨lo, hi, N, A3, c3, HSP.out, hN, rfl, HO.out.base_le (by omega)⟩
end Go.Proofs.Ytcbcbanknjhhhaa
