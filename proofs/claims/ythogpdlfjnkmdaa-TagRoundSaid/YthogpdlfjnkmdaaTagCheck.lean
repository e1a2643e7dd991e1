/- What the reference's TagCheck and tagged compute: the code of tag.wrong. Conditions: as each theorem states. -/
import Derived.Test.YthogpdlfjnkmdaaTagRun
import Derived.Test.YthogpdlfjnkmdaaInts
namespace Go.Proofs.Ythogpdlfjnkmdaa
open Go.ChangeShapes Go.WideShapes Go.ChangeAt Go.RowKit
set_option linter.unusedVariables false
theorem insB_row {S : Int} {s : SI} : insB S s.n s.f = !(rowG S s) := by
  cases h : rowG S s with
  | false => exact insB_iff.2 fun j hj => rowG_no h j hj
  | true =>
    show insB S s.n s.f = false
    obtain ⟨j, hj, e⟩ := of_decide_eq_true h
    exact insB_no hj (fun a => by unfold outG at e; have := of_decide_eq_true e; omega)
set_option maxRecDepth 100000 in
set_option maxHeartbeats 4000000 in
theorem tagCheck_any (S D : Int) (B : Option Addr) (nb cb : Nat) (R : Nat → SI) (X : SI) (w : World) (hB : Rd w B nb (fun i => (R i).val)) (hR : ∀ i, i < nb → Rd w (R i).A (R i).n (fun j => .int .i64 ((R i).f j)) ∧ (R i).n ≤ maxLen) (hX : Rd w X.A X.n (fun j => .int .i64 (X.f j))) (hn : nb ≤ maxLen) (hXn : X.n ≤ maxLen) :
    Calls Try.prog 12 #[.int .i64 S, .agg #[.int .i64 D, .slice B nb cb], .slice X.A X.n X.c] w fun e w' => e = .returned (.int .i64 (tgE S D nb R X)) ∧ Below w.heap.size w w' := by
  have hb1 := (Below.refl w.heap.size w).alloc (Nat.le_refl _) (.cells #[.int .i64 D, .slice B nb cb] 24)
  have HB := Lib.hid (hB.below hb1)
  have HR : Hid (∀ i, i < nb → Rd (w.alloc (.cells #[.int .i64 D, .slice B nb cb] 24)) (R i).A (R i).n (fun j => .int .i64 ((R i).f j)) ∧ (R i).n ≤ maxLen) := Lib.hid fun i hi => ⟨(hR i hi).1.below hb1, (hR i hi).2⟩
  have HX := Lib.hid (hX.below hb1)
  have HXN := Lib.hid hXn
  have HN := Lib.hid hn
  have HB2 := Lib.hid hb1
  have HR0 := Lib.hid hR
  have hxm := hXn
  unfold maxLen at hxm hn
  clear hB hR hX hXn hb1 HR0
  obtain ⟨XA, Xn, Xc, Xf⟩ := X
  have hxm2 : Xn ≤ 2 ^ 63 - 1 := hxm
  show Calls Try.prog 12 #[.int .i64 S, .agg #[.int .i64 D, .slice B nb cb], .slice XA Xn Xc] w fun e w' => e = .returned (.int .i64 (tgE S D nb R ⟨XA, Xn, Xc, Xf⟩)) ∧ Below w.heap.size w w'
  clear hxm
  by_cases h1 : S < 1 ∨ 4 < S ∨ D < 1 ∨ 4 < D ∨ 40 < (Xn : Int)
  · have HE : Hid (tgE S D nb R ⟨XA, Xn, Xc, Xf⟩ = 1) := Lib.hid (if_pos (by rcases h1 with h | h | h | h | h <;> simp [h]))
    by_cases a1 : 1 ≤ S ∧ S ≤ 4
    · have i1 := inB_yes a1.1 a1.2
      by_cases a2 : 1 ≤ D ∧ D ≤ 4
      · have i2 := inB_yes a2.1 a2.2
        have a5 : 40 < (Xn : Int) := by omega
        clear h1 a1 a2
        go_enter Try.func12, Try.ntmps12
        go_wp2_with fail
        refine (within_any 1 S 4 _).mono ?_
        rintro e w' ⟨rfl, rfl⟩
        rw [i1]
        go_wp2_with fail
        refine (within_any 1 D 4 _).mono ?_
        rintro e w' ⟨rfl, rfl⟩
        rw [i2]
        go_wp2_with fail
        go_ret
        exact ⟨ret_int HE.out.symm, HB2.out⟩
      · have i2 := inB_no a2
        clear h1 a1 a2
        go_enter Try.func12, Try.ntmps12
        go_wp2_with fail
        refine (within_any 1 S 4 _).mono ?_
        rintro e w' ⟨rfl, rfl⟩
        rw [i1]
        go_wp2_with fail
        refine (within_any 1 D 4 _).mono ?_
        rintro e w' ⟨rfl, rfl⟩
        rw [i2]
        go_wp2_with fail
        go_ret
        exact ⟨ret_int HE.out.symm, HB2.out⟩
    · have i1 := inB_no a1
      clear h1 a1
      go_enter Try.func12, Try.ntmps12
      go_wp2_with fail
      refine (within_any 1 S 4 _).mono ?_
      rintro e w' ⟨rfl, rfl⟩
      rw [i1]
      go_wp2_with fail
      go_ret
      exact ⟨ret_int HE.out.symm, HB2.out⟩
  · have HG : Hid ((1 ≤ S ∧ S ≤ 4) ∧ (1 ≤ D ∧ D ≤ 4)) := Lib.hid (by omega)
    have g5 : Xn ≤ 40 := by omega
    have HE0 : Hid (tgE S D nb R ⟨XA, Xn, Xc, Xf⟩ = if anyB (lnG R) nb = true then 1 else if (nb : Int) ≠ S then 3 else if anyB (fun i => rowG S (R i)) nb = true ∨ rowG S ⟨XA, Xn, Xc, Xf⟩ = true then 2 else 0) := Lib.hid (by
      unfold tgE
      by_cases e : anyB (lnG R) nb = true
      · rw [if_pos (by simp [e]), if_pos e]
      · rw [if_neg (by intro h; rcases h with h | h | h | h | h | h <;> first | exact h1 (by simp [h]) | exact e h | omega), if_neg e])
    have i1 := inB_yes HG.out.1.1 HG.out.1.2
    have i2 := inB_yes HG.out.2.1 HG.out.2.2
    clear h1
    go_enter Try.func12, Try.ntmps12
    go_wp2_with fail
    refine (within_any 1 S 4 _).mono ?_
    rintro e w' ⟨rfl, rfl⟩
    rw [i1]
    go_wp2_with fail
    refine (within_any 1 D 4 _).mono ?_
    rintro e w' ⟨rfl, rfl⟩
    rw [i2]
    clear i1 i2
    go_wp2_with fail
    go_loop [28] (fun s28 => ∃ i : Nat, i ≤ nb ∧ s28 = .int .i64 (i : Nat) ∧ Hid (∀ j, j < i → lnG R j = false)) (fun s28 => nb - (intOf s28).toNat)
    case atStart => exact ⟨0, Nat.zero_le _, rfl, Lib.hid (fun _ h => absurd h (by omega))⟩
    case round =>
      obtain ⟨i, hi, rfl, hall⟩ := hrel
      by_cases hlt : i < nb
      · obtain ⟨b, off, rfl, hb, hc⟩ := HB.out.at_ hlt
        obtain ⟨rn, hrn⟩ : ∃ x, x = (R i).n := ⟨_, rfl⟩
        obtain ⟨rc, hrc⟩ : ∃ x, x = (R i).c := ⟨_, rfl⟩
        obtain ⟨rA, hrA⟩ : ∃ x, x = (R i).A := ⟨_, rfl⟩
        have hval : (R i).val = .slice rA rn rc := by rw [hrn, hrc, hrA]; rfl
        rw [hval] at hc
        have HRN := Lib.hid hrn
        clear hrn hrc hrA hval
        by_cases hq : 8 < (rn : Int)
        · have HE : Hid (tgE S D nb R ⟨XA, Xn, Xc, Xf⟩ = 1) := Lib.hid (by rw [HE0.out, if_pos (anyB_yes hlt (decide_eq_true (by rw [← HRN.out]; exact hq)))])
          go_wp2_with fail
          go_ret
          exact ⟨ret_int HE.out.symm, HB2.out⟩
        · have HQ : Hid (lnG R i = false) := Lib.hid (decide_eq_false (by rw [← HRN.out]; exact hq))
          go_wp2_with fail
          go_round
          case rel => exact ⟨i + 1, by omega, by go_num, Lib.hid fun j hj => by
            by_cases e : j = i
            · rw [e]; exact HQ.out
            · exact hall.out j (by omega)⟩
          case measure => simp [intOf]; omega
      · obtain rfl : i = nb := by omega
        have HL : Hid (anyB (lnG R) i = false) := Lib.hid (anyB_no hall.out)
        clear hall
        by_cases hs : (i : Int) = S
        · have HE1 : Hid (tgE S D i R ⟨XA, Xn, Xc, Xf⟩ = if anyB (fun i => rowG S (R i)) i = true ∨ rowG S ⟨XA, Xn, Xc, Xf⟩ = true then 2 else 0) := Lib.hid (by rw [HE0.out, HL.out, if_neg (by simp), if_neg (by rw [hs]; simp)])
          go_wp2_with fail
          go_loop [44] (fun s44 => ∃ k : Nat, k ≤ i ∧ s44 = .int .i64 (k : Nat) ∧ Hid (∀ j, j < k → rowG S (R j) = false)) (fun s44 => i - (intOf s44).toNat)
          case atStart => exact ⟨0, Nat.zero_le _, rfl, Lib.hid (fun _ h => absurd h (by omega))⟩
          case round =>
            obtain ⟨k, hk, rfl, hall⟩ := hrel
            by_cases hlt : k < i
            · obtain ⟨b, off, rfl, hb, hc⟩ := HB.out.at_ hlt
              have HIN := Lib.hid (inside_any S (R k).A (R k).n (R k).c (R k).f _ (HR.out k hlt).1 (HR.out k hlt).2)
              rw [insB_row] at HIN
              obtain ⟨rn, hrn⟩ : ∃ x, x = (R k).n := ⟨_, rfl⟩
              obtain ⟨rc, hrc⟩ : ∃ x, x = (R k).c := ⟨_, rfl⟩
              obtain ⟨rA, hrA⟩ : ∃ x, x = (R k).A := ⟨_, rfl⟩
              have hval : (R k).val = .slice rA rn rc := by rw [hrn, hrc, hrA]; rfl
              rw [hval] at hc
              rw [← hrn, ← hrc, ← hrA] at HIN
              clear hrn hrc hrA hval
              cases hq : rowG S (R k) with
              | true =>
                have HE : Hid (tgE S D i R ⟨XA, Xn, Xc, Xf⟩ = 2) := Lib.hid (by rw [HE1.out, if_pos (.inl (anyB_yes hlt hq))])
                rw [hq] at HIN
                clear hq
                go_wp2_with fail
                refine HIN.out.mono ?_
                rintro e w' ⟨rfl, rfl⟩
                go_wp2_with fail
                go_ret
                exact ⟨ret_int HE.out.symm, HB2.out⟩
              | false =>
                have HQ := Lib.hid hq
                rw [hq] at HIN
                clear hq
                go_wp2_with fail
                refine HIN.out.mono ?_
                rintro e w' ⟨rfl, rfl⟩
                go_wp2_with fail
                go_round
                case rel => exact ⟨k + 1, by omega, by go_num, Lib.hid fun j hj => by
                  by_cases e : j = k
                  · rw [e]; exact HQ.out
                  · exact hall.out j (by omega)⟩
                case measure => simp [intOf]; omega
            · obtain rfl : k = i := by omega
              have HA : Hid (anyB (fun i => rowG S (R i)) k = false) := Lib.hid (anyB_no hall.out)
              have HIN := Lib.hid (inside_any S XA Xn Xc Xf _ HX.out HXN.out)
              rw [show insB S Xn Xf = !(rowG S ⟨XA, Xn, Xc, Xf⟩) from insB_row (s := ⟨XA, Xn, Xc, Xf⟩)] at HIN
              cases hq : rowG S ⟨XA, Xn, Xc, Xf⟩ with
              | true =>
                have HE : Hid (tgE S D k R ⟨XA, Xn, Xc, Xf⟩ = 2) := Lib.hid (by rw [HE1.out, if_pos (.inr hq)])
                rw [hq] at HIN
                clear hq
                go_wp2_with fail
                refine HIN.out.mono ?_
                rintro e w' ⟨rfl, rfl⟩
                go_wp2_with fail
                go_ret
                exact ⟨ret_int HE.out.symm, HB2.out⟩
              | false =>
                have HE : Hid (tgE S D k R ⟨XA, Xn, Xc, Xf⟩ = 0) := Lib.hid (by rw [HE1.out, HA.out, hq]; simp)
                rw [hq] at HIN
                clear hq
                go_wp2_with fail
                refine HIN.out.mono ?_
                rintro e w' ⟨rfl, rfl⟩
                go_wp2_with fail
                go_ret
                exact ⟨ret_int HE.out.symm, HB2.out⟩
        · have HE : Hid (tgE S D i R ⟨XA, Xn, Xc, Xf⟩ = 3) := Lib.hid (by rw [HE0.out, HL.out, if_neg (by simp), if_pos hs])
          have hq : ((i : Int) != S) = true := by rw [bne_iff_ne]; exact hs
          clear hs
          go_wp2_with fail
          go_ret
          exact ⟨ret_int HE.out.symm, HB2.out⟩
set_option maxRecDepth 100000 in
theorem tagged_any (S D : Int) (B : Option Addr) (nb cb : Nat) (R : Nat → SI) (X : SI) (w : World) (hB : Rd w B nb (fun i => (R i).val)) (hR : ∀ i, i < nb → Rd w (R i).A (R i).n (fun j => .int .i64 ((R i).f j)) ∧ (R i).n ≤ maxLen) (hX : Rd w X.A X.n (fun j => .int .i64 (X.f j))) (hn : nb ≤ maxLen) (hXn : X.n ≤ maxLen) :
    Calls Try.prog 6 #[.int .i64 S, .agg #[.int .i64 D, .slice B nb cb], .slice X.A X.n X.c] w fun e w' => e = .returned (.bool (tgE S D nb R X == 0)) ∧ Below w.heap.size w w' := by
  have hb1 := (Below.refl w.heap.size w).alloc (Nat.le_refl _) (.cells #[.int .i64 D, .slice B nb cb] 24)
  have HW := Lib.hid (tagCheck_any S D B nb cb R X _ (hB.below hb1) (fun i hi => ⟨(hR i hi).1.below hb1, (hR i hi).2⟩) (hX.below hb1) hn hXn)
  obtain ⟨E, hEE⟩ : ∃ E, E = tgE S D nb R X := ⟨_, rfl⟩
  rw [← hEE] at HW ⊢
  obtain ⟨XA, Xn, Xc, Xf⟩ := X
  clear hB hR hX hEE
  go_enter Try.func6, Try.ntmps6
  go_wp2_with fail
  refine HW.out.mono ?_
  rintro e w' ⟨rfl, hb2⟩
  have HB2 := Lib.hid (hb1.trans (hb2.mono (by simp)))
  clear hb2 hb1 HW
  go_wp2_with fail
  go_ret
  exact ⟨rfl, HB2.out⟩
end Go.Proofs.Ythogpdlfjnkmdaa
