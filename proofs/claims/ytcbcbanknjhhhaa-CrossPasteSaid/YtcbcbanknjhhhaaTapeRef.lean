/- What the references' MachineCheck computes. Condition: the table reads as rows. -/
import Derived.Test.YtcbcbanknjhhhaaTapeCheck
import Derived.Test.YtcbcbanknjhhhaaInside
import Derived.Test.YtcbcbanknjhhhaaApp
namespace Go.Proofs.Ytcbcbanknjhhhaa
open Go.ChangeShapes Go.WideShapes Go.ChangeAt Go.RowKit
set_option linter.unusedVariables false
theorem ins_one (N x : Int) : insB N 1 (fun _ => x) = decide (0 ≤ x ∧ x < N) := by
  cases h : insB N 1 (fun _ => x)
  · symm; rw [decide_eq_false_iff_not]; intro hh; rw [insB_iff.2 (fun _ _ => hh)] at h; cases h
  · symm; rw [decide_eq_true_eq]; exact insB_iff.1 h 0 (by omega)
set_option maxRecDepth 100000 in
set_option maxHeartbeats 4000000 in
theorem machine_any (S Y : Int) (A : Option Addr) (n c : Nat) (R : Nat → SI) (w : World) (h : Tm w A n R) (hn : n ≤ maxLen) (wS : (Lit.int .i64 S).wf = true) :
    Calls Try.prog 21 #[.agg #[.int .i64 S, .int .i64 Y, .slice A n c]] w fun e w' => e = .returned (.int .i64 (tpE S Y n R)) ∧ Below w.heap.size w w' := by
  have H := Lib.hid h
  have WS := Lib.hid wS
  clear h wS
  have B0 := (Below.refl w.heap.size w).alloc (Nat.le_refl _) (.cells #[.int .i64 S, .int .i64 Y, .slice A n c] 24)
  have HB0 := Lib.hid B0
  clear B0
  by_cases hb : S < 1 ∨ 5 < S ∨ Y < 2 ∨ 4 < Y
  · have e1 : tpE S Y n R = 1 := if_pos hb
    rw [e1]
    clear e1
    by_cases b1 : 1 ≤ S ∧ S ≤ 5
    · go_enter Try.func21, Try.ntmps21
      go_wp2_with fail
      refine (within_any _ _ _ _).mono ?_
      rintro e w' ⟨rfl, rfl⟩
      rw [inB_yes b1.1 b1.2]
      go_wp2_with fail
      refine (within_any _ _ _ _).mono ?_
      rintro e w' ⟨rfl, rfl⟩
      rw [inB_no (by omega)]
      go_wp2_with fail
      go_ret
      exact ⟨rfl, HB0.out⟩
    · go_enter Try.func21, Try.ntmps21
      go_wp2_with fail
      refine (within_any _ _ _ _).mono ?_
      rintro e w' ⟨rfl, rfl⟩
      rw [inB_no (by omega)]
      go_wp2_with fail
      go_ret
      exact ⟨rfl, HB0.out⟩
  · have e1 : tpE S Y n R = if (n : Int) ≠ S ∨ anyB (lnB Y R) n = true then 3 else fstE (rwE S Y R) n := if_neg hb
    obtain ⟨S1, S5, Y2, Y4⟩ : 1 ≤ S ∧ S ≤ 5 ∧ 2 ≤ Y ∧ Y ≤ 4 := by omega
    clear hb
    by_cases hnS : (n : Int) = S
    · subst hnS
      have d0 : (w.alloc (.cells #[.int .i64 (n : Int), .int .i64 Y, .slice A n c] 24)).cell? ⟨w.heap.size, 0, none⟩ = some (.int .i64 n) := by simp [go_sem]
      have d1 : (w.alloc (.cells #[.int .i64 (n : Int), .int .i64 Y, .slice A n c] 24)).cell? ⟨w.heap.size, 1, none⟩ = some (.int .i64 Y) := by simp [go_sem]
      have d2 : (w.alloc (.cells #[.int .i64 (n : Int), .int .i64 Y, .slice A n c] 24)).cell? ⟨w.heap.size, 2, none⟩ = some (.slice A n c) := by simp [go_sem]
      have gs0 : w.heap.size < (w.alloc (.cells #[.int .i64 (n : Int), .int .i64 Y, .slice A n c] 24)).heap.size := by simp
      have E1 := Lib.hid e1
      have D0 := Lib.hid d0
      have D1 := Lib.hid d1
      have D2 := Lib.hid d2
      clear e1 d0 d1 d2
      go_enter Try.func21, Try.ntmps21
      go_wp2_with fail
      refine (within_any _ _ _ _).mono ?_
      rintro e w' ⟨rfl, rfl⟩
      rw [inB_yes S1 S5]
      go_wp2_with fail
      refine (within_any _ _ _ _).mono ?_
      rintro e w' ⟨rfl, rfl⟩
      rw [inB_yes Y2 Y4]
      obtain ⟨W1, hW1⟩ : ∃ W, W = w.alloc (.cells #[.int .i64 (n : Int), .int .i64 Y, .slice A n c] 24) := ⟨_, rfl⟩
      obtain ⟨g, hg⟩ : ∃ g, g = w.heap.size := ⟨_, rfl⟩
      have X0 := D0.out
      have X1 := D1.out
      have X2 := D2.out
      have GW := HB0.out
      rw [← hW1] at X0 X1 X2 GW gs0 ⊢
      rw [← hg] at X0 X1 X2 gs0 ⊢
      have HX0 := Lib.hid X0
      have HX1 := Lib.hid X1
      have HX2 := Lib.hid X2
      have HGW := Lib.hid GW
      have hgw : g = w.heap.size := hg
      have HGG := Lib.hid hgw
      clear hW1 hg D0 D1 D2 HB0 GW hgw
      go_wp2_with fail
      have hR := H.out.below HGW.out
      have HR := Lib.hid hR
      clear hR
      go_loop [28] (fun s28 => ∃ i : Nat, i ≤ n ∧ s28 = .int .i64 i ∧ ∀ j, j < i → lnB Y R j = false) (fun s28 => n - (intOf s28).toNat)
      case atStart => exact ⟨0, Nat.zero_le _, rfl, fun j hj => absurd hj (Nat.not_lt_zero _)⟩
      case round =>
        obtain ⟨i, hi, rfl, hall⟩ := hrel
        have HALL := Lib.hid hall
        clear hall
        by_cases hlt : i < n
        · obtain ⟨b, off, rfl, _, hcell⟩ := HR.out.1.at_ hlt
          obtain ⟨RA, hRA⟩ : ∃ x, x = (R i).A := ⟨_, rfl⟩
          obtain ⟨rn, hrn⟩ : ∃ x, x = (R i).n := ⟨_, rfl⟩
          obtain ⟨rc, hrc⟩ : ∃ x, x = (R i).c := ⟨_, rfl⟩
          have hcell2 : W1.cell? ⟨b, off + i, none⟩ = some (.slice RA rn rc) := by rw [hcell, hRA, hrn, hrc]; rfl
          have hrl := (HR.out.2 i hlt).2
          rw [← hrn] at hrl
          unfold maxLen at hrl
          have HRN := Lib.hid hrn
          clear hcell hRA hrn hrc
          by_cases hq : (rn : Int) = Y
          · have hq1 : ((rn : Int) != Y) = false := by simp [hq]
            have hln : lnB Y R i = false := by unfold lnB; rw [← HRN.out]; exact hq1
            have HLN := Lib.hid hln
            have HQ := Lib.hid hq
            clear hln hq
            go_wp2_with fail
            go_round
            case rel => exact ⟨i + 1, by omega, by go_num, fun j hj => by
              by_cases e : j = i
              · subst e; exact HLN.out
              · exact HALL.out j (by omega)⟩
            case measure => simp [intOf]; omega
          · have hq1 : ((rn : Int) != Y) = true := by rw [bne_iff_ne]; exact hq
            have hln : lnB Y R i = true := by unfold lnB; rw [← HRN.out]; exact hq1
            have HLN := Lib.hid hln
            clear hln hq
            go_wp2_with fail
            go_ret
            exact ⟨ret_int (by rw [E1.out, if_pos (.inr (anyB_yes hlt HLN.out))]), HGW.out⟩
        · obtain rfl : i = n := by omega
          have e1 : tpE i Y i R = fstE (rwE i Y R) i := by rw [E1.out, if_neg (by rw [anyB_no HALL.out]; simp)]
          have E2 := Lib.hid e1
          clear e1 E1 hlt
          go_wp2_with fail
          go_loopw [41] (fun s41 wr => ∃ q : Nat, q ≤ i ∧ s41 = .int .i64 q ∧ fstE (rwE i Y R) q = 0 ∧ Below W1.heap.size W1 wr) (fun s41 _ => i - (intOf s41).toNat)
          case atStart => exact ⟨0, Nat.zero_le _, rfl, rfl, Below.refl _ _⟩
          case round =>
            obtain ⟨wo, rfl⟩ : ∃ wo : World, wo = wr := ⟨_, rfl⟩
            obtain ⟨q, hq, rfl, hz, hbel⟩ := hrel
            have HZ := Lib.hid hz
            clear hz
            by_cases hlt : q < i
            · have hT := HR.out.below hbel
              obtain ⟨b, off, rfl, _, hcell⟩ := hT.1.at_ hlt
              obtain ⟨hrd, hrl⟩ := hT.2 q hlt
              obtain ⟨RA, hRA⟩ : ∃ x, x = (R q).A := ⟨_, rfl⟩
              obtain ⟨rn, hrn⟩ : ∃ x, x = (R q).n := ⟨_, rfl⟩
              obtain ⟨rc, hrc⟩ : ∃ x, x = (R q).c := ⟨_, rfl⟩
              obtain ⟨rf, hrf⟩ : ∃ x, x = (R q).f := ⟨_, rfl⟩
              have hcell2 : wo.cell? ⟨b, off + q, none⟩ = some (.slice RA rn rc) := by rw [hcell, hRA, hrn, hrc]; rfl
              rw [← hRA, ← hrn, ← hrf] at hrd
              rw [← hrn] at hrl
              have hrw : rwE i Y R q = fstE (ruE i Y rf) rn := by rw [hrn, hrf]; rfl
              have HRW := Lib.hid hrw
              have HRD := Lib.hid hrd
              clear hcell hRA hrn hrc hrf hrw hrd hT
              unfold maxLen at hrl
              go_wp2_with fail
              go_loopw [47] (fun s47 wr => ∃ j : Nat, j ≤ rn ∧ s47 = .int .i64 j ∧ fstE (ruE i Y rf) j = 0 ∧ Below wo.heap.size wo wr) (fun s47 _ => rn - (intOf s47).toNat)
              case atStart => exact ⟨0, Nat.zero_le _, rfl, rfl, Below.refl _ _⟩
              case round =>
                clear hcell2
                obtain ⟨wq, rfl⟩ : ∃ wq : World, wq = wr := ⟨_, rfl⟩
                obtain ⟨j, hj, rfl, hy, hbq⟩ := hrel
                have HY := Lib.hid hy
                clear hy
                have B2 := hbel.trans (hbq.mono hbel.size)
                by_cases hjn : j < rn
                · obtain ⟨rb, ro, rfl, hrb, r0, r1, r2⟩ := (HRD.out.below hbq).atR3 hjn
                  have m0 := (B2.cell (p := ⟨g, 0, none⟩) gs0).trans HX0.out
                  have m1 := (B2.cell (p := ⟨g, 1, none⟩) gs0).trans HX1.out
                  have sz2 := B2.size
                  have gq : g < wq.heap.size := by omega
                  have hru : ruE i Y rf j = if rf (3 * j) < 0 ∨ Y ≤ rf (3 * j) then 2 else if rf (3 * j + 1) < -1 ∨ 1 < rf (3 * j + 1) then 4 else if rf (3 * j + 2) < 0 ∨ (i : Int) < rf (3 * j + 2) then 2 else 0 := rfl
                  obtain ⟨x, hx⟩ : ∃ x, x = rf (3 * j) := ⟨_, rfl⟩
                  obtain ⟨y, hy⟩ : ∃ x, x = rf (3 * j + 1) := ⟨_, rfl⟩
                  obtain ⟨z, hz⟩ : ∃ x, x = rf (3 * j + 2) := ⟨_, rfl⟩
                  rw [← hx, ← hy, ← hz] at hru
                  rw [← hx] at r0
                  rw [← hy] at r1
                  rw [← hz] at r2
                  have HRU := Lib.hid hru
                  clear hx hy hz hru
                  have B4 := hbq.alloc hbq.size (.cells #[.int .i64 x, .int .i64 y, .int .i64 z] 55)
                  have B5 := B4.alloc (by have := hbq.size; simp; omega) (.cells #[.int .i64 x] 3)
                  have B6 := B5.alloc (by have := hbq.size; simp; omega) (.cells #[.int .i64 z] 3)
                  have s6 := B6.size
                  have s5 := B5.size
                  have up : ∀ W, Below wo.heap.size wo W → Below w.heap.size w W := fun W hW => HGW.out.trans ((hbel.trans (hW.mono hbel.size)).mono HGW.out.size)
                  have UP := Lib.hid up
                  clear up
                  have bad : ∀ v : Int, ruE i Y rf j = v → v ≠ 0 → tpE i Y i R = v := fun v hv h0 => by
                    rw [E2.out]
                    exact fstE_stop HZ.out (by rw [HRW.out]; exact fstE_stop HY.out hv h0 _ hjn) h0 _ hlt
                  have HBAD := Lib.hid bad
                  have cx : (wq.alloc (.cells #[.int .i64 x, .int .i64 y, .int .i64 z] 55)).heap.size = wq.heap.size + 1 := by simp
                  have CX := Lib.hid cx
                  clear bad cx
                  by_cases x1 : 0 ≤ x ∧ x < Y
                  · go_wp2_with fail
                    refine (inside_any Y _ 1 1 (fun _ => x) _ (by rw [← CX.out]; exact Rd.one _ _ _) (by unfold maxLen; omega)).mono ?_
                    rintro e w' ⟨rfl, rfl⟩
                    rw [ins_one, decide_eq_true x1]
                    go_wp2_with fail
                    refine (within_any _ _ _ _).mono ?_
                    rintro e w' ⟨rfl, rfl⟩
                    by_cases y1 : -1 ≤ y ∧ y ≤ 1
                    · rw [inB_yes y1.1 y1.2]
                      go_wp2_with fail
                      refine (inside_any _ _ 1 1 (fun _ => z) _ (by have := Rd.one ((wq.alloc (.cells #[.int .i64 x, .int .i64 y, .int .i64 z] 55)).alloc (.cells #[.int .i64 x] 3)) (.int .i64 z) 3; rw [show ((wq.alloc (.cells #[.int .i64 x, .int .i64 y, .int .i64 z] 55)).alloc (.cells #[.int .i64 x] 3)).heap.size = wq.heap.size + 1 + 1 by simp] at this; exact this) (by unfold maxLen; omega)).mono ?_
                      rintro e w' ⟨rfl, rfl⟩
                      by_cases z1 : 0 ≤ z ∧ z < (i : Int) + 1
                      · rw [ins_one, decide_eq_true z1]
                        go_wp2_with fail
                        go_roundw
                        case rel => exact ⟨j + 1, by omega, by go_num, fstE_next HY.out (by rw [HRU.out, if_neg (by omega), if_neg (by omega), if_neg (by omega)]), B6⟩
                        case measure => simp [intOf]; omega
                      · rw [ins_one, decide_eq_false z1]
                        go_wp2_with fail
                        go_ret
                        exact ⟨ret_int (by rw [HBAD.out 2 (by rw [HRU.out, if_neg (by omega), if_neg (by omega), if_pos (by omega)]) (by decide)]), UP.out _ B6⟩
                    · rw [inB_no y1]
                      go_wp2_with fail
                      go_ret
                      exact ⟨ret_int (by rw [HBAD.out 4 (by rw [HRU.out, if_neg (by omega), if_pos (by omega)]) (by decide)]), UP.out _ B5⟩
                  · go_wp2_with fail
                    refine (inside_any Y _ 1 1 (fun _ => x) _ (by rw [← CX.out]; exact Rd.one _ _ _) (by unfold maxLen; omega)).mono ?_
                    rintro e w' ⟨rfl, rfl⟩
                    rw [ins_one, decide_eq_false x1]
                    go_wp2_with fail
                    go_ret
                    exact ⟨ret_int (by rw [HBAD.out 2 (by rw [HRU.out, if_pos (by omega)]) (by decide)]), UP.out _ B5⟩
                · obtain rfl : j = rn := by omega
                  go_wp2_with fail
                  go_roundw
                  case rel => exact ⟨q + 1, by omega, by go_num, fstE_next HZ.out (by rw [HRW.out]; exact HY.out), B2⟩
                  case measure => simp [intOf]; omega
            · obtain rfl : q = i := by omega
              go_wp2_with fail
              go_ret
              exact ⟨ret_int (by rw [E2.out, HZ.out]), HGW.out.trans (hbel.mono HGW.out.size)⟩
    · rw [if_pos (.inl hnS)] at e1
      rw [e1]
      have hne : ((n : Int) != S) = true := by rw [bne_iff_ne]; exact hnS
      clear e1
      go_enter Try.func21, Try.ntmps21
      go_wp2_with fail
      refine (within_any _ _ _ _).mono ?_
      rintro e w' ⟨rfl, rfl⟩
      rw [inB_yes S1 S5]
      go_wp2_with fail
      refine (within_any _ _ _ _).mono ?_
      rintro e w' ⟨rfl, rfl⟩
      rw [inB_yes Y2 Y4]
      go_wp2_with fail
      go_ret
      exact ⟨rfl, HB0.out⟩
end Go.Proofs.Ytcbcbanknjhhhaa
