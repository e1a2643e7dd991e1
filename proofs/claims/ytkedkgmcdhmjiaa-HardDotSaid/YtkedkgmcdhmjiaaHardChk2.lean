/- The reference's HardCheck says what hard.wrong says. Condition: the clauses read. -/
import Derived.Test.YtkedkgmcdhmjiaaHardChk
namespace Go.Proofs.Ytkedkgmcdhmjiaa
open Go.ChangeShapes Go.WideShapes Go.ChangeAt Go.RowKit
set_option linter.unusedVariables false
set_option linter.unusedSimpArgs false
set_option maxRecDepth 100000 in
set_option maxHeartbeats 2000000 in
theorem hardCheck_any (vars : Int) (A : Option Addr) (n c : Nat) (Y N : Nat → SI) (w : World) (h : Cls w A n Y N) (hn : n ≤ maxLen) :
    Calls Try.prog 13 #[.int .i64 vars, .slice A n c] w fun e w' => e = .returned (.int .i64 (hdE vars n Y N)) ∧ Below w.heap.size w w' := by
  unfold maxLen at hn
  have H := Lib.hid h
  clear h
  by_cases hl : vars < 0 ∨ 8 < vars ∨ 12 < n
  · have er : hdE vars n Y N = 1 := if_pos hl
    rw [er]
    clear er
    cases hin : inB 0 vars 8
    · have HI := Lib.hid hin
      clear hin
      go_enter Try.func13, Try.ntmps13
      go_wp2_with fail
      refine (within_any 0 vars 8 w).mono ?_
      rintro e w1 ⟨rfl, rfl⟩
      rw [HI.out]
      go_wp2_with fail
      go_ret
      exact ⟨rfl, Below.refl _ _⟩
    · have a := inB_iff.1 hin
      have HI := Lib.hid hin
      have a3 : 12 < n := by omega
      clear hin a hl
      go_enter Try.func13, Try.ntmps13
      go_wp2_with fail
      refine (within_any 0 vars 8 w).mono ?_
      rintro e w1 ⟨rfl, rfl⟩
      rw [HI.out]
      go_wp2_with fail
      go_ret
      exact ⟨rfl, Below.refl _ _⟩
  · have HE : Hid (hdE vars n Y N = if anyB (bigC Y N) n = true then 1 else if anyB (badC vars Y N) n = true then 2 else 0) := Lib.hid (if_neg hl)
    have v0 : 0 ≤ vars := by omega
    have vm : vars ≤ 8 := by omega
    have n2 : n ≤ 12 := by omega
    have HI : Hid (inB 0 vars 8 = true) := Lib.hid (inB_yes v0 vm)
    clear hl hn
    go_enter Try.func13, Try.ntmps13
    go_wp2_with fail
    refine (within_any 0 vars 8 w).mono ?_
    rintro e w1 ⟨rfl, rfl⟩
    rw [HI.out]
    go_wp2_with fail
    go_loopw [19] (fun i wr => ∃ k : Nat, k ≤ n ∧ i = .int .i64 k ∧ Hid (∀ q, q < k → bigC Y N q = false) ∧ Hid (Below w.heap.size w wr)) (fun i _ => n - (intOf i).toNat)
    case atStart => exact ⟨0, Nat.zero_le _, rfl, Lib.hid (fun q hq => absurd hq (Nat.not_lt_zero _)), Lib.hid (Below.refl _ _)⟩
    case round =>
      obtain ⟨wo, rfl⟩ : ∃ wo : World, wo = wr := ⟨_, rfl⟩
      obtain ⟨k, hk, rfl, HALL, HB⟩ := hrel
      by_cases hlt : k < n
      · have hcls := H.out.below HB.out
        obtain ⟨b, off, rfl, hb, f0, f1⟩ := hcls.at2 hlt
        obtain ⟨gy, gn⟩ := hcls.good k hlt
        obtain ⟨y, hy⟩ : ∃ y, y = Y k := ⟨_, rfl⟩
        obtain ⟨z, hz⟩ : ∃ z, z = N k := ⟨_, rfl⟩
        have HG : Hid (bigC Y N k = decide (3 < y.n + z.n)) := Lib.hid (by rw [hy, hz]; rfl)
        rw [← hy] at f0 gy
        rw [← hz] at f1 gn
        have ly : y.n ≤ 9223372036854775807 := by have := gy.2.2; unfold maxLen at this; omega
        have lz : z.n ≤ 9223372036854775807 := by have := gn.2.2; unfold maxLen at this; omega
        have HB2 := Lib.hid (HB.out.alloc HB.out.size (.cells #[.slice y.A y.n y.c, .slice z.A z.n z.c] 50))
        clear hy hz gy gn hcls
        by_cases hbig : 3 < y.n + z.n
        · have HE1 : Hid (hdE vars n Y N = 1) := Lib.hid (by rw [HE.out, if_pos (anyB_yes hlt (by rw [HG.out]; exact decide_eq_true hbig))])
          clear ly lz
          by_cases g1 : 3 < y.n
          · obtain ⟨S, hS⟩ : ∃ S, IntKind.i64.wrap ((y.n : Int) + (z.n : Int)) = S := ⟨_, rfl⟩
            clear hbig
            by_cases g3 : 3 < S
            · go_wp2_with fail
              go_ret
              exact ⟨(by rw [HE1.out]; try rfl), HB2.out⟩
            · go_wp2_with fail
              go_ret
              exact ⟨(by rw [HE1.out]; try rfl), HB2.out⟩
          by_cases g2 : 3 < z.n
          · obtain ⟨S, hS⟩ : ∃ S, IntKind.i64.wrap ((y.n : Int) + (z.n : Int)) = S := ⟨_, rfl⟩
            clear hbig
            by_cases g3 : 3 < S
            · go_wp2_with fail
              go_ret
              exact ⟨(by rw [HE1.out]; try rfl), HB2.out⟩
            · go_wp2_with fail
              go_ret
              exact ⟨(by rw [HE1.out]; try rfl), HB2.out⟩
          go_wp2_with fail
          go_ret
          exact ⟨(by rw [HE1.out]; try rfl), HB2.out⟩
        · have HN : Hid (bigC Y N k = false) := Lib.hid (by rw [HG.out]; exact decide_eq_false hbig)
          have g1 : y.n ≤ 3 := by omega
          have g2 : z.n ≤ 3 := by omega
          clear HG
          go_wp2_with fail
          go_roundw
          case rel => exact ⟨k + 1, by omega, by go_num, Lib.hid (fun q hq => by
            by_cases e : q = k
            · subst e; exact HN.out
            · exact HALL.out q (by omega)), HB2⟩
          case measure => simp [intOf]; omega
      · obtain rfl : k = n := by omega
        have HNB : Hid (anyB (bigC Y N) k = false) := Lib.hid (anyB_no HALL.out)
        have HBO := HB
        go_wp2_with fail
        go_loopw [46] (fun i wr => ∃ j : Nat, j ≤ k ∧ i = .int .i64 j ∧ Hid (∀ q, q < j → badC vars Y N q = false) ∧ Hid (Below w.heap.size w wr)) (fun i _ => k - (intOf i).toNat)
        case atStart => exact ⟨0, Nat.zero_le _, rfl, Lib.hid (fun q hq => absurd hq (Nat.not_lt_zero _)), HBO⟩
        case round =>
          clear HALL HB HBO
          obtain ⟨wq, rfl⟩ : ∃ wq : World, wq = wr := ⟨_, rfl⟩
          obtain ⟨j, hj, rfl, HALL, HB⟩ := hrel
          by_cases hlt : j < k
          · have hcls := H.out.below HB.out
            obtain ⟨b, off, rfl, hb, f0, f1⟩ := hcls.at2 hlt
            obtain ⟨gy, gn⟩ := hcls.good j hlt
            obtain ⟨y, hy⟩ : ∃ y, y = Y j := ⟨_, rfl⟩
            obtain ⟨z, hz⟩ : ∃ z, z = N j := ⟨_, rfl⟩
            have HG : Hid (badC vars Y N j = (!(insB vars y.n y.f) || !(insB vars z.n z.f))) := Lib.hid (by rw [hy, hz, ins_bad, ins_bad, Bool.not_not, Bool.not_not]; rfl)
            rw [← hy] at f0 gy
            rw [← hz] at f1 gn
            have LY := Lib.hid (show y.n ≤ maxLen from Nat.le_trans gy.2.2.1 gy.2.2.2)
            have LZ := Lib.hid (show z.n ≤ maxLen from Nat.le_trans gn.2.2.1 gn.2.2.2)
            have RY := Lib.hid (gy.1.alloc (.cells #[.slice y.A y.n y.c, .slice z.A z.n z.c] 50))
            have RZ := Lib.hid (gn.1.alloc (.cells #[.slice y.A y.n y.c, .slice z.A z.n z.c] 50))
            have HB2 := Lib.hid (HB.out.alloc HB.out.size (.cells #[.slice y.A y.n y.c, .slice z.A z.n z.c] 50))
            clear hy hz gy gn hcls
            cases r1 : insB vars y.n y.f
            · have R1 := Lib.hid r1
              have HE2 : Hid (hdE vars k Y N = 2) := Lib.hid (by rw [HE.out, HNB.out, if_neg (by decide), if_pos (anyB_yes hlt (by rw [HG.out, R1.out]; rfl))])
              clear r1 HG
              go_wp2_with fail
              refine (inside_any vars y.A y.n y.c y.f _ RY.out LY.out).mono ?_
              rintro e w2 ⟨rfl, rfl⟩
              rw [R1.out]
              go_wp2_with fail
              go_ret
              exact ⟨(by rw [HE2.out]; try rfl), HB2.out⟩
            · have R1 := Lib.hid r1
              clear r1
              cases r2 : insB vars z.n z.f
              · have R2 := Lib.hid r2
                have HE2 : Hid (hdE vars k Y N = 2) := Lib.hid (by rw [HE.out, HNB.out, if_neg (by decide), if_pos (anyB_yes hlt (by rw [HG.out, R1.out, R2.out]; rfl))])
                clear r2 HG
                go_wp2_with fail
                refine (inside_any vars y.A y.n y.c y.f _ RY.out LY.out).mono ?_
                rintro e w2 ⟨rfl, rfl⟩
                rw [R1.out]
                go_wp2_with fail
                refine (inside_any vars z.A z.n z.c z.f _ RZ.out LZ.out).mono ?_
                rintro e w2 ⟨rfl, rfl⟩
                rw [R2.out]
                go_wp2_with fail
                go_ret
                exact ⟨(by rw [HE2.out]; try rfl), HB2.out⟩
              · have R2 := Lib.hid r2
                have HN : Hid (badC vars Y N j = false) := Lib.hid (by rw [HG.out, R1.out, R2.out]; rfl)
                clear r2 HG
                go_wp2_with fail
                refine (inside_any vars y.A y.n y.c y.f _ RY.out LY.out).mono ?_
                rintro e w2 ⟨rfl, rfl⟩
                rw [R1.out]
                go_wp2_with fail
                refine (inside_any vars z.A z.n z.c z.f _ RZ.out LZ.out).mono ?_
                rintro e w2 ⟨rfl, rfl⟩
                rw [R2.out]
                go_wp2_with fail
                go_roundw
                case rel => exact ⟨j + 1, by omega, by go_num, Lib.hid (fun q hq => by
                  by_cases e : q = j
                  · subst e; exact HN.out
                  · exact HALL.out q (by omega)), HB2⟩
                case measure => simp [intOf]; omega
          · obtain rfl : j = k := by omega
            have HE2 : Hid (hdE vars j Y N = 0) := Lib.hid (by rw [HE.out, HNB.out, anyB_no HALL.out, if_neg (by decide), if_neg (by decide)])
            go_wp2_with fail
            go_ret
            exact ⟨(by rw [HE2.out]; try rfl), HB.out⟩
end Go.Proofs.Ytkedkgmcdhmjiaa
