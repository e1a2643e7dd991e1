/- No ring becomes one that has the word that has none ahead. No condition. -/
import Derived.Test.YtnagdnbdpknniaaCellOrph
import Derived.Test.YtnagdnbdpknniaaCellMany
import Derived.Deep.RegionLaw
namespace Go.Proofs.Ytnagdnbdpknniaa.cellOrphan
open CellM Go.ChangeShapes Go.WideShapes Go.ChangeAt Go.RowKit
set_option linter.unusedVariables false
set_option maxRecDepth 100000 in
theorem walk (w : World) (r : Int) (A : Option Addr) (n c : Nat) (f : Nat → Bool) (wr : (Lit.int .i64 r).wf = true) (h : Rd w A n (fun i => .bool (f i))) (hl : n ≤ c) (hm : c ≤ maxLen) (z : c * 1 ≤ 140737488351232) :
    Calls Try.prog 5 #[.int .i64 r, .slice A n c] w fun e w' => e = .returned (.bool true) ∧ Below w.heap.size w w' := by
  have hnm : n ≤ maxLen := by omega
  clear wr
  by_cases hr : 0 ≤ r ∧ r ≤ 255
  · have hi := inB_yes hr.1 hr.2
    by_cases hn : 1 ≤ n ∧ n ≤ 12
    · obtain ⟨n1, n2⟩ := hn
      have hj := inB_yes (show (1 : Int) ≤ n by omega) (show (n : Int) ≤ 12 by omega)
      have H := Lib.hid h
      clear h
      go_enter Try.func5, Try.ntmps5
      go_wp2_with fail
      refine (orph_any r w hr.1 hr.2).mono ?_
      rintro e w1 ⟨hb1, h1⟩
      have hs1 := hb1.size
      rcases h1 with ⟨A2, m, c2, g, rfl, hrd, hz, m1, m2⟩ | rfl
      · have HR2 := Lib.hid hrd
        have HZ := Lib.hid hz
        clear hrd hz
        go_wp2_with fail
        refine (step_ok r A n c f w1 (H.out.below hb1) n1 n2 hr.1 hr.2).mono ?_
        rintro e w2 ⟨A1, c1, rfl, rd1, le1, mx1, hb2⟩
        have hs2 := hb2.size
        have HR1 := Lib.hid rd1
        clear rd1
        have hml : m ≤ maxLen := by unfold maxLen; omega
        unfold maxLen at hm mx1
        go_wp2_with (go_at_call 8; refine (within_any _ _ _ _).mono ?_; rintro e w' ⟨rfl, rfl⟩)
        refine (many_any r A2 m c2 g w2 (HR2.out.below hb2) hml).mono ?_
        rintro e w3 ⟨rfl, hb3⟩
        have hs3 := hb3.size
        have hmz := many_zero HZ.out
        have rdL := HR1.out.below hb3
        have rdW := (HR2.out.below hb2).below hb3
        have hbw : Below w.heap.size w w3 := hb1.trans ((hb2.mono hs1).trans (hb3.mono (by omega)))
        clear hb1 hb2 hb3
        obtain ⟨b, off, hA1, hbl, hcL⟩ := rdL (by omega)
        obtain ⟨b', off', hA2, hbl', hcW⟩ := rdW (by omega)
        subst hA1
        subst hA2
        have HCL := Lib.hid hcL
        have HCW := Lib.hid hcW
        have HBW := Lib.hid hbw
        clear rdL rdW hcL hcW hbw
        obtain ⟨V, hV⟩ : ∃ V, V = mV r g m := ⟨_, rfl⟩
        obtain ⟨E, hE⟩ : ∃ E, E = mE r m := ⟨_, rfl⟩
        rw [← hV, ← hE]
        have hVE : m ≤ 12 → V = 0 ∧ E = 0 := fun hm12 => by
          rw [hV, hE]; unfold mV mE
          have e1 : inB 0 r 255 = true := inB_yes hr.1 hr.2
          simp [hmz, hr.1, hr.2, hm12]
        clear hV hE hmz
        have hcond : (if m ≤ 12 then V = 0 ∧ E = 0 else True) := by split <;> simp_all
        by_cases hm12 : m ≤ 12
        · obtain ⟨rfl, rfl⟩ := hVE hm12
          clear hcond
          go_wp2_with fail
          go_loopw [11] (fun s11 wr => ∃ i : Nat, i ≤ n ∧ s11 = .int .i64 i ∧ Below w3.heap.size w3 wr) (fun s11 _ => n - (intOf s11).toNat)
          case atStart => exact ⟨0, by omega, rfl, Below.refl _ _⟩
          case round =>
            obtain ⟨wo, rfl⟩ : ∃ wo : World, wo = wr := ⟨_, rfl⟩
            obtain ⟨i, hin, rfl, hbo⟩ := hrel
            by_cases hlt : i < n
            · go_wp2_with fail
              go_loopw [12, 13] (fun s12 s13 wr => ∃ j : Nat, j ≤ m ∧ s12 = .bool (smO r n f g i j) ∧ s13 = .int .i64 j ∧ Below w3.heap.size w3 wr) (fun _ s13 _ => m - (intOf s13).toNat)
              case atStart => exact ⟨0, by omega, rfl, rfl, hbo⟩
              case round =>
                clear hbo
                obtain ⟨j, hjm, rfl, rfl, hbel⟩ := hrel
                by_cases hlj : j < m
                · obtain ⟨p, hp⟩ : ∃ p, p = (i + j) % n := ⟨_, rfl⟩
                  have hpl : p < n := by rw [hp]; exact Nat.mod_lt _ (by omega)
                  have q1 : wr.cell? ⟨b, off + p, none⟩ = some (.bool (st r n f p)) := (hbel.cell (p := ⟨b, off + p, none⟩) hbl).trans (HCL.out p hpl)
                  have q2 : wr.cell? ⟨b', off' + j, none⟩ = some (.bool (g j)) := (hbel.cell (p := ⟨b', off' + j, none⟩) hbl').trans (HCW.out j hlj)
                  have i2 : ((i : Int) + j).tmod n = (p : Int) := by
                    rw [Int.tmod_eq_emod_of_nonneg (by omega), hp, Int.natCast_emod]; congr 1
                  have e2 : IntKind.i64.wrap ((i : Int) + j) = (i : Int) + j := IntWalk.i64_in _ (by omega)
                  have e4 : IntKind.i64.wrap (p : Int) = (p : Int) := IntWalk.i64_in _ (by omega)
                  have hsm : smO r n f g i (j + 1) = (smO r n f g i j && (st r n f p == g j)) := by rw [hp]; rfl
                  obtain ⟨sj, hsj⟩ : ∃ sj, sj = smO r n f g i j := ⟨_, rfl⟩
                  rw [← hsj] at hsm ⊢
                  have HP := Lib.hid hp
                  have HSM := Lib.hid hsm
                  have HSJ := Lib.hid hsj
                  clear hp hsm hsj
                  have HBE := Lib.hid hbel
                  cases sj
                  · go_wp2_with fail
                    go_quiet (fail)
                    go_wp2_with fail
                    go_roundw
                    case rel => exact ⟨j + 1, by omega, by rw [HSM.out]; first | rfl | simp, by go_num, below_drewN hbel nq⟩
                    case measure => simp [intOf]; omega
                  · go_wp2_with fail
                    go_quiet (fail)
                    go_wp2_with fail
                    go_roundw
                    case rel => exact ⟨j + 1, by omega, by rw [HSM.out]; first | rfl | simp, by go_num, below_drewN hbel nq⟩
                    case measure => simp [intOf]; omega
                · obtain rfl : j = m := by omega
                  have hfa : smO r n f g i j = false := smO_false n1 HZ.out i
                  rw [hfa]
                  go_wp2_with fail
                  go_roundw
                  case rel => exact ⟨i + 1, by omega, by go_num, hbel⟩
                  case measure => simp [intOf]; omega
            · obtain rfl : i = n := by omega
              go_wp2_with fail
              go_ret
              exact ⟨rfl, HBW.out.trans (hbo.mono (HBW.out.size))⟩
        · clear hVE hcond
          go_wp2_with fail
          go_loopw [11] (fun s11 wr => ∃ i : Nat, i ≤ n ∧ s11 = .int .i64 i ∧ Below w3.heap.size w3 wr) (fun s11 _ => n - (intOf s11).toNat)
          case atStart => exact ⟨0, by omega, rfl, Below.refl _ _⟩
          case round =>
            obtain ⟨wo, rfl⟩ : ∃ wo : World, wo = wr := ⟨_, rfl⟩
            obtain ⟨i, hin, rfl, hbo⟩ := hrel
            by_cases hlt : i < n
            · go_wp2_with fail
              go_loopw [12, 13] (fun s12 s13 wr => ∃ j : Nat, j ≤ m ∧ s12 = .bool (smO r n f g i j) ∧ s13 = .int .i64 j ∧ Below w3.heap.size w3 wr) (fun _ s13 _ => m - (intOf s13).toNat)
              case atStart => exact ⟨0, by omega, rfl, rfl, hbo⟩
              case round =>
                clear hbo
                obtain ⟨j, hjm, rfl, rfl, hbel⟩ := hrel
                by_cases hlj : j < m
                · obtain ⟨p, hp⟩ : ∃ p, p = (i + j) % n := ⟨_, rfl⟩
                  have hpl : p < n := by rw [hp]; exact Nat.mod_lt _ (by omega)
                  have q1 : wr.cell? ⟨b, off + p, none⟩ = some (.bool (st r n f p)) := (hbel.cell (p := ⟨b, off + p, none⟩) hbl).trans (HCL.out p hpl)
                  have q2 : wr.cell? ⟨b', off' + j, none⟩ = some (.bool (g j)) := (hbel.cell (p := ⟨b', off' + j, none⟩) hbl').trans (HCW.out j hlj)
                  have i2 : ((i : Int) + j).tmod n = (p : Int) := by
                    rw [Int.tmod_eq_emod_of_nonneg (by omega), hp, Int.natCast_emod]; congr 1
                  have e2 : IntKind.i64.wrap ((i : Int) + j) = (i : Int) + j := IntWalk.i64_in _ (by omega)
                  have e4 : IntKind.i64.wrap (p : Int) = (p : Int) := IntWalk.i64_in _ (by omega)
                  have hsm : smO r n f g i (j + 1) = (smO r n f g i j && (st r n f p == g j)) := by rw [hp]; rfl
                  obtain ⟨sj, hsj⟩ : ∃ sj, sj = smO r n f g i j := ⟨_, rfl⟩
                  rw [← hsj] at hsm ⊢
                  have HP := Lib.hid hp
                  have HSM := Lib.hid hsm
                  have HSJ := Lib.hid hsj
                  clear hp hsm hsj
                  have HBE := Lib.hid hbel
                  cases sj
                  · go_wp2_with fail
                    go_quiet (fail)
                    go_wp2_with fail
                    go_roundw
                    case rel => exact ⟨j + 1, by omega, by rw [HSM.out]; first | rfl | simp, by go_num, below_drewN hbel nq⟩
                    case measure => simp [intOf]; omega
                  · go_wp2_with fail
                    go_quiet (fail)
                    go_wp2_with fail
                    go_roundw
                    case rel => exact ⟨j + 1, by omega, by rw [HSM.out]; first | rfl | simp, by go_num, below_drewN hbel nq⟩
                    case measure => simp [intOf]; omega
                · obtain rfl : j = m := by omega
                  have hfa : smO r n f g i j = false := smO_false n1 HZ.out i
                  rw [hfa]
                  go_wp2_with fail
                  go_roundw
                  case rel => exact ⟨i + 1, by omega, by go_num, hbel⟩
                  case measure => simp [intOf]; omega
            · obtain rfl : i = n := by omega
              go_wp2_with fail
              go_ret
              exact ⟨rfl, HBW.out.trans (hbo.mono (HBW.out.size))⟩
      · go_wp2_with fail
        refine (step_ok r A n c f w1 (H.out.below hb1) n1 n2 hr.1 hr.2).mono ?_
        rintro e w2 ⟨A1, c1, rfl, rd1, le1, mx1, hb2⟩
        have HR1 := Lib.hid rd1
        clear rd1
        unfold maxLen at hm mx1
        go_wp2_with (go_at_call 8; refine (within_any _ _ _ _).mono ?_; rintro e w' ⟨rfl, rfl⟩)
        go_ret
        exact ⟨rfl, hb1.trans (hb2.mono hs1)⟩
    · have hj := inB_no (show ¬ (1 ≤ (n : Int) ∧ (n : Int) ≤ 12) by omega)
      have HN := Lib.hid hn
      clear hn h
      go_enter Try.func5, Try.ntmps5
      go_wp2_with fail
      refine (orph_any r w hr.1 hr.2).mono ?_
      rintro e w1 ⟨hb1, h1⟩
      have h1' : ∃ (B : Option Addr) (m d : Nat) (x : Int), e = .returned (.tuple #[.slice B m d, .int .i64 x]) := by
        rcases h1 with ⟨A2, m, c2, g, rfl, _⟩ | rfl
        · exact ⟨_, _, _, _, rfl⟩
        · exact ⟨_, _, _, _, rfl⟩
      obtain ⟨B, m, d, x, rfl⟩ := h1'
      clear h1
      go_wp2_with fail
      refine (step_len r A n c w1 HN.out hnm hr.1 hr.2).mono ?_; rintro e w2 ⟨rfl, rfl⟩
      unfold maxLen at hnm hm
      go_wp2_with (go_at_call 8; refine (within_any _ _ _ _).mono ?_; rintro e w' ⟨rfl, rfl⟩)
      go_ret
      exact ⟨rfl, hb1⟩
  · have hi := inB_no hr
    have HR := Lib.hid hr
    clear hr h
    unfold maxLen at hnm hm
    go_enter Try.func5, Try.ntmps5
    go_wp2_with fail
    refine (orph_wrong r w HR.out).mono ?_; rintro e w1 ⟨rfl, rfl⟩
    go_wp2_with fail
    refine (step_wrong r A n c w HR.out).mono ?_; rintro e w1 ⟨rfl, rfl⟩
    go_wp2_with (go_at_call 8; refine (within_any _ _ _ _).mono ?_; rintro e w' ⟨rfl, rfl⟩)
    go_ret
    exact ⟨rfl, Below.refl _ _⟩
end Go.Proofs.Ytnagdnbdpknniaa.cellOrphan
