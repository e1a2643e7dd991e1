/- The circuit of a machine says what the machine says, for every input: the walk of UnrollSame. Conditions: the arguments read as told. -/
import Derived.Test.YtklhbmlcpjlgiaaUnrBuild
import Derived.Test.YtklhbmlcpjlgiaaUnrStep
import Derived.Test.YtklhbmlcpjlgiaaRefGates
import Derived.Test.YtklhbmlcpjlgiaaGateRef
import Derived.Test.YtklhbmlcpjlgiaaHeldMore
namespace Go.Proofs.Ytklhbmlcpjlgiaa
open Go.ChangeShapes Go.WideShapes Go.ChangeAt Go.RowKit Go.Maps
set_option linter.unusedVariables false
set_option linter.unusedSimpArgs false
theorem w64U {x : Nat} (h : x ≤ 1000000) : wrap64 (x : Int) = (x : Int) := IntWalk.wrap64_in _ (by omega)
set_option maxRecDepth 100000 in
set_option maxHeartbeats 2000000 in
theorem ubuild_bad (M Y cells steps : Int) (T : Option Addr) (n tc : Nat) (R : Nat → SI) (w : World) (hT : Tm w T n R) (hn : n ≤ maxLen) (hE : uwE M Y n R cells steps ≠ 0) :
    Calls Try.prog 6 #[.agg #[.int .i64 M, .int .i64 Y, .slice T n tc], .int .i64 cells, .int .i64 steps] w fun e w' => e = .returned (.tuple #[.slice none 0 0, .int .i64 (uwE M Y n R cells steps)]) ∧ Below w.heap.size w w' := by
  have HT := Lib.hid hT
  clear hT
  have HB1 := Lib.hid ((Below.refl w.heap.size w).alloc (Nat.le_refl _) (.cells #[.int .i64 M, .int .i64 Y, .slice T n tc] 24))
  obtain ⟨E, hEe⟩ : ∃ E, E = uwE M Y n R cells steps := ⟨_, rfl⟩
  rw [← hEe] at hE ⊢
  have hq : (E != 0) = true := by rw [bne_iff_ne]; exact hE
  have HE := Lib.hid hEe
  have HNE := Lib.hid hE
  clear hEe hE
  have b0 : (w.alloc (.cells #[.int .i64 M, .int .i64 Y, .slice T n tc] 24)).cell? ⟨w.heap.size, 0, none⟩ = some (.int .i64 M) := by simp [go_sem]
  have b1 : (w.alloc (.cells #[.int .i64 M, .int .i64 Y, .slice T n tc] 24)).cell? ⟨w.heap.size, 1, none⟩ = some (.int .i64 Y) := by simp [go_sem]
  have b2 : (w.alloc (.cells #[.int .i64 M, .int .i64 Y, .slice T n tc] 24)).cell? ⟨w.heap.size, 2, none⟩ = some (.slice T n tc) := by simp [go_sem]
  go_enter Try.func6, Try.ntmps6
  go_wp2_with fail
  refine (uwrong_any M Y cells steps T n tc R _ (HT.out.below HB1.out) hn).mono ?_
  rintro e w2 ⟨rfl, hb2⟩
  rw [← HE.out]
  have HB2 := Lib.hid (HB1.out.trans (hb2.mono HB1.out.size))
  clear hb2 b0 b1 b2
  go_wp2_with fail
  go_ret2
  exact ⟨rfl, HB2.out⟩
set_option maxRecDepth 100000 in
set_option maxHeartbeats 4000000 in
theorem unrollSame.walk (w : World) (M Y : Int) (T : Option Addr) (n tc : Nat) (R : Nat → SI) (cells steps : Int) (a : Int)
    (wS : (Lit.int .i64 M).wf = true) (wY : (Lit.int .i64 Y).wf = true) (gT : Tm w T n R) (wT : ∀ i, (R i).wide) (l : n ≤ tc) (m : tc ≤ maxLen) (w1 : (Lit.int .i64 cells).wf = true) (w2 : (Lit.int .i64 steps).wf = true) (wa : (Lit.int .u8 a).wf = true) :
    Calls Try.prog 4 #[.agg #[.int .i64 M, .int .i64 Y, .slice T n tc], .int .i64 cells, .int .i64 steps, .int .u8 a] w fun e w' => e = .returned (.bool true) ∧ Below w.heap.size w w' := by
  have hn : n ≤ maxLen := by omega
  have ha : 0 ≤ a ∧ a ≤ 255 := by simp [Lit.wf, IntKind.min, IntKind.max, IntKind.signed, IntKind.bits] at wa; omega
  have HT := Lib.hid gT
  have HN := Lib.hid hn
  clear gT wS wY wT w1 w2 l m hn wa
  have b0 : (w.alloc (.cells #[.int .i64 M, .int .i64 Y, .slice T n tc] 24)).cell? ⟨w.heap.size, 0, none⟩ = some (.int .i64 M) := by simp [go_sem]
  have b1 : (w.alloc (.cells #[.int .i64 M, .int .i64 Y, .slice T n tc] 24)).cell? ⟨w.heap.size, 1, none⟩ = some (.int .i64 Y) := by simp [go_sem]
  have b2 : (w.alloc (.cells #[.int .i64 M, .int .i64 Y, .slice T n tc] 24)).cell? ⟨w.heap.size, 2, none⟩ = some (.slice T n tc) := by simp [go_sem]
  have HB1 := Lib.hid ((Below.refl w.heap.size w).alloc (Nat.le_refl _) (.cells #[.int .i64 M, .int .i64 Y, .slice T n tc] 24))
  have C0 := Lib.hid b0
  have C1 := Lib.hid b1
  have C2 := Lib.hid b2
  clear b0 b1 b2
  by_cases hE : uwE M Y n R cells steps = 0
  · obtain ⟨p1, ⟨p2, p3⟩, ⟨p4, p5⟩, ⟨p6, p7⟩⟩ := uwE_parts hE
    obtain ⟨y, hok⟩ := tpE_mok p1
    obtain ⟨hS, hY, n1, n5, y2, y4, hrow, hgt⟩ := hok
    obtain rfl : M = (n : Int) := hS
    obtain rfl : Y = 2 := by omega
    obtain rfl : y = 2 := by omega
    obtain ⟨cn, rfl⟩ : ∃ q : Nat, cells = (q : Int) := ⟨cells.toNat, by omega⟩
    obtain ⟨sn, rfl⟩ : ∃ q : Nat, steps = (q : Int) := ⟨steps.toNat, by omega⟩
    have n2 : 1 ≤ n ∧ n ≤ 2 := by omega
    have c5 : 1 ≤ cn ∧ cn ≤ 5 := by omega
    have s6 : sn ≤ 6 := by omega
    have HUA : Hid (uaE n 2 n R cn sn cn = 0) := Lib.hid (by unfold uaE; rw [if_neg (by rw [hE]; simp), if_neg (by simp)])
    have HSTEP : Hid (∀ W, Below w.heap.size w W → StepU W cn n tc T R) := Lib.hid fun W hb => stepU_of (HT.out.below hb) hrow hgt c5 n2
    have HBU : Hid (∀ W, Below w.heap.size w W → Calls Try.prog 6 #[.agg #[.int .i64 (n : Nat), .int .i64 2, .slice T n tc], .int .i64 (cn : Nat), .int .i64 (sn : Nat)] W (BuildR n cn sn R W)) := Lib.hid fun W hb =>
      ubuild_good n cn sn tc T R W (HT.out.below hb) hE hgt c5 n2 s6 (fun w1 hb1 => HSTEP.out w1 (hb.trans (hb1.mono hb.size)))
    have HTR : Hid True := Lib.hid trivial
    clear HSTEP p1 p2 p3 p4 p5 p6 p7 hE hY n1 n5 y2 y4 hrow hgt
    obtain ⟨P, hP⟩ : ∃ P, P = 2 ^ cn := ⟨_, rfl⟩
    have hP32 : 1 ≤ P ∧ P ≤ 32 := by
      rw [hP]
      exact ⟨Nat.pow_pos (by omega), Nat.pow_le_pow_right (n := 2) (i := cn) (j := 5) (by omega) (by omega)⟩
    have hpi : (2 : Int) ^ cn = (P : Int) := by rw [hP]; push_cast; rfl
    have HPI := Lib.hid hpi
    have HW64 : Hid (wrap64 ((2 : Int) ^ cn) = (P : Int)) := Lib.hid (by rw [hpi]; exact w64U (by omega))
    obtain ⟨kk, hkk⟩ : ∃ kk : Nat, a % (P : Int) = (kk : Int) := ⟨(a % (P : Int)).toNat, by have := Int.emod_nonneg a (b := (P : Int)) (by omega); omega⟩
    have hkP : kk < P := by have := Int.emod_lt_of_pos a (b := (P : Int)) (by omega); omega
    have HKK := Lib.hid hkk
    have HP := Lib.hid hP
    clear hP hpi hkk
    go_enter Try.func4, Try.ntmps4
    go_wp2_with fail
    have C0' := C0.out
    have C1' := C1.out
    have C2' := C2.out
    refine (HBU.out _ HB1.out).mono ?_
    rintro e w2 ⟨A, m, c, F, rfl, hrd, hgw, ⟨hm1, hm2⟩, hval, hb2⟩
    have s2 := hb2.size
    have d0 := (hb2.cell (p := ⟨w.heap.size, 0, none⟩) (by show w.heap.size < _; simp)).trans C0'
    have d1 := (hb2.cell (p := ⟨w.heap.size, 1, none⟩) (by show w.heap.size < _; simp)).trans C1'
    have d2 := (hb2.cell (p := ⟨w.heap.size, 2, none⟩) (by show w.heap.size < _; simp)).trans C2'
    have lw2 : w.heap.size < w2.heap.size := by simp at s2; omega
    have HD := Lib.hid (And.intro d0 (And.intro d1 d2))
    have HB2 := Lib.hid (HB1.out.trans (hb2.mono HB1.out.size))
    have HRD := Lib.hid hrd
    have HGW := Lib.hid hgw
    have HVAL := Lib.hid hval
    have hm0 : ((m : Int) == 0) = false := by rw [beq_eq_false_iff_ne]; omega
    clear hb2 hrd hgw hval C0' C1' C2' d0 d1 d2 s2 HBU C0 C1 C2 HB1
    go_wp2_with fail
    refine (within_any 1 cn 5 w2).mono ?_
    rintro e w3 ⟨rfl, hw3⟩
    subst hw3
    rw [show inB 1 (cn : Int) 5 = true from inB_yes (by omega) (by omega)]
    go_wp2_with fail
    have hgc := gatesCheck_any (cn : Int) A m c F w2 HRD.out (by unfold maxLen; omega)
    rw [gw_of HGW.out] at hgc
    refine hgc.mono ?_
    rintro e w4 ⟨rfl, hb4⟩
    have s4 := hb4.size
    have lw4 : w.heap.size < w4.heap.size := by omega
    have HS0 : Hid (w4.drew.cell? ⟨w.heap.size, 0, none⟩ = some (.int .i64 (n : Nat)) ∧ w4.drew.cell? ⟨w.heap.size, 1, none⟩ = some (.int .i64 2) ∧ w4.drew.cell? ⟨w.heap.size, 2, none⟩ = some (.slice T n tc)) := Lib.hid ⟨(hb4.cell (p := ⟨w.heap.size, 0, none⟩) lw2).trans HD.out.1, (hb4.cell (p := ⟨w.heap.size, 1, none⟩) lw2).trans HD.out.2.1, (hb4.cell (p := ⟨w.heap.size, 2, none⟩) lw2).trans HD.out.2.2⟩
    have HB4 := Lib.hid (HB2.out.trans (hb4.mono HB2.out.size))
    have HRD4 := Lib.hid (HRD.out.below hb4)
    clear hgc hb4 s4 HRD HB2 HD lw2
    go_upto_region 7 with fail
    case isTrue h0 => rw [HW64.out] at h0; omega
    rename_i h0 _ _
    clear h0
    rw [HW64.out, HKK.out]
    go_wp2_with fail
    refine wp_region_any (by kernel_rfl) ?_
    change wpAny _ _ _ _ _ _ _ (World.drew _)
    refine any_of_T (S := fun W' => W'.cell? ⟨w.heap.size, 0, none⟩ = some (.int .i64 (n : Nat)) ∧ W'.cell? ⟨w.heap.size, 1, none⟩ = some (.int .i64 2) ∧ W'.cell? ⟨w.heap.size, 2, none⟩ = some (.slice T n tc)) (c := 6) _ _ _ _ ?_
    refine anyT_takeL [6] (i := 0) (v := ?_) rfl (by decide +kernel) (by decide +kernel) (by decide +kernel) (by decide +kernel) (by decide +kernel) (by decide +kernel) (fun _ _ _ h => h) (Or.inl ⟨by rfl, ?_⟩) HS0.out ?_
    rotate_left 1
    · intro w hS; obtain ⟨s0, s1, s2⟩ := hS; go_simp; with_reducible rfl
    simp only [Act.put, List.getElem_toArray, List.getElem_cons_zero, List.getElem_cons_succ, List.setIfInBounds_toArray, List.set_cons_zero, List.set_cons_succ]
    refine anyT_takeY (i := 1) (v := ?_) rfl (by decide +kernel) (by decide +kernel) (by decide +kernel) (by decide +kernel) (fun _ _ _ h => h) (Or.inl ⟨by rfl, ?_⟩) HS0.out ?_
    rotate_left 1
    · intro w _; go_simp; with_reducible rfl
    simp only [Act.put, List.getElem_toArray, List.getElem_cons_zero, List.getElem_cons_succ, List.setIfInBounds_toArray, List.set_cons_zero, List.set_cons_succ]
    refine anyT_takeY (i := 2) (v := ?_) rfl (by decide +kernel) (by decide +kernel) (by decide +kernel) (by decide +kernel) (fun _ _ _ h => h) (Or.inl ⟨by rfl, ?_⟩) HS0.out ?_
    rotate_left 1
    · intro w _; go_simp; with_reducible rfl
    simp only [Act.put, List.getElem_toArray, List.getElem_cons_zero, List.getElem_cons_succ, List.setIfInBounds_toArray, List.set_cons_zero, List.set_cons_succ]
    refine anyT_takeY (i := 3) (v := ?_) rfl (by decide +kernel) (by decide +kernel) (by decide +kernel) (by decide +kernel) (fun _ _ _ h => h) (Or.inl ⟨by rfl, ?_⟩) HS0.out ?_
    rotate_left 1
    · intro w _; go_simp; with_reducible rfl
    simp only [Act.put, List.getElem_toArray, List.getElem_cons_zero, List.getElem_cons_succ, List.setIfInBounds_toArray, List.set_cons_zero, List.set_cons_succ]
    refine anyT_takeY (i := 4) (v := ?_) rfl (by decide +kernel) (by decide +kernel) (by decide +kernel) (by decide +kernel) (fun _ _ _ h => h) (Or.inl ⟨by rfl, ?_⟩) HS0.out ?_
    rotate_left 1
    · intro w _; go_simp; with_reducible rfl
    simp only [Act.put, List.getElem_toArray, List.getElem_cons_zero, List.getElem_cons_succ, List.setIfInBounds_toArray, List.set_cons_zero, List.set_cons_succ]
    refine anyT_one (i := 5) (by decide +kernel) rfl (fun KK hK => ?_)
    go_simp
    go_at_call 9
    refine (refBits_any cn kk (by omega) (by omega) w4.drew).mono ?_
    rintro e w5 ⟨⟨S5, sc5, rfl, hr5⟩, hb5⟩
    have HB5 := Lib.hid (HB4.out.drew.trans (hb5.mono HB4.out.drew.size))
    have HX5 := Lib.hid hb5
    have HR5 := Lib.hid hr5
    have HS5 : Hid (w5.cell? ⟨w.heap.size, 0, none⟩ = some (.int .i64 (n : Nat)) ∧ w5.cell? ⟨w.heap.size, 1, none⟩ = some (.int .i64 2) ∧ w5.cell? ⟨w.heap.size, 2, none⟩ = some (.slice T n tc)) := Lib.hid ⟨(hb5.cell (p := ⟨w.heap.size, 0, none⟩) lw4).trans HS0.out.1, (hb5.cell (p := ⟨w.heap.size, 1, none⟩) lw4).trans HS0.out.2.1, (hb5.cell (p := ⟨w.heap.size, 2, none⟩) lw4).trans HS0.out.2.2⟩
    clear hr5 hb5
    try go_simp
    refine hK.out _ _ (fun _ => HS5.out) ?_
    clear hK KK
    try simp only [Act.put, List.getElem_toArray, List.getElem_cons_zero, List.getElem_cons_succ, List.setIfInBounds_toArray, List.set_cons_zero, List.set_cons_succ]
    refine anyT_one (i := 6) (by decide +kernel) rfl (fun KK hK => ?_)
    go_simp
    go_at_call 5
    refine (ask_good n 2 cn sn T S5 n tc sc5 R (bitB kk) w5 (HT.out.below HB5.out) HN.out HR5.out HUA.out).mono ?_
    rintro e w6 ⟨rfl, hb6⟩
    have HB6 := Lib.hid (HB5.out.trans (hb6.mono HB5.out.size))
    have HX6 := Lib.hid (HX5.out.trans (hb6.mono HX5.out.size))
    clear hb6
    try go_simp
    refine hK.out _ _ (fun h => absurd h (by decide +kernel)) ?_
    clear hK KK
    try simp only [Act.put, List.getElem_toArray, List.getElem_cons_zero, List.getElem_cons_succ, List.setIfInBounds_toArray, List.set_cons_zero, List.set_cons_succ]
    refine T_of_any _ _ _ _ (by decide +kernel) ?_
    refine wpAny_take (i := 7) (v := ?_) rfl (by kernel_rfl) (by kernel_rfl) (by kernel_rfl) (fun _ _ _ h => h) (Or.inl ⟨by rfl, ?_⟩) ?_
    rotate_left 1
    · intro w; go_simp; with_reducible rfl
    simp only [Act.put, List.getElem_toArray, List.getElem_cons_zero, List.getElem_cons_succ, List.setIfInBounds_toArray, List.set_cons_zero, List.set_cons_succ]
    refine wpAny_take (i := 8) (v := ?_) rfl (by kernel_rfl) (by kernel_rfl) (by kernel_rfl) (fun _ _ _ h => h) (Or.inl ⟨by rfl, ?_⟩) ?_
    rotate_left 1
    · intro w; go_simp; with_reducible rfl
    simp only [Act.put, List.getElem_toArray, List.getElem_cons_zero, List.getElem_cons_succ, List.setIfInBounds_toArray, List.set_cons_zero, List.set_cons_succ]
    refine wpAny_take (i := 9) (v := ?_) rfl (by kernel_rfl) (by kernel_rfl) (by kernel_rfl) (fun _ _ _ h => h) (Or.inl ⟨by rfl, ?_⟩) ?_
    rotate_left 1
    · intro w; go_simp; with_reducible rfl
    simp only [Act.put, List.getElem_toArray, List.getElem_cons_zero, List.getElem_cons_succ, List.setIfInBounds_toArray, List.set_cons_zero, List.set_cons_succ]
    refine wpAny_take (i := 10) (v := ?_) rfl (by kernel_rfl) (by kernel_rfl) (by kernel_rfl) (fun _ _ _ h => h) (Or.inl ⟨by rfl, ?_⟩) ?_
    rotate_left 1
    · intro w; go_simp; with_reducible rfl
    simp only [Act.put, List.getElem_toArray, List.getElem_cons_zero, List.getElem_cons_succ, List.setIfInBounds_toArray, List.set_cons_zero, List.set_cons_succ]
    refine wpAny_take (i := 11) (v := ?_) rfl (by kernel_rfl) (by kernel_rfl) (by kernel_rfl) (fun _ _ _ h => h) (Or.inl ⟨by rfl, ?_⟩) ?_
    rotate_left 1
    · intro w; go_simp; with_reducible rfl
    simp only [Act.put, List.getElem_toArray, List.getElem_cons_zero, List.getElem_cons_succ, List.setIfInBounds_toArray, List.set_cons_zero, List.set_cons_succ]
    refine wpAny_done (by decide +kernel) ?_ _
    have hv := HVAL.out (bitB kk)
    have hgt6 := refGates_any (cn : Int) A m c kk F w6 (HRD4.out.drew.below HX6.out) hm2 (by omega) (by omega) HGW.out
    have HG6 := Lib.hid hgt6
    have HV6 := Lib.hid hv
    obtain ⟨b, hbe⟩ : ∃ b, b = ansU n R cn (bitB kk) sn := ⟨_, rfl⟩
    rw [← hbe] at HV6
    rw [← hbe]
    obtain ⟨J, hJ⟩ : ∃ J, J = m - 1 := ⟨_, rfl⟩
    rw [← hJ] at HV6
    obtain rfl : m = J + 1 := by omega
    clear hgt6 hv hbe hJ hm0
    go_wp2_with fail
    refine HG6.out.mono ?_
    rintro e w7 ⟨A7, c7, rfl, hr7, hb7⟩
    obtain ⟨b7, o7, rfl, lb7, hcv⟩ := hr7.at_ (show J < J + 1 by omega)
    rw [HV6.out] at hcv
    have HB7 := Lib.hid (HB6.out.trans (hb7.mono HB6.out.size))
    have hj : ((J + 1 : Nat) : Int) - 1 = (J : Int) := by omega
    have hbb : (b == b) = true := by simp
    clear hr7 hb7 HG6
    go_wp2_with fail
    go_ret
    exact ⟨by first | rfl | (cases b <;> rfl), HB7.out⟩
  · have hq := Lib.hid hE
    have HBB := Lib.hid (ubuild_bad M Y cells steps T n tc R _ (HT.out.below HB1.out) HN.out hE)
    obtain ⟨E, hEe⟩ : ∃ E, E = uwE M Y n R cells steps := ⟨_, rfl⟩
    rw [← hEe] at hE HBB
    have hq0 : (E != 0) = true := by rw [bne_iff_ne]; exact hE
    clear hEe hq C0 C1 C2
    go_enter Try.func4, Try.ntmps4
    go_wp2_with fail
    refine HBB.out.mono ?_
    rintro e w2 ⟨rfl, hb2⟩
    have HB2 := Lib.hid (HB1.out.trans (hb2.mono HB1.out.size))
    clear hb2 HBB
    go_wp2_with fail
    go_ret
    exact ⟨rfl, HB2.out⟩
end Go.Proofs.Ytklhbmlcpjlgiaa
