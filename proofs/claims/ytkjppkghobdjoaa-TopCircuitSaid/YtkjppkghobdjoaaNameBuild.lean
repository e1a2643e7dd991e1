/- What name.Build makes: clauses that say what the circuit says. Conditions: the gates read as told. -/
import Derived.Test.YtkjppkghobdjoaaNameSt
import Derived.Test.YtkjppkghobdjoaaGateValue
import Derived.Deep.RegionLaw
import Derived.BigQuiet
import Derived.Deep.QuietTactic
import Derived.IntWalk
namespace Go.Proofs.Ytkjppkghobdjoaa
open Go.ChangeShapes Go.WideShapes Go.ChangeAt Go.RowKit nameMore
set_option linter.unusedVariables false
def NBuildR (p : Nat) (F : Nat → Int) (n : Nat) (w : World) (e : Ending) (w' : World) : Prop :=
  ∃ (A' : Option Addr) (m c' : Nat) (Y N : Nat → SI), e = .returned (.tuple #[.int .i64 ((p + nonI F n : Nat) : Int), .slice A' m c', .int .i64 0]) ∧ Below w.heap.size w w' ∧ m ≤ 121 ∧ Cls w' A' m Y N ∧ (∀ i, i < m → (Y i).n ≤ 2 ∧ (N i).n ≤ 2 ∧ (Y i).n + (N i).n ≤ 3) ∧ VIn m (p + nonI F n) Y N ∧ ∀ h, isC m Y N h = true ↔ conV p F n h ∧ h (vr p F (n - 1)) = true
set_option maxRecDepth 100000 in
theorem nbuild_no (inn : Int) (A : Option Addr) (n c : Nat) (F : Nat → Int) (w : World) (h : Rd w A (n * 3) (fun q => .int .i64 (F q))) (hn : n ≤ maxLen) (hz : ckE inn F n ≠ 0) :
    Calls Try.prog 4 #[.int .i64 inn, .slice A n c] w fun e w' => e = .returned (.tuple #[.int .i64 0, .slice none 0 0, .int .i64 (ckE inn F n)]) ∧ Below w.heap.size w w' := by
  have H := Lib.hid h
  have HN := Lib.hid hn
  clear h hn
  obtain ⟨x, hx⟩ : ∃ x, x = ckE inn F n := ⟨_, rfl⟩
  rw [← hx] at hz ⊢
  have HX := Lib.hid hx
  clear hx
  have q1 : (x != 0) = true := by rw [bne_iff_ne]; exact hz
  clear hz
  go_enter Try.func4, Try.ntmps4
  go_wp2_with fail
  refine (check_any inn A n c F w H.out HN.out).mono ?_
  rintro e w1 ⟨rfl, hb1⟩
  rw [← HX.out]
  have HB1 := Lib.hid hb1
  clear hb1
  go_wp2_with fail
  refine bodyPost_ret (v := .tuple #[.int .i64 0, .slice none 0 0, .int .i64 x]) (by simp [results, Try.results4, go_sem]) rfl ?_
  exact ⟨rfl, HB1.out⟩
set_option maxRecDepth 100000 in
set_option maxHeartbeats 4000000 in
theorem nbuild_any (p : Nat) (A : Option Addr) (n c : Nat) (F : Nat → Int) (w : World) (h : Rd w A (n * 3) (fun q => .int .i64 (F q))) (hn : n ≤ maxLen) (hw : ∀ i, (Lit.int .i64 (F i)).wf = true) (hz : ckE (p : Int) F n = 0) :
    Calls Try.prog 4 #[.int .i64 (p : Int), .slice A n c] w (NBuildR p F n w) := by
  have H := Lib.hid h
  have HN := Lib.hid hn
  have HW := Lib.hid hw
  obtain ⟨i0, i5, n1, n40, hgw⟩ := ckE_zero hz
  have hGW : GW (p : Int) F n := gw_zero hgw
  have HGW := Lib.hid hGW
  have HZ := Lib.hid hz
  clear h hn hw hgw hGW hz
  go_enter Try.func4, Try.ntmps4
  go_wp2_with fail
  refine (check_any (p : Int) A n c F w H.out HN.out).mono ?_
  rintro e w1 ⟨rfl, hb1⟩
  rw [HZ.out]
  have hbw := hb1.size
  have hq0 : NQ w (w1.alloc (.cells #[.slice none 0 0] 23)) w1.heap.size 0 0 none (fun _ => SI.nil) (fun _ => SI.nil) none 0 0 (vr p F) :=
    ⟨⟨World.rowIs_alloc w1 #[.slice none 0 0] 23 _ (fun i hi => by
        have : i = 0 := by simp at hi; omega
        subst this; rfl), hbw, Own.nil _ _ _ _ _⟩, Own.nil _ _ _ _ _, fun i hi => absurd hi (Nat.not_lt_zero _), fun i hi => absurd hi (Nat.not_lt_zero _), hb1.alloc hbw _⟩
  have HQ0 := Lib.hid hq0
  clear hq0 hb1
  go_wp2_with fail
  obtain ⟨B, hB⟩ : ∃ B, B = w1.heap.size := ⟨_, rfl⟩
  obtain ⟨W0, hW0⟩ : ∃ W0, W0 = w1.alloc (.cells #[.slice none 0 0] 23) := ⟨_, rfl⟩
  rw [← hB, ← hW0] at HQ0
  rw [← hB, ← hW0]
  clear hB hW0 hbw
  go_loopw [8, 10, 28] (fun s8 s10 s28 wr => ∃ (k m c A : _) (Y N : Nat → SI) (Av : Option Addr) (cv X : Nat), k ≤ n ∧ s28 = .int .i64 (k : Nat) ∧ s8 = .slice Av k cv ∧ s10 = .int .i64 (X : Nat) ∧ Hid (X = p + nonI F k) ∧ m ≤ 3 * k ∧ X ≤ p + k ∧ Hid (NQ w wr B m c A Y N Av k cv (vr p F)) ∧ Hid (∀ i, i < m → (Y i).n ≤ 2 ∧ (N i).n ≤ 2 ∧ (Y i).n + (N i).n ≤ 3) ∧ Hid (VIn m (p + nonI F k) Y N) ∧ Hid (∀ h, isC m Y N h = true ↔ conV p F k h)) (fun _ _ s28 _ => n - (intOf s28).toNat)
  case atStart => exact ⟨0, 0, 0, none, _, _, none, 0, p, Nat.zero_le _, rfl, rfl, rfl, Lib.hid rfl, Nat.zero_le _, by omega, HQ0, Lib.hid (fun i hi => absurd hi (Nat.not_lt_zero _)), Lib.hid (fun i hi => absurd hi (Nat.not_lt_zero _)), Lib.hid (fun h => ⟨fun _ j hj => absurd hj (Nat.not_lt_zero _), fun _ => isC_iff.2 fun i hi => absurd hi (Nat.not_lt_zero _)⟩)⟩
  case round =>
    clear HQ0
    obtain ⟨wo, rfl⟩ : ∃ wo : World, wo = wr := ⟨_, rfl⟩
    obtain ⟨k, m, cb, Ab, Y, N, Av, cv, X, hk, rfl, rfl, rfl, HX, hm, hX, HQ, HL2, HV, HC⟩ := hrel
    by_cases hlt : k < n
    · obtain ⟨b, off, rfl, hc0, hc1, hc2⟩ := (H.out.below HQ.out.bel).at3 hlt
      have hz := gE_zero (HGW.out k hlt)
      have w0 := HW.out (3 * k)
      have w1' := HW.out (3 * k + 1)
      have w2' := HW.out (3 * k + 2)
      have hvl := fun (j : Nat) (hj : j < k) => vr_lt HGW.out hj (show j < n by omega)
      rw [← HX.out] at hvl
      obtain ⟨kd, hkd⟩ : ∃ kd, kd = F (3 * k) := ⟨_, rfl⟩
      obtain ⟨ga, hga⟩ : ∃ ga, ga = F (3 * k + 1) := ⟨_, rfl⟩
      obtain ⟨gb, hgb⟩ : ∃ gb, gb = F (3 * k + 2) := ⟨_, rfl⟩
      rw [← hkd] at hc0 hz w0
      rw [← hga] at hc1 hz w1'
      rw [← hgb] at hc2 hz w2'
      have HKD := Lib.hid hkd
      have HGA := Lib.hid hga
      have HGB := Lib.hid hgb
      have HVL := Lib.hid hvl
      clear hkd hga hgb hvl
      have hQa := HQ.out.below ((Below.refl wo.heap.size wo).alloc (Nat.le_refl _) (.cells #[.int .i64 kd, .int .i64 ga, .int .i64 gb] 46))
      have hgr : (wo.alloc (.cells #[.int .i64 kd, .int .i64 ga, .int .i64 gb] 46)).rowIs wo.heap.size 46 3 (fun j => if j = 0 then .int .i64 kd else if j = 1 then .int .i64 ga else .int .i64 gb) := World.rowIs_alloc wo #[.int .i64 kd, .int .i64 ga, .int .i64 gb] 46 _ fun i hi => by
        have : i = 0 ∨ i = 1 ∨ i = 2 := by simp at hi; omega
        rcases this with rfl | rfl | rfl <;> rfl
      have hvo : ∀ g, (Value.slice Av k cv).ownBlock = some g → g < wo.heap.size := fun g hg => (HQ.out.ov.lt g hg).2
      have HQA := Lib.hid hQa
      have HGR := Lib.hid hgr
      have HVO := Lib.hid hvo
      clear hQa hgr hvo
      obtain ⟨h14, h41, hin, hga2, hgb2⟩ := hz
      have hkd4 : kd = 1 ∨ kd = 2 ∨ kd = 3 ∨ kd = 4 := by omega
      rcases hkd4 with rfl | rfl | rfl | rfl
      · obtain ⟨a1, a2⟩ := hin rfl
        clear hga2 hgb2 hin
        have hwl := HQ.out.bel.size
        go_wp2_with (at_builtin; refine wpList_app _ rfl (.tmp 35) (.tmp 38) 38 rfl EIn rfl (HQA.out.ov.alloc _) rfl (l := 1) (by omega) (Rd.oneN (wo.alloc (.cells #[.int .i64 1, .int .i64 ga, .int .i64 gb] 46)) (.int .i64 ga) 3 _ (by simp)) (fun _ _ => rfl) (by unfold maxLen; omega) (by omega) (by simp; omega) (k + 1) (k + 1) (by omega) (by omega) ?_; intro A3 c3 w3 hown3 hg3 hat3 hbl3)
        have hQ3 := (HQA.out.below ((Below.refl _ _).alloc (Nat.le_refl _) (.cells #[.int .i64 ga] 3))).app (V' := vr p F) (hown3.vrs (by
          show Value.int .i64 ga = .int .i64 ((vr p F k : Nat) : Int)
          unfold vr
          rw [if_pos HKD.out.symm, ← HGA.out, Int.toNat_of_nonneg a1])) hg3 hat3 hbl3
        have hno : nonI F (k + 1) = nonI F k := by simp only [nonI]; rw [if_pos HKD.out.symm]; rfl
        go_roundw
        case rel => exact ⟨k + 1, m, cb, Ab, Y, N, A3, c3, X, by omega, by go_num, rfl, rfl, Lib.hid (by rw [hno]; exact HX.out), by omega, by omega, Lib.hid hQ3, HL2, Lib.hid (by rw [hno]; exact HV.out), Lib.hid (con1 HC.out HKD.out.symm)⟩
        case measure => simp [intOf]; omega
      · obtain ⟨a1, a2⟩ := hga2 (by omega)
        obtain ⟨gan, rfl⟩ : ∃ gan : Nat, ga = (gan : Int) := ⟨ga.toNat, by omega⟩
        obtain ⟨by_, oy_, rfl, hby, hcy⟩ := HQA.out.ov.rd.at_ (k := gan) (by omega)
        have hav := HVL.out gan (by omega)
        obtain ⟨av, hav'⟩ : ∃ av, av = vr p F gan := ⟨_, rfl⟩
        rw [← hav'] at hav hcy
        have HAV := Lib.hid hav'
        clear hin hga2 hgb2 hav'
        go_wp2_with fail
        go_quiet (fail)
        obtain ⟨wq, hwq⟩ : ∃ wq, wq = (wo.alloc (.cells #[.int .i64 2, .int .i64 (gan : Int), .int .i64 gb] 46)).drewN nq := ⟨_, rfl⟩
        rw [← hwq]
        have hQ2 := HQA.out.below (below_drewN (Below.refl _ _) nq)
        have hg2 := HGR.out.of_block (w' := (wo.alloc (.cells #[.int .i64 2, .int .i64 (gan : Int), .int .i64 gb] 46)).drewN nq) rfl
        have hsz : wo.heap.size < (wo.alloc (.cells #[.int .i64 2, .int .i64 (gan : Int), .int .i64 gb] 46)).heap.size := by simp
        have hsz2 : (wo.alloc (.cells #[.int .i64 2, .int .i64 (gan : Int), .int .i64 gb] 46)).heap.size = ((wo.alloc (.cells #[.int .i64 2, .int .i64 (gan : Int), .int .i64 gb] 46)).drewN nq).heap.size := rfl
        rw [hsz2, ← hwq] at hsz
        rw [← hwq] at hQ2 hg2
        clear hwq hsz2 hcy hby
        have hwl := hQ2.bel.size
        have HQ2 := Lib.hid hQ2
        have HG2 := Lib.hid hg2
        clear hQ2 hg2
        have hno : nonI F (k + 1) = nonI F k + 1 := by simp only [nonI]; rw [if_neg (by rw [← HKD.out]; decide)]
        have hvx : vr p F k = X := by rw [HX.out]; unfold vr; rw [if_neg (by rw [← HKD.out]; decide)]
        have HNO := Lib.hid hno
        have HVX := Lib.hid hvx
        clear hno hvx
        go_wp2_with (at_builtin; refine wpList_app _ rfl (.tmp 48) (.tmp 50) 38 rfl EIn rfl (HQ2.out.ov.alloc _) rfl (l := 1) (by omega) (Rd.one _ _ _) (fun _ _ => rfl) (by unfold maxLen; omega) (by omega) (by simp; omega) (k + 1) (k + 1) (by omega) (by omega) ?_; intro A3 c3 w3 hown3 hg3 hat3 hbl3; have hgr3 := (HG2.out.alloc (.cells #[.int .i64 (X : Nat)] 3)).of_block (hg3.block wo.heap.size (by simp; omega) (fun e => absurd (HVO.out _ e.symm) (Nat.lt_irrefl _))); have d0 := hgr3.cell (i := 0) (by omega); have d2 := hgr3.cell (i := 2) (by omega); simp only [if_true, if_false, show (2 : Nat) ≠ 0 by omega, show (2 : Nat) ≠ 1 by omega] at d0 d2)
        have hQ3 := (HQ2.out.below ((Below.refl _ _).alloc (Nat.le_refl _) (.cells #[.int .i64 (X : Nat)] 3))).app (V' := vr p F) (hown3.vrs (by rw [HVX.out])) hg3 hat3 hbl3
        have HQ3 := Lib.hid hQ3
        clear hQ3 hown3 hg3 hat3 hbl3 hgr3
        refine (HQ3.out.nput (y := (si2 w3.heap.size X av)) (z := SI.nil) ((Below.refl _ _).alloc (by first | exact Nat.le_refl _ | simp) (.cells #[.int .i64 (X : Nat), .int .i64 (av : Nat)] 3)) (by omega) (IR.two w3 X av _ rfl (by omega) (by omega)) (IR.nil _) (bl2 (by omega)) bl0).mono ?_
        rintro e x1 ⟨rfl, E1, e1, hQ4⟩
        have HQ4 := Lib.hid hQ4
        clear hQ4
        go_wp2_with fail
        refine (HQ4.out.nput (y := SI.nil) (z := (si2 x1.heap.size X av)) ((Below.refl _ _).alloc (by first | exact Nat.le_refl _ | simp) (.cells #[.int .i64 (X : Nat), .int .i64 (av : Nat)] 3)) (by omega) (IR.nil _) (IR.two x1 X av _ rfl (by omega) (by omega)) bl0 (bl2 (by omega))).mono ?_
        rintro e x2 ⟨rfl, E2, e2, hQ5⟩
        have HQ5 := Lib.hid hQ5
        clear hQ5
        go_wp2_with fail
        go_roundw
        case rel => exact ⟨k + 1, m + 2, _, _, _, _, _, _, X + 1, by omega, by go_num, rfl, by go_num, Lib.hid (by rw [HNO.out, HX.out]; rfl), by omega, by omega, HQ5, Lib.hid (two_snoc (two_snoc HL2.out (Nat.le_refl 2) (Nat.zero_le 2) (Nat.le_succ 2)) (Nat.zero_le 2) (Nat.le_refl 2) (Nat.le_succ 2)), Lib.hid (by have hx := HX.out; have hn := HNO.out; exact (((HV.out.mono (by omega)).snoc (vin2 (by omega) (by omega)) vin0).snoc vin0 (vin2 (by omega) (by omega)))), Lib.hid (con2 HC.out HKD.out.symm HVX.out.symm (by rw [← HGA.out, Int.toNat_natCast]; exact HAV.out))⟩
        case measure => simp [intOf]; omega
      · obtain ⟨a1, a2⟩ := hga2 (by omega)
        obtain ⟨gan, rfl⟩ : ∃ gan : Nat, ga = (gan : Int) := ⟨ga.toNat, by omega⟩
        obtain ⟨b1, b2⟩ := hgb2 (by omega)
        obtain ⟨gbn, rfl⟩ : ∃ gbn : Nat, gb = (gbn : Int) := ⟨gb.toNat, by omega⟩
        obtain ⟨by_, oy_, rfl, hby, hcy⟩ := HQA.out.ov.rd.at_ (k := gan) (by omega)
        have hav := HVL.out gan (by omega)
        obtain ⟨av, hav'⟩ : ∃ av, av = vr p F gan := ⟨_, rfl⟩
        rw [← hav'] at hav hcy
        have HAV := Lib.hid hav'
        have hbv := HVL.out gbn (by omega)
        obtain ⟨bv, hbv'⟩ : ∃ bv, bv = vr p F gbn := ⟨_, rfl⟩
        rw [← hbv'] at hbv
        have HBV := Lib.hid hbv'
        clear hin hga2 hgb2 hav' hbv'
        go_wp2_with fail
        go_quiet (fail)
        obtain ⟨wq, hwq⟩ : ∃ wq, wq = (wo.alloc (.cells #[.int .i64 3, .int .i64 (gan : Int), .int .i64 (gbn : Int)] 46)).drewN nq := ⟨_, rfl⟩
        rw [← hwq]
        have hQ2 := HQA.out.below (below_drewN (Below.refl _ _) nq)
        have hg2 := HGR.out.of_block (w' := (wo.alloc (.cells #[.int .i64 3, .int .i64 (gan : Int), .int .i64 (gbn : Int)] 46)).drewN nq) rfl
        have hsz : wo.heap.size < (wo.alloc (.cells #[.int .i64 3, .int .i64 (gan : Int), .int .i64 (gbn : Int)] 46)).heap.size := by simp
        have hsz2 : (wo.alloc (.cells #[.int .i64 3, .int .i64 (gan : Int), .int .i64 (gbn : Int)] 46)).heap.size = ((wo.alloc (.cells #[.int .i64 3, .int .i64 (gan : Int), .int .i64 (gbn : Int)] 46)).drewN nq).heap.size := rfl
        rw [hsz2, ← hwq] at hsz
        rw [← hwq] at hQ2 hg2
        clear hwq hsz2 hcy hby
        have hwl := hQ2.bel.size
        have HQ2 := Lib.hid hQ2
        have HG2 := Lib.hid hg2
        clear hQ2 hg2
        have hno : nonI F (k + 1) = nonI F k + 1 := by simp only [nonI]; rw [if_neg (by rw [← HKD.out]; decide)]
        have hvx : vr p F k = X := by rw [HX.out]; unfold vr; rw [if_neg (by rw [← HKD.out]; decide)]
        have HNO := Lib.hid hno
        have HVX := Lib.hid hvx
        clear hno hvx
        go_wp2_with (at_builtin; refine wpList_app _ rfl (.tmp 48) (.tmp 50) 38 rfl EIn rfl (HQ2.out.ov.alloc _) rfl (l := 1) (by omega) (Rd.one _ _ _) (fun _ _ => rfl) (by unfold maxLen; omega) (by omega) (by simp; omega) (k + 1) (k + 1) (by omega) (by omega) ?_; intro A3 c3 w3 hown3 hg3 hat3 hbl3; have hgr3 := (HG2.out.alloc (.cells #[.int .i64 (X : Nat)] 3)).of_block (hg3.block wo.heap.size (by simp; omega) (fun e => absurd (HVO.out _ e.symm) (Nat.lt_irrefl _))); have d0 := hgr3.cell (i := 0) (by omega); have d2 := hgr3.cell (i := 2) (by omega); simp only [if_true, if_false, show (2 : Nat) ≠ 0 by omega, show (2 : Nat) ≠ 1 by omega] at d0 d2; have hov3 := hown3.vrs (by rw [HVX.out]); obtain ⟨by3, oy3, rfl, _, hcy3⟩ := hov3.rd.at_ (k := gbn) (by omega); rw [← HBV.out] at hcy3)
        have hQ3 := (HQ2.out.below ((Below.refl _ _).alloc (Nat.le_refl _) (.cells #[.int .i64 (X : Nat)] 3))).app (V' := vr p F) (hown3.vrs (by rw [HVX.out])) hg3 hat3 hbl3
        have HQ3 := Lib.hid hQ3
        clear hQ3 hown3 hg3 hat3 hbl3 hgr3 hov3
        refine (HQ3.out.nput (y := (si1 w3.heap.size av)) (z := (si1 (w3.heap.size + 1) X)) (((Below.refl _ _).alloc (by first | exact Nat.le_refl _ | simp) (.cells #[.int .i64 (av : Nat)] 3)).alloc (by first | exact Nat.le_refl _ | simp) (.cells #[.int .i64 (X : Nat)] 3)) (by omega) ((IR.one w3 av _ rfl (by omega)).below ((Below.refl _ _).alloc (Nat.le_refl _) _)) (IR.one (w3.alloc (.cells #[.int .i64 (av : Nat)] 3)) X _ (by simp) (by omega)) (bl1 (by omega)) (bl1 (by omega))).mono ?_
        rintro e x1 ⟨rfl, E1, e1, hQ4⟩
        have HQ4 := Lib.hid hQ4
        clear hQ4
        go_wp2_with fail
        refine (HQ4.out.nput (y := (si1 x1.heap.size bv)) (z := (si1 (x1.heap.size + 1) X)) (((Below.refl _ _).alloc (by first | exact Nat.le_refl _ | simp) (.cells #[.int .i64 (bv : Nat)] 3)).alloc (by first | exact Nat.le_refl _ | simp) (.cells #[.int .i64 (X : Nat)] 3)) (by omega) ((IR.one x1 bv _ rfl (by omega)).below ((Below.refl _ _).alloc (Nat.le_refl _) _)) (IR.one (x1.alloc (.cells #[.int .i64 (bv : Nat)] 3)) X _ (by simp) (by omega)) (bl1 (by omega)) (bl1 (by omega))).mono ?_
        rintro e x2 ⟨rfl, E2, e2, hQ5⟩
        have HQ5 := Lib.hid hQ5
        clear hQ5
        go_wp2_with fail
        refine (HQ5.out.nput (y := (si1 x2.heap.size X)) (z := (si2 (x2.heap.size + 1) av bv)) (((Below.refl _ _).alloc (by first | exact Nat.le_refl _ | simp) (.cells #[.int .i64 (X : Nat)] 3)).alloc (by first | exact Nat.le_refl _ | simp) (.cells #[.int .i64 (av : Nat), .int .i64 (bv : Nat)] 3)) (by omega) ((IR.one x2 X _ rfl (by omega)).below ((Below.refl _ _).alloc (Nat.le_refl _) _)) (IR.two (x2.alloc (.cells #[.int .i64 (X : Nat)] 3)) av bv _ (by simp) (by omega) (by omega)) (bl1 (by omega)) (bl2 (by omega))).mono ?_
        rintro e x3 ⟨rfl, E3, e3, hQ6⟩
        have HQ6 := Lib.hid hQ6
        clear hQ6
        go_wp2_with fail
        go_roundw
        case rel => exact ⟨k + 1, m + 3, _, _, _, _, _, _, X + 1, by omega, by go_num, rfl, by go_num, Lib.hid (by rw [HNO.out, HX.out]; rfl), by omega, by omega, HQ6, Lib.hid (two_snoc (two_snoc (two_snoc HL2.out (Nat.le_succ 1) (Nat.le_succ 1) (Nat.le_succ 2)) (Nat.le_succ 1) (Nat.le_succ 1) (Nat.le_succ 2)) (Nat.le_succ 1) (Nat.le_refl 2) (Nat.le_refl 3)), Lib.hid (by have hx := HX.out; have hn := HNO.out; exact ((((HV.out.mono (by omega)).snoc (vin1 (by omega)) (vin1 (by omega))).snoc (vin1 (by omega)) (vin1 (by omega))).snoc (vin1 (by omega)) (vin2 (by omega) (by omega)))), Lib.hid (con3 HC.out HKD.out.symm HVX.out.symm (by rw [← HGA.out, Int.toNat_natCast]; exact HAV.out) (by rw [← HGB.out, Int.toNat_natCast]; exact HBV.out))⟩
        case measure => simp [intOf]; omega
      · obtain ⟨a1, a2⟩ := hga2 (by omega)
        obtain ⟨gan, rfl⟩ : ∃ gan : Nat, ga = (gan : Int) := ⟨ga.toNat, by omega⟩
        obtain ⟨b1, b2⟩ := hgb2 (by omega)
        obtain ⟨gbn, rfl⟩ : ∃ gbn : Nat, gb = (gbn : Int) := ⟨gb.toNat, by omega⟩
        obtain ⟨by_, oy_, rfl, hby, hcy⟩ := HQA.out.ov.rd.at_ (k := gan) (by omega)
        have hav := HVL.out gan (by omega)
        obtain ⟨av, hav'⟩ : ∃ av, av = vr p F gan := ⟨_, rfl⟩
        rw [← hav'] at hav hcy
        have HAV := Lib.hid hav'
        have hbv := HVL.out gbn (by omega)
        obtain ⟨bv, hbv'⟩ : ∃ bv, bv = vr p F gbn := ⟨_, rfl⟩
        rw [← hbv'] at hbv
        have HBV := Lib.hid hbv'
        clear hin hga2 hgb2 hav' hbv'
        go_wp2_with fail
        go_quiet (fail)
        obtain ⟨wq, hwq⟩ : ∃ wq, wq = (wo.alloc (.cells #[.int .i64 4, .int .i64 (gan : Int), .int .i64 (gbn : Int)] 46)).drewN nq := ⟨_, rfl⟩
        rw [← hwq]
        have hQ2 := HQA.out.below (below_drewN (Below.refl _ _) nq)
        have hg2 := HGR.out.of_block (w' := (wo.alloc (.cells #[.int .i64 4, .int .i64 (gan : Int), .int .i64 (gbn : Int)] 46)).drewN nq) rfl
        have hsz : wo.heap.size < (wo.alloc (.cells #[.int .i64 4, .int .i64 (gan : Int), .int .i64 (gbn : Int)] 46)).heap.size := by simp
        have hsz2 : (wo.alloc (.cells #[.int .i64 4, .int .i64 (gan : Int), .int .i64 (gbn : Int)] 46)).heap.size = ((wo.alloc (.cells #[.int .i64 4, .int .i64 (gan : Int), .int .i64 (gbn : Int)] 46)).drewN nq).heap.size := rfl
        rw [hsz2, ← hwq] at hsz
        rw [← hwq] at hQ2 hg2
        clear hwq hsz2 hcy hby
        have hwl := hQ2.bel.size
        have HQ2 := Lib.hid hQ2
        have HG2 := Lib.hid hg2
        clear hQ2 hg2
        have hno : nonI F (k + 1) = nonI F k + 1 := by simp only [nonI]; rw [if_neg (by rw [← HKD.out]; decide)]
        have hvx : vr p F k = X := by rw [HX.out]; unfold vr; rw [if_neg (by rw [← HKD.out]; decide)]
        have HNO := Lib.hid hno
        have HVX := Lib.hid hvx
        clear hno hvx
        go_wp2_with (at_builtin; refine wpList_app _ rfl (.tmp 48) (.tmp 50) 38 rfl EIn rfl (HQ2.out.ov.alloc _) rfl (l := 1) (by omega) (Rd.one _ _ _) (fun _ _ => rfl) (by unfold maxLen; omega) (by omega) (by simp; omega) (k + 1) (k + 1) (by omega) (by omega) ?_; intro A3 c3 w3 hown3 hg3 hat3 hbl3; have hgr3 := (HG2.out.alloc (.cells #[.int .i64 (X : Nat)] 3)).of_block (hg3.block wo.heap.size (by simp; omega) (fun e => absurd (HVO.out _ e.symm) (Nat.lt_irrefl _))); have d0 := hgr3.cell (i := 0) (by omega); have d2 := hgr3.cell (i := 2) (by omega); simp only [if_true, if_false, show (2 : Nat) ≠ 0 by omega, show (2 : Nat) ≠ 1 by omega] at d0 d2; have hov3 := hown3.vrs (by rw [HVX.out]); obtain ⟨by3, oy3, rfl, _, hcy3⟩ := hov3.rd.at_ (k := gbn) (by omega); rw [← HBV.out] at hcy3)
        have hQ3 := (HQ2.out.below ((Below.refl _ _).alloc (Nat.le_refl _) (.cells #[.int .i64 (X : Nat)] 3))).app (V' := vr p F) (hown3.vrs (by rw [HVX.out])) hg3 hat3 hbl3
        have HQ3 := Lib.hid hQ3
        clear hQ3 hown3 hg3 hat3 hbl3 hgr3 hov3
        refine (HQ3.out.nput (y := (si1 w3.heap.size X)) (z := (si1 (w3.heap.size + 1) av)) (((Below.refl _ _).alloc (by first | exact Nat.le_refl _ | simp) (.cells #[.int .i64 (X : Nat)] 3)).alloc (by first | exact Nat.le_refl _ | simp) (.cells #[.int .i64 (av : Nat)] 3)) (by omega) ((IR.one w3 X _ rfl (by omega)).below ((Below.refl _ _).alloc (Nat.le_refl _) _)) (IR.one (w3.alloc (.cells #[.int .i64 (X : Nat)] 3)) av _ (by simp) (by omega)) (bl1 (by omega)) (bl1 (by omega))).mono ?_
        rintro e x1 ⟨rfl, E1, e1, hQ4⟩
        have HQ4 := Lib.hid hQ4
        clear hQ4
        go_wp2_with fail
        refine (HQ4.out.nput (y := (si1 x1.heap.size X)) (z := (si1 (x1.heap.size + 1) bv)) (((Below.refl _ _).alloc (by first | exact Nat.le_refl _ | simp) (.cells #[.int .i64 (X : Nat)] 3)).alloc (by first | exact Nat.le_refl _ | simp) (.cells #[.int .i64 (bv : Nat)] 3)) (by omega) ((IR.one x1 X _ rfl (by omega)).below ((Below.refl _ _).alloc (Nat.le_refl _) _)) (IR.one (x1.alloc (.cells #[.int .i64 (X : Nat)] 3)) bv _ (by simp) (by omega)) (bl1 (by omega)) (bl1 (by omega))).mono ?_
        rintro e x2 ⟨rfl, E2, e2, hQ5⟩
        have HQ5 := Lib.hid hQ5
        clear hQ5
        go_wp2_with fail
        refine (HQ5.out.nput (y := (si2 x2.heap.size av bv)) (z := (si1 (x2.heap.size + 1) X)) (((Below.refl _ _).alloc (by first | exact Nat.le_refl _ | simp) (.cells #[.int .i64 (av : Nat), .int .i64 (bv : Nat)] 3)).alloc (by first | exact Nat.le_refl _ | simp) (.cells #[.int .i64 (X : Nat)] 3)) (by omega) ((IR.two x2 av bv _ rfl (by omega) (by omega)).below ((Below.refl _ _).alloc (Nat.le_refl _) _)) (IR.one (x2.alloc (.cells #[.int .i64 (av : Nat), .int .i64 (bv : Nat)] 3)) X _ (by simp) (by omega)) (bl2 (by omega)) (bl1 (by omega))).mono ?_
        rintro e x3 ⟨rfl, E3, e3, hQ6⟩
        have HQ6 := Lib.hid hQ6
        clear hQ6
        go_wp2_with fail
        go_roundw
        case rel => exact ⟨k + 1, m + 3, _, _, _, _, _, _, X + 1, by omega, by go_num, rfl, by go_num, Lib.hid (by rw [HNO.out, HX.out]; rfl), by omega, by omega, HQ6, Lib.hid (two_snoc (two_snoc (two_snoc HL2.out (Nat.le_succ 1) (Nat.le_succ 1) (Nat.le_succ 2)) (Nat.le_succ 1) (Nat.le_succ 1) (Nat.le_succ 2)) (Nat.le_refl 2) (Nat.le_succ 1) (Nat.le_refl 3)), Lib.hid (by have hx := HX.out; have hn := HNO.out; exact ((((HV.out.mono (by omega)).snoc (vin1 (by omega)) (vin1 (by omega))).snoc (vin1 (by omega)) (vin1 (by omega))).snoc (vin2 (by omega) (by omega)) (vin1 (by omega)))), Lib.hid (con4 HC.out HKD.out.symm HVX.out.symm (by rw [← HGA.out, Int.toNat_natCast]; exact HAV.out) (by rw [← HGB.out, Int.toNat_natCast]; exact HBV.out))⟩
        case measure => simp [intOf]; omega
    · obtain rfl : k = n := by omega
      obtain ⟨j, hj⟩ : ∃ j, j = k - 1 := ⟨_, rfl⟩
      have hj1 : (k : Int) - 1 = (j : Int) := by omega
      obtain ⟨yb, yo, rfl, _, hcy⟩ := HQ.out.ov.rd.at_ (k := j) (by omega)
      have hvl := vr_lt HGW.out (j := j) (k := k) (by omega) (by omega)
      rw [← HX.out] at hvl
      obtain ⟨yv, hyy⟩ : ∃ yv, yv = vr p F j := ⟨_, rfl⟩
      rw [← hyy] at hcy hvl
      have HJ := Lib.hid hj
      have HYY := Lib.hid hyy
      clear hj hyy
      go_wp2_with fail
      refine (HQ.out.nput (y := (si1 wo.heap.size yv)) (z := SI.nil) ((Below.refl _ _).alloc (Nat.le_refl _) (.cells #[.int .i64 (yv : Nat)] 3)) (by omega) (IR.one wo yv _ rfl (by omega)) (IR.nil _) (bl1 (by omega)) bl0).mono ?_
      rintro e x1 ⟨rfl, E1, e1, hQ4⟩
      have HQ4 := Lib.hid hQ4
      have cc0 : x1.cell? ⟨B, 0, none⟩ = some (.slice E1 (m + 1) e1) := hQ4.bx.row.cell (i := 0) (by omega)
      clear hQ4
      go_wp2_with fail
      go_quiet (fail)
      go_wp2_with fail
      refine bodyPost_ret (v := .tuple #[.int .i64 (X : Nat), .slice E1 (m + 1) e1, .int .i64 0]) (by simp [results, Try.results4, go_sem]) rfl ?_
      refine ⟨E1, m + 1, e1, _, _, by rw [HX.out], below_drewN HQ4.out.bel _, by omega, HQ4.out.cls.below (below_drewN (Below.refl _ _) _), two_snoc HL2.out (Nat.le_succ 1) (Nat.zero_le 2) (show 1 ≤ 3 by omega), HV.out.snoc (vin1 (by rw [← HX.out]; exact hvl)) vin0, ?_⟩
      rw [← HJ.out, ← HYY.out]
      exact con0 HC.out
end Go.Proofs.Ytkjppkghobdjoaa
