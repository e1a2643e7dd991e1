/- What gate.Turn makes: a circuit with the same value. Conditions: the gates read as told. -/
import Derived.Test.YtcpcamblnkcefaaTurnSt
import Derived.Test.YtcpcamblnkcefaaCloneG
import Derived.Deep.RegionLaw
import Derived.BigQuiet
import Derived.Deep.QuietTactic
import Derived.Test.YtcpcamblnkcefaaStillT
import Derived.IntWalk
namespace Go.Proofs.Ytcpcamblnkcefaa
open Go.ChangeShapes Go.WideShapes Go.ChangeAt Go.RowKit Go.Maps
set_option linter.unusedVariables false
/-- a slice of the call's own that is not empty is a row, elements of s cells -/
theorem Own.rowSG {w : World} {base s : Nat} {e : TypeId} {A : Option Addr} {n c k : Nat} {C : Nat → Value} (h : Own w base e s A n c k C) (hn : 0 < n) :
    ∃ g F, A = some ⟨g, 0, none⟩ ∧ base ≤ g ∧ w.rowIs g e (c * s) F ∧ n ≤ c ∧ ∀ i, i < k → F i = C i := by
  rcases h.1.2 with ⟨_, h0⟩ | ⟨g, cap, cur, hv, hb, hg, hnc, hc, hs, ht⟩
  · omega
  · have hk := h.len
    injection hv with hA _ hcc
    subst hA; subst hcc
    have hle : n * s ≤ c * s := Nat.mul_le_mul_right s hnc
    refine ⟨g, fun i => (cur[i]?).getD default, rfl, hb, ⟨cur, hg, hs, fun i hi => ?_⟩, hnc, fun i hi => ?_⟩
    · have : i < cur.size := by omega
      simp [this]
    · obtain ⟨b, off, e1, _, hcell⟩ := h.rd.at_ hi
      simp at e1
      obtain ⟨rfl, rfl⟩ := e1
      rw [Nat.zero_add, cell_of_row w g i cur e (0, 0) hg] at hcell
      show (cur[i]?).getD default = _
      rw [hcell]; rfl
theorem wfN {x : Nat} (h : x ≤ 1000000) : (Lit.int .i64 (x : Int)).wf = true := by simp [Lit.wf, IntKind.min, IntKind.max, IntKind.signed, IntKind.bits]; omega
def TurnR (inn : Int) (F0 : Nat → Int) (n : Nat) (w : World) (e : Ending) (w' : World) : Prop :=
  ∃ (A' : Option Addr) (m c' : Nat) (F' : Nat → Int) (x : Int), e = .returned (.tuple #[.slice A' m c', .int .i64 x]) ∧ Below w.heap.size w w' ∧
    ((ckE inn F0 n ≠ 0 ∧ x = ckE inn F0 n ∧ m = 0) ∨ (ckE inn F0 n = 0 ∧ x = 0 ∧ Rd w' A' (m * 3) (fun q => .int .i64 (F' q)) ∧ 1 ≤ m ∧ m ≤ 80 ∧ GW inn F' m ∧ ∀ g, val F' g (m - 1) = val F0 g (n - 1)))
set_option maxRecDepth 100000 in
set_option maxHeartbeats 2000000 in
theorem turn_any (inn : Int) (A : Option Addr) (n c : Nat) (F0 : Nat → Int) (w : World) (h : Rd w A (n * 3) (fun q => .int .i64 (F0 q))) (hn : n ≤ maxLen) (hw : ∀ i, (Lit.int .i64 (F0 i)).wf = true) :
    Calls Try.prog 7 #[.int .i64 inn, .slice A n c] w (TurnR inn F0 n w) := by
  have H := Lib.hid h
  have HN := Lib.hid hn
  have HW := Lib.hid hw
  clear h hn hw
  go_enter Try.func7, Try.ntmps7
  go_wp2_with fail
  refine (check_any inn A n c F0 w H.out HN.out).mono ?_
  rintro e w1 ⟨rfl, hb1⟩
  obtain ⟨x, hx⟩ : ∃ x, x = ckE inn F0 n := ⟨_, rfl⟩
  rw [← hx]
  have HX := Lib.hid hx
  have HB1 := Lib.hid hb1
  clear hx hb1
  by_cases hz : x = 0
  · subst hz
    obtain ⟨i0, i5, n1, n40, hgw⟩ := ckE_zero HX.out.symm
    have hGW : GW inn F0 n := gw_zero hgw
    have HGW := Lib.hid hGW
    clear hgw hGW
    have hbw := HB1.out.size
    have hm0 : Mk (w1.alloc (.cells #[.slice none 0 0, .map none] 43)) 43 2 w1.heap.size w.heap.size 0 (fun _ => 0) none 0 none (fun j => if j = 0 then .slice none 0 0 else .map none) :=
      ⟨World.rowIs_alloc w1 #[.slice none 0 0, .map none] 43 _ (fun i hi => by
        have : i = 0 ∨ i = 1 := by simp at hi; omega
        rcases this with rfl | rfl <;> rfl), Nat.le_refl _, by decide, hbw, rfl, rfl, Own.nil _ _ _ _ _, fun b e => by cases e⟩
    have hT0 : TS inn F0 w (w1.alloc (.cells #[.slice none 0 0, .map none] 43)) w1.heap.size 0 0 0 (fun _ => 0) none 0 none (fun j => if j = 0 then .slice none 0 0 else .map none) none 0 (fun _ => 0) none 0 (fun _ => 0) :=
      ⟨hm0, Nat.le_refl _, Own.nil _ _ _ _ _, Own.nil _ _ _ _ _, (fun g e => by cases e), ⟨fun i hi => absurd hi (Nat.not_lt_zero _), fun j hj => absurd hj (Nat.not_lt_zero _), fun j hj => absurd hj (Nat.not_lt_zero _)⟩, HB1.out.alloc hbw _⟩
    have HT0 := Lib.hid hT0
    clear hm0 hT0
    go_wp2_with fail
    obtain ⟨B, hB⟩ : ∃ B, B = w1.heap.size := ⟨_, rfl⟩
    obtain ⟨W0, hW0⟩ : ∃ W0, W0 = w1.alloc (.cells #[.slice none 0 0, .map none] 43) := ⟨_, rfl⟩
    rw [← hB, ← hW0] at HT0 ⊢
    clear hB hW0
    go_loopw [8, 9, 25] (fun s8 s9 s25 wr => ∃ (k ny : Nat) (F : Nat → Int) (A' : Option Addr) (c' : Nat) (M : Option Nat) (R : Nat → Value) (Ay : Option Addr) (cy : Nat) (Y : Nat → Nat) (An : Option Addr) (cn : Nat) (Z : Nat → Nat), k ≤ n ∧ s25 = .int .i64 (k : Nat) ∧ s8 = .slice Ay k cy ∧ s9 = .slice An k cn ∧ Hid (TS inn F0 w wr B (2 * k) k ny F A' c' M R Ay cy Y An cn Z)) (fun _ _ s25 _ => n - (intOf s25).toNat)
    case atStart => exact ⟨0, 0, _, _, _, _, _, _, _, _, _, _, _, Nat.zero_le _, rfl, rfl, rfl, HT0⟩
    case round =>
      clear HT0
      obtain ⟨wo, rfl⟩ : ∃ wo : World, wo = wr := ⟨_, rfl⟩
      obtain ⟨k, ny, F, A', c', M, R, Ay, cy, Y, An, cn, Z, hk, rfl, rfl, rfl, HT⟩ := hrel
      by_cases hlt : k < n
      · obtain ⟨b, off, rfl, hc0, hc1, hc2⟩ := (H.out.below HT.out.bel).at3 hlt
        have hz := gE_zero (HGW.out k hlt)
        have w0 := HW.out (3 * k)
        have w1' := HW.out (3 * k + 1)
        have w2' := HW.out (3 * k + 2)
        have hval := val_of HGW.out hlt
        obtain ⟨kd, hkd⟩ : ∃ kd, kd = F0 (3 * k) := ⟨_, rfl⟩
        obtain ⟨ga, hga⟩ : ∃ ga, ga = F0 (3 * k + 1) := ⟨_, rfl⟩
        obtain ⟨gb, hgb⟩ : ∃ gb, gb = F0 (3 * k + 2) := ⟨_, rfl⟩
        rw [← hkd] at hc0 hz w0 hval
        rw [← hga] at hc1 hz w1' hval
        rw [← hgb] at hc2 hz w2' hval
        clear hkd hga hgb
        have hTa := HT.out.below ((Below.refl wo.heap.size wo).alloc (Nat.le_refl _) (.cells #[.int .i64 kd, .int .i64 ga, .int .i64 gb] 28))
        have hgr : (wo.alloc (.cells #[.int .i64 kd, .int .i64 ga, .int .i64 gb] 28)).rowIs wo.heap.size 28 3 (fun j => if j = 0 then .int .i64 kd else if j = 1 then .int .i64 ga else .int .i64 gb) := World.rowIs_alloc wo #[.int .i64 kd, .int .i64 ga, .int .i64 gb] 28 _ fun i hi => by
          have : i = 0 ∨ i = 1 ∨ i = 2 := by simp at hi; omega
          rcases this with rfl | rfl | rfl <;> rfl
        have lB := HT.out.mm.row.lt
        have hol : ∀ g, (Value.slice A' ny c').ownBlock = some g → g < wo.heap.size := fun g hg => (HT.out.mm.own.lt g hg).2
        have hml : ∀ g, M = some g → g < wo.heap.size := fun g hg => (HT.out.mm.mapsep hg).2.1
        have hny := HT.out.le
        obtain ⟨h14, h41, hin, hga2, hgb2⟩ := hz
        have HTA := Lib.hid hTa
        have HGR := Lib.hid hgr
        have HOL := Lib.hid hol
        have HML := Lib.hid hml
        have HVAL := Lib.hid hval
        clear hTa hgr hol hml hval
        by_cases k1 : kd = 1
        case' pos =>
          subst k1
          obtain ⟨a1, a2⟩ := hin rfl
          clear hga2 hgb2 hin
          go_wp2_with fail
          refine (put_any _ HTA.out.mm (by omega) (by decide) w1' (by decide)).mono ?_
          intro e wp hp
          obtain ⟨y, n1, F1, A1, c1, M1, R1, rfl, p1, m1, r1, b1, k1⟩ := hp.g
          have hT1 := HTA.out.put p1 m1 b1 (HTA.out.mm.keepG k1) (by omega) (fun _ => ⟨a1, a2⟩) (fun h => absurd h (by decide)) (fun h => absurd h (by decide))
          have hy1 := p1.lt
          have v1 : ∀ g, val F1 g y = val F0 g k := fun g => by rw [(p1.val hT1.ti.gw g).1 rfl, (HVAL.out g).1 (by trivial)]
          have hn1 := hT1.le
          have HT1 := Lib.hid hT1
          have V1 := Lib.hid v1
          clear hp p1 m1 r1 b1 k1 hT1 v1
          go_wp2_with fail
          refine (put_any _ HT1.out.mm (by omega) (by decide) (wfN (by omega)) (by decide)).mono ?_
          intro e wq hp
          obtain ⟨z, n2, F2, A2, c2, M2, R2, rfl, p2, m2, r2, b2, k2⟩ := hp.g
          have hT2 := HT1.out.put p2 m2 b2 (HT1.out.mm.keepG k2) (by omega) (fun h => absurd h (by decide)) (fun _ => ⟨by omega, by omega⟩) (fun h => absurd h (by decide))
          have hy2 : y < n2 := by have := p2.le; omega
          have hz2 := p2.lt
          have v2y : ∀ g, val F2 g y = val F0 g k := fun g => by rw [p2.old g hy1]; exact V1.out g
          have v2z : ∀ g, val F2 g z = !(val F0 g k) := fun g => by rw [(p2.val hT2.ti.gw g).2.1 rfl, Int.toNat_natCast, v2y]
          have HT2 : Hid (TS inn F0 w wq B (2 * k + 2) k n2 F2 A2 c2 M2 R2 Ay cy Y An cn Z) := Lib.hid hT2
          have VY := Lib.hid v2y
          have VZ := Lib.hid v2z
          clear hp p2 m2 r2 b2 k2 hT2 v2y v2z HT1 V1 hn1 hy1 a1 a2 h14 h41
        case' neg =>
          have q1 : (kd == 1) = false := by rw [beq_eq_false_iff_ne]; exact k1
          obtain ⟨a1, a2⟩ := hga2 (by omega)
          obtain ⟨gan, rfl⟩ : ∃ gan : Nat, ga = (gan : Int) := ⟨ga.toNat, by omega⟩
          obtain ⟨by_, oy_, rfl, hby, hcy⟩ := HTA.out.oy.rd.at_ (k := gan) (by omega)
          obtain ⟨bn_, on_, rfl, hbn, hcn⟩ := HTA.out.on.rd.at_ (k := gan) (by omega)
          by_cases k2 : kd = 2
          case' pos =>
            subst k2
            clear hgb2 hin q1 k1
            go_wp2_with fail
            go_quiet (fail)
            obtain ⟨wq, hwq⟩ : ∃ wq, wq = (wo.alloc (.cells #[.int .i64 2, .int .i64 (gan : Int), .int .i64 gb] 28)).drewN nq := ⟨_, rfl⟩
            rw [← hwq]
            have hT2 := (HTA.out.below (below_drewN (Below.refl _ _) nq))
            rw [← hwq] at hT2
            have hgk : gan < k := by omega
            have hy2 := (hT2.ti.no gan hgk).1
            have hz2 := (hT2.ti.y gan hgk).1
            have v2y : ∀ g, val F g (Z gan) = val F0 g k := fun g => by rw [(hT2.ti.no gan hgk).2 g, (HVAL.out g).2.1 (by trivial), Int.toNat_natCast]
            have v2z : ∀ g, val F g (Y gan) = !(val F0 g k) := fun g => by rw [(hT2.ti.y gan hgk).2 g, (HVAL.out g).2.1 (by trivial), Int.toNat_natCast, Bool.not_not]
            have HT2 := Lib.hid hT2
            have VY := Lib.hid v2y
            have VZ := Lib.hid v2z
            obtain ⟨y, hyy⟩ : ∃ y, y = Z gan := ⟨_, rfl⟩
            obtain ⟨z, hzz⟩ : ∃ z, z = Y gan := ⟨_, rfl⟩
            rw [← hyy, ← hzz]
            rw [← hyy] at hy2 VY
            rw [← hzz] at hz2 VZ
            clear hT2 v2y v2z hyy hzz hwq a1 a2 h14 h41 hgk hby hcy hbn hcn
          case' neg =>
            have q2 : (kd == 2) = false := by rw [beq_eq_false_iff_ne]; exact k2
            obtain ⟨b1, b2⟩ := hgb2 (by omega)
            obtain ⟨gbn, rfl⟩ : ∃ gbn : Nat, gb = (gbn : Int) := ⟨gb.toNat, by omega⟩
            clear hin
            obtain ⟨yb, yo, ey, _, hcy2⟩ := HTA.out.oy.rd (by omega)
            obtain ⟨rfl, rfl⟩ : yb = by_ ∧ yo = oy_ := by injection ey with ey; injection ey with e1 e2; exact ⟨e1.symm, e2.symm⟩
            obtain ⟨nb, no, en, _, hcn2⟩ := HTA.out.on.rd (by omega)
            obtain ⟨rfl, rfl⟩ : nb = bn_ ∧ no = on_ := by injection en with en; injection en with e1 e2; exact ⟨e1.symm, e2.symm⟩
            have hcy3 := hcy2 gbn (by omega)
            have hcn3 := hcn2 gbn (by omega)
            clear hcy2 hcn2 ey en
            have yl1 := (HTA.out.ti.y gan (by omega)).1
            have yl2 := (HTA.out.ti.y gbn (by omega)).1
            have hTd := HTA.out.below (wr' := (wo.alloc (.cells #[.int .i64 kd, .int .i64 (gan : Int), .int .i64 (gbn : Int)] 28)).drew) ((Below.refl _ _).drew)
            have HTd := Lib.hid hTd
            clear hTd
            go_wp2_with fail
            refine wp_still_tailD 13 (by kernel_rfl) (by kernel_rfl) ?_
            simp only [List.take_succ_cons, List.take_zero, List.drop_succ_cons, List.drop_zero]
            repeat still_step
            refine wpStill_nil ?_
            go_wp2_with fail
            refine (put_any _ HTd.out.mm (by omega) w0 (wfN (by omega)) (wfN (by omega))).mono ?_
            intro e wp hp
            obtain ⟨y, n1, F1, A1, c1, M1, R1, rfl, p1, m1, r1, b1', kk1⟩ := hp.g
            have hT1 := HTd.out.put p1 m1 b1' (HTd.out.mm.keepG kk1) (by omega) (fun h => absurd h k1) (fun _ => ⟨by omega, by omega⟩) (fun _ => ⟨by omega, by omega⟩)
            have hgr1 := (HGR.out.drew).of_block (kk1.2 wo.heap.size (by simp) (by omega) (fun e => by have := HOL.out _ e; omega) (fun e => by have := HML.out _ e; omega))
            have hn1 := hT1.le
            have hy1 := p1.lt
            have v1 : ∀ g, (kd = 3 → val F1 g y = (val F1 g (Y gan) && val F1 g (Y gbn))) ∧ (kd = 4 → val F1 g y = (val F1 g (Y gan) || val F1 g (Y gbn))) := fun g => ⟨fun e => by rw [(p1.val hT1.ti.gw g).2.2.1 e, Int.toNat_natCast, Int.toNat_natCast], fun e => by rw [(p1.val hT1.ti.gw g).2.2.2 e, Int.toNat_natCast, Int.toNat_natCast]⟩
            have HT1 := Lib.hid hT1
            have V1 := Lib.hid v1
            have d0 : wp.cell? ⟨wo.heap.size, 0, none⟩ = some (.int .i64 kd) := hgr1.cell (i := 0) (by omega)
            have d1 : wp.cell? ⟨wo.heap.size, 1, none⟩ = some (.int .i64 (gan : Int)) := hgr1.cell (i := 1) (by omega)
            have d2 : wp.cell? ⟨wo.heap.size, 2, none⟩ = some (.int .i64 (gbn : Int)) := hgr1.cell (i := 2) (by omega)
            obtain ⟨nb2, no2, en, lnb, hcn2⟩ := hT1.on.rd (by omega)
            obtain ⟨rfl, rfl⟩ : nb2 = nb ∧ no2 = no := by injection en with en; injection en with e1 e2; exact ⟨e1.symm, e2.symm⟩
            have en1 := hcn2 gan (by omega)
            have en2 := hcn2 gbn (by omega)
            have zl1 := (hT1.ti.no gan (by omega)).1
            have zl2 := (hT1.ti.no gbn (by omega)).1
            have hsw : wo.heap.size < wp.heap.size := hgr1.lt
            have kd34 : 3 ≤ kd ∧ kd ≤ 4 := by omega
            have w7 : (Lit.int .i64 (7 - kd)).wf = true := by simp [Lit.wf, IntKind.min, IntKind.max, IntKind.signed, IntKind.bits]; omega
            have x7 : IntKind.i64.wrap (7 - kd) = 7 - kd := IntWalk.i64_in _ (by omega)
            have hTp := hT1.below (wr' := wp.drew) ((Below.refl _ _).drew)
            have HTp := Lib.hid hTp
            clear hp p1 m1 r1 b1' kk1 hgr1 hT1 v1 en hcn2 hby hcy hbn hcn hcy3 hcn3 hTp lnb
            go_wp2_with fail
            refine wp_still_tailD 14 (by kernel_rfl) (by kernel_rfl) ?_
            simp only [List.take_succ_cons, List.take_zero, List.drop_succ_cons, List.drop_zero]
            repeat still_step
            refine wpStill_nil ?_
            go_wp2_with fail
            refine (put_any _ HTp.out.mm (by omega) w7 (wfN (by omega)) (wfN (by omega))).mono ?_
            intro e wq hp
            obtain ⟨z, n2, F2, A2, c2, M2, R2, rfl, p2, m2, r2, b2', kk2⟩ := hp.g
            have hT2 := HTp.out.put p2 m2 b2' (HTp.out.mm.keepG kk2) (by omega) (fun h => absurd h (by omega)) (fun _ => ⟨by omega, by omega⟩) (fun _ => ⟨by omega, by omega⟩)
            have hy2 : y < n2 := by have := p2.le; omega
            have hz2 := p2.lt
            have hval2 : ∀ g, val F2 g y = val F0 g k ∧ val F2 g z = !(val F0 g k) := fun g => by
              have o1 := p2.old g hy1
              have o2 := p2.old g zl1
              have o3 := p2.old g zl2
              have a3 := (HT1.out.ti.y gan (by omega)).2 g
              have a4 := (HT1.out.ti.y gbn (by omega)).2 g
              have a5 := (HT1.out.ti.no gan (by omega)).2 g
              have a6 := (HT1.out.ti.no gbn (by omega)).2 g
              have pv := p2.val hT2.ti.gw g
              rw [Int.toNat_natCast, Int.toNat_natCast, o2, o3, a5, a6] at pv
              have v1 := V1.out g
              rw [a3, a4] at v1
              have fv := HVAL.out g
              rw [Int.toNat_natCast, Int.toNat_natCast] at fv
              have h34 : kd = 3 ∨ kd = 4 := by omega
              rcases h34 with e | e
              · rw [o1, v1.1 e, pv.2.2.2 (by omega), fv.2.2.1 e]
                exact ⟨rfl, by rw [Bool.not_and]⟩
              · rw [o1, v1.2 e, pv.2.2.1 (by omega), fv.2.2.2 e]
                exact ⟨rfl, by rw [Bool.not_or]⟩
            have HT2 : Hid (TS inn F0 w wq B (2 * k + 2) k n2 F2 A2 c2 M2 R2 (some ⟨yb, yo, none⟩) cy Y (some ⟨nb2, no2, none⟩) cn Z) := Lib.hid hT2
            have VY := Lib.hid (fun g => (hval2 g).1)
            have VZ := Lib.hid (fun g => (hval2 g).2)
            clear hp p2 m2 r2 b2' kk2 hT2 hval2 HT1 V1 hn1 hy1 d0 d1 d2 en1 en2 zl1 zl2 hsw kd34 w7 x7 HTp HTd
        all_goals
          have hwq := HT2.out.bel.size
          have hny2 := HT2.out.le
          go_wp2_with (first
            | (at_builtin; refine wpList_app _ rfl (.tmp 81) (.tmp 83) 44 rfl EIt rfl (HT2.out.oy.alloc _) rfl (l := 1) (by omega) (Rd.one _ _ _) (fun _ _ => rfl) (by unfold maxLen; omega) (by omega) (by simp; omega) (k + 1) (k + 1) (by omega) (by omega) ?_; intro A3 c3 w3 hown3 hg3 hat3 hbl3)
            | (at_builtin; refine wpList_app _ rfl (.tmp 85) (.tmp 87) 44 rfl EIt rfl (((HT2.out.on.alloc _).kept hg3 (fun g hg e => HT2.out.dis g e.symm hg)).alloc _) rfl (l := 1) (by omega) (Rd.one _ _ _) (fun _ _ => rfl) (by unfold maxLen; omega) (by omega) (by have := hbl3.size; simp at this ⊢; omega) (k + 1) (k + 1) (by omega) (by omega) ?_; intro A4 c4 w4 hown4 hg4 hat4 hbl4))
          have s3 := hbl3.size
          have hoy4 := (hown3.alloc (.cells #[.int .i64 (z : Nat)] 3)).kept hg4 (fun g hg e => by
            have h3 := (hown3.lt g hg).2
            rcases hat3 with h | h
            · exact HT2.out.dis g (h.symm.trans hg) e.symm
            · have h4 := (HT2.out.on.lt g e.symm).2
              rw [h] at hg
              injection hg with hg
              simp at hg
              omega)
          have hm3 := (HT2.out.mm.below ((Below.refl _ wq).alloc (Nat.le_refl _) (.cells #[.int .i64 (y : Nat)] 3))).grown hg3 intG (by decide) (HT2.out.oy.alloc (.cells #[.int .i64 (y : Nat)] 3)).objG
          have hm4 := (hm3.below ((Below.refl _ w3).alloc (Nat.le_refl _) (.cells #[.int .i64 (z : Nat)] 3))).grown hg4 intG (by decide) (((HT2.out.on.alloc (.cells #[.int .i64 (y : Nat)] 3)).kept hg3 (fun g hg e => HT2.out.dis g e.symm hg)).alloc (.cells #[.int .i64 (z : Nat)] 3)).objG
          have hdis4 : ∀ g, (Value.slice A3 (k + 1) c3).ownBlock = some g → (Value.slice A4 (k + 1) c4).ownBlock ≠ some g := fun g hg e => by
            have h3 := (hown3.lt g hg).2
            rcases hat4 with h | h
            · rw [h] at e
              rcases hat3 with h5 | h5
              · exact HT2.out.dis g (h5.symm.trans hg) e
              · have h6 := (HT2.out.on.lt g e).2
                rw [h5] at hg
                injection hg with hg
                simp at hg
                omega
            · rw [h] at e
              injection e with e
              simp at e
              omega
          have hT4 : TS inn F0 w w4 B (2 * (k + 1)) (k + 1) _ _ _ _ _ _ A3 c3 (put1 Y k y) A4 c4 (put1 Z k z) := ⟨hm4, by omega, hoy4.congr (fun i hi => by
              unfold put1
              by_cases e : i < k
              · rw [cat_lt e, if_pos e]
              · rw [cat_ge (by omega), if_neg e]), hown4.congr (fun i hi => by
              unfold put1
              by_cases e : i < k
              · rw [cat_lt e, if_pos e]
              · rw [cat_ge (by omega), if_neg e]), hdis4, HT2.out.ti.more hy2 hz2 VY.out VZ.out, (((HT2.out.bel.alloc hwq _).trans (hbl3)).alloc (by simp at s3; omega) _).trans hbl4⟩
          go_roundw
          case rel => exact ⟨k + 1, _, _, _, _, _, _, _, _, _, _, _, _, by omega, by go_num, rfl, rfl, Lib.hid hT4⟩
          case measure => simp [intOf]; omega
      · obtain rfl : k = n := by omega
        obtain ⟨j, hj⟩ : ∃ j, j = k - 1 := ⟨_, rfl⟩
        have hj1 : (k : Int) - 1 = (j : Int) := by omega
        obtain ⟨yb, yo, rfl, _, hcy⟩ := HT.out.oy.rd.at_ (k := j) (by omega)
        have hyl := (HT.out.ti.y j (by omega)).1
        have hyv := (HT.out.ti.y j (by omega)).2
        obtain ⟨yv, hyy⟩ : ∃ yv, yv = Y j := ⟨_, rfl⟩
        rw [← hyy] at hcy hyl hyv
        have hny := HT.out.le
        obtain ⟨g, R0, rfl, hgb, hrow, hmc, _⟩ := (show Own wo w.heap.size 28 3 A' ny c' (ny * 3) _ from HT.out.mm.own).rowSG (by omega)
        have hcm := HT.out.mm.own.le.2
        have c0 : wo.cell? ⟨B, 0, none⟩ = some (.slice (some ⟨g, 0, none⟩) ny c') := by rw [HT.out.mm.row.cell (by omega), HT.out.mm.r0]
        have hrd := HT.out.mm.own.rd.le (m := (yv + 1) * 3) (by omega)
        have hcl := cloneG_any (some ⟨g, 0, none⟩) (yv + 1) c' F wo hrd (by omega)
        have HCL := Lib.hid hcl
        have HYV := Lib.hid hyv
        have HJ := Lib.hid hj
        unfold maxLen at hcm
        clear hcl hrd hrow hyv hyy hj
        go_wp2_with fail
        refine HCL.out.mono ?_
        rintro e w5 ⟨A5, c5, rfl, hown5, hb5⟩
        go_wp2_with fail
        refine bodyPost_ret (v := .tuple #[.slice A5 (yv + 1) c5, .int .i64 0]) (by simp [results, Try.results7, go_sem]) rfl ?_
        refine ⟨A5, yv + 1, c5, F, 0, rfl, HT.out.bel.trans (hb5.mono HT.out.bel.size), .inr ⟨HX.out.symm, rfl, hown5.rd, by omega, by omega, fun i hi => HT.out.ti.gw i (by omega), fun g' => ?_⟩⟩
        rw [Nat.add_sub_cancel, ← HJ.out]
        exact HYV.out g'
  · have hne : (x != 0) = true := by simp [hz]
    have HZ := Lib.hid hz
    clear hz
    go_wp2_with fail
    refine bodyPost_ret (v := .tuple #[.slice none 0 0, .int .i64 x]) (by simp [results, Try.results7, go_sem]) rfl ?_
    exact ⟨none, 0, 0, fun _ => 0, x, rfl, HB1.out, .inl ⟨by rw [← HX.out]; exact HZ.out, HX.out, rfl⟩⟩
end Go.Proofs.Ytcpcamblnkcefaa
