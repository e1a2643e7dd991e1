/- What tape.lay and tape.run compute. Conditions: as each theorem states. -/
import Derived.Test.YtcbcbanknjhhhaaTapeNow
import Derived.Test.YtcbcbanknjhhhaaTapeTab
namespace Go.Proofs.Ytcbcbanknjhhhaa
open Go.ChangeShapes Go.WideShapes Go.ChangeAt Go.RowKit Go.Maps
set_option linter.unusedVariables false
def LayRet (g : Nat → Int) (k : Nat) (first : Int) (w : World) (e : Ending) (w' : World) : Prop := (∃ b, w.heap.size ≤ b ∧ e = .returned (.tuple #[.map (some b), .bool true]) ∧ MapI w' b k (laid g k first)) ∧ Below w.heap.size w w'
set_option maxRecDepth 100000 in
set_option maxHeartbeats 1000000 in
theorem lay_good (S Y : Int) (T A : Option Addr) (n tc k c : Nat) (g : Nat → Int) (first : Int) (w : World) (h : Rd w A k (fun i => .int .i64 (g i))) (hk : k ≤ 100) (hg : insB Y k g = true) (hY : Y ≤ 1000) (f0 : -1000 ≤ first) (f1 : first ≤ 1000) :
    Calls Try.prog 13 #[.agg #[.int .i64 S, .int .i64 Y, .slice T n tc], .slice A k c, .int .i64 first] w (LayRet g k first w) := by
  have H := Lib.hid h
  have HG := Lib.hid (insB_iff.1 hg)
  clear h hg
  have hmk := fun W => run_makeMap (P := Try.prog) 42 W
  go_enter Try.func13, Try.ntmps13
  go_wp2_with fail
  clear hmk
  have hM0 := MapI.made (w.alloc (.cells #[.int .i64 S, .int .i64 Y, .slice T n tc] 24))
  have c1 : ((w.alloc (.cells #[.int .i64 S, .int .i64 Y, .slice T n tc] 24)).alloc (.map #[] 0)).cell? ⟨w.heap.size, 1, none⟩ = some (.int .i64 Y) := by
    rw [World.cell?_alloc_lt _ _ _ (by simp)]
    simp [go_sem]
  have hB := ((Below.refl w.heap.size w).alloc (Nat.le_refl _) (.cells #[.int .i64 S, .int .i64 Y, .slice T n tc] 24)).alloc (by simp) (.map #[] 0)
  obtain ⟨W1, hW1⟩ : ∃ W, W = (w.alloc (.cells #[.int .i64 S, .int .i64 Y, .slice T n tc] 24)).alloc (.map #[] 0) := ⟨_, rfl⟩
  rw [show (w.alloc (.cells #[.int .i64 S, .int .i64 Y, .slice T n tc] 24)).heap.size = w.heap.size + 1 by simp] at hM0
  rw [← laid_zero g first] at hM0
  have sW : W1.heap.size = w.heap.size + 2 := by rw [hW1]; simp
  rw [← hW1] at hM0 c1 hB ⊢
  obtain ⟨b, hb⟩ : ∃ b, b = w.heap.size + 1 := ⟨_, rfl⟩
  rw [← hb] at hM0 ⊢
  have hbw : w.heap.size < b := by omega
  have hw1 : w.heap.size < W1.heap.size := by omega
  clear hW1 hb sW
  go_loopw [14] (fun s14 wr => ∃ i : Nat, i ≤ k ∧ s14 = .int .i64 i ∧ MapI wr b i (laid g i first) ∧ W1.grownBy wr (some b)) (fun s14 _ => k - (intOf s14).toNat)
  case atStart => exact ⟨0, Nat.zero_le _, rfl, hM0, World.grownBy.refl _ _⟩
  case round =>
    clear hM0
    obtain ⟨wo, rfl⟩ : ∃ wo : World, wo = wr := ⟨_, rfl⟩
    obtain ⟨i, hi, rfl, hM, hgr⟩ := hrel
    have hbo : Below w.heap.size w wo := hB.grown hgr hB.size (fun g' e => by have := Option.some.inj e; omega)
    by_cases hlt : i < k
    · obtain ⟨ab, ao, rfl, hab, hac⟩ := (H.out.below hbo).at_ hlt
      obtain ⟨x0, x1⟩ := HG.out i hlt
      obtain ⟨x, hx⟩ : ∃ x, x = g i := ⟨_, rfl⟩
      rw [← hx] at hac x0 x1
      have d1 := hgr.cell c1 (by show some w.heap.size ≠ some b; intro e; have := Option.some.inj e; omega)
      have HX := Lib.hid hx
      have HC1 := Lib.hid c1
      clear hx c1
      go_wp2_with fail
      refine (tput_any b i (laid g i first) (first + i) x _ hM (by unfold maxLen; omega) (wf_small (by omega) (by omega)) (wf_small (by omega) (by omega))).mono ?_
      rintro e w3 ⟨rfl, hM3, hg3⟩
      rw [HX.out, laid_succ] at hM3
      have HM3 := Lib.hid hM3
      clear hM3 hM
      go_wp2_with fail
      go_roundw
      case rel => exact ⟨i + 1, by omega, by go_num, HM3.out, hgr.trans hg3⟩
      case measure => simp [intOf]; omega
    · obtain rfl : i = k := by omega
      have HM := Lib.hid hM
      clear hM
      go_wp2_with fail
      go_ret2
      exact ⟨⟨b, by omega, rfl, HM.out⟩, hbo⟩
set_option maxRecDepth 100000 in
set_option maxHeartbeats 1000000 in
theorem lay_bad (S Y : Int) (T A : Option Addr) (n tc k c : Nat) (g : Nat → Int) (first : Int) (w : World) (h : Rd w A k (fun i => .int .i64 (g i))) (hk : k ≤ 100) (hg : insB Y k g = false) (hY : Y ≤ 1000) (f0 : -1000 ≤ first) (f1 : first ≤ 1000) :
    Calls Try.prog 13 #[.agg #[.int .i64 S, .int .i64 Y, .slice T n tc], .slice A k c, .int .i64 first] w fun e w' => e = .returned (.tuple #[.map none, .bool false]) ∧ Below w.heap.size w w' := by
  have H := Lib.hid h
  have HG := Lib.hid hg
  clear h hg
  have hmk := fun W => run_makeMap (P := Try.prog) 42 W
  go_enter Try.func13, Try.ntmps13
  go_wp2_with fail
  clear hmk
  have hM0 := MapI.made (w.alloc (.cells #[.int .i64 S, .int .i64 Y, .slice T n tc] 24))
  have c1 : ((w.alloc (.cells #[.int .i64 S, .int .i64 Y, .slice T n tc] 24)).alloc (.map #[] 0)).cell? ⟨w.heap.size, 1, none⟩ = some (.int .i64 Y) := by
    rw [World.cell?_alloc_lt _ _ _ (by simp)]
    simp [go_sem]
  have hB := ((Below.refl w.heap.size w).alloc (Nat.le_refl _) (.cells #[.int .i64 S, .int .i64 Y, .slice T n tc] 24)).alloc (by simp) (.map #[] 0)
  obtain ⟨W1, hW1⟩ : ∃ W, W = (w.alloc (.cells #[.int .i64 S, .int .i64 Y, .slice T n tc] 24)).alloc (.map #[] 0) := ⟨_, rfl⟩
  rw [show (w.alloc (.cells #[.int .i64 S, .int .i64 Y, .slice T n tc] 24)).heap.size = w.heap.size + 1 by simp] at hM0
  rw [← laid_zero g first] at hM0
  have sW : W1.heap.size = w.heap.size + 2 := by rw [hW1]; simp
  rw [← hW1] at hM0 c1 hB ⊢
  obtain ⟨b, hb⟩ : ∃ b, b = w.heap.size + 1 := ⟨_, rfl⟩
  rw [← hb] at hM0 ⊢
  have hbw : w.heap.size < b := by omega
  have hw1 : w.heap.size < W1.heap.size := by omega
  clear hW1 hb sW
  go_loopw [14] (fun s14 wr => ∃ i : Nat, i ≤ k ∧ s14 = .int .i64 i ∧ MapI wr b i (laid g i first) ∧ W1.grownBy wr (some b) ∧ ∀ j, j < i → 0 ≤ g j ∧ g j < Y) (fun s14 _ => k - (intOf s14).toNat)
  case atStart => exact ⟨0, Nat.zero_le _, rfl, hM0, World.grownBy.refl _ _, fun j hj => absurd hj (Nat.not_lt_zero _)⟩
  case round =>
    clear hM0
    obtain ⟨wo, rfl⟩ : ∃ wo : World, wo = wr := ⟨_, rfl⟩
    obtain ⟨i, hi, rfl, hM, hgr, hall⟩ := hrel
    have HALL := Lib.hid hall
    clear hall
    have hbo : Below w.heap.size w wo := hB.grown hgr hB.size (fun g' e => by have := Option.some.inj e; omega)
    by_cases hlt : i < k
    · obtain ⟨ab, ao, rfl, hab, hac⟩ := (H.out.below hbo).at_ hlt
      obtain ⟨x, hx⟩ : ∃ x, x = g i := ⟨_, rfl⟩
      rw [← hx] at hac
      have d1 := hgr.cell c1 (by show some w.heap.size ≠ some b; intro e; have := Option.some.inj e; omega)
      have HX := Lib.hid hx
      have HC1 := Lib.hid c1
      clear hx c1
      by_cases x0 : x < 0
      · go_wp2_with fail
        go_ret2
        exact ⟨rfl, hbo⟩
      · by_cases x1 : Y ≤ x
        · go_wp2_with fail
          go_ret2
          exact ⟨rfl, hbo⟩
        · go_wp2_with fail
          refine (tput_any b i (laid g i first) (first + i) x _ hM (by unfold maxLen; omega) (wf_small (by omega) (by omega)) (wf_small (by omega) (by omega))).mono ?_
          rintro e w3 ⟨rfl, hM3, hg3⟩
          rw [HX.out, laid_succ] at hM3
          have HM3 := Lib.hid hM3
          clear hM3 hM
          go_wp2_with fail
          go_roundw
          case rel => exact ⟨i + 1, by omega, by go_num, HM3.out, hgr.trans hg3, fun j hj => by
            by_cases e : j = i
            · subst e; rw [← HX.out]; omega
            · exact HALL.out j (by omega)⟩
          case measure => simp [intOf]; omega
    · obtain rfl : i = k := by omega
      have := insB_iff.2 HALL.out
      rw [HG.out] at this
      cases this
def RunRet (n : Nat) (R : Nat → SI) (steps : Nat) (c : Cf) (b : Nat) (w : World) (e : Ending) (w' : World) : Prop :=
  (∃ v d, e = .returned (.tuple #[v, .int .i64 (d : Nat)]) ∧ Dn n (TR R) steps d c ∧ NowAt (itC (TR R) d c).f (itC (TR R) d c).s (itC (TR R) d c).h w' w.heap.size v) ∧ w.grownBy w' (some b)
set_option maxRecDepth 100000 in
set_option maxHeartbeats 2000000 in
theorem run_any (y : Nat) (T : Option Addr) (n tc b m B steps : Nat) (R : Nat → SI) (c : Cf) (W w : World) (hT : Tm W T n R) (hrow : ∀ s, s < n → (R s).n = y) (hgt : Gt n y (TR R)) (hy : y ≤ 4) (hn : n ≤ 5) (hgc : Gc n y B c) (hB : B ≤ 300) (hst : steps ≤ 60)
    (hW : Below W.heap.size W w) (hbW : W.heap.size ≤ b) (hM : MapI w b m c.f) (hm : m ≤ 1000) :
    Calls Try.prog 14 #[.agg #[.int .i64 n, .int .i64 y, .slice T n tc], .map (some b), .int .i64 c.s, .int .i64 c.h, .int .i64 steps] w (RunRet n R steps c b w) := by
  have HT := Lib.hid hT
  have HROW := Lib.hid hrow
  have HGT := Lib.hid hgt
  have HGC := Lib.hid hgc
  have hbl := hM.lt
  clear hT hrow hgt hgc
  go_enter Try.func14, Try.ntmps14
  go_wp2_with fail
  have b0 : ((w.alloc (.cells #[.int .i64 n, .int .i64 y, .slice T n tc] 24)).alloc (.cells #[.int .i64 0, .int .i64 0, .int .i64 0, .slice none 0 0] 31)).cell? ⟨w.heap.size, 0, none⟩ = some (.int .i64 n) := by
    rw [World.cell?_alloc_lt _ _ _ (by simp)]; simp [go_sem]
  have b1 : ((w.alloc (.cells #[.int .i64 n, .int .i64 y, .slice T n tc] 24)).alloc (.cells #[.int .i64 0, .int .i64 0, .int .i64 0, .slice none 0 0] 31)).cell? ⟨w.heap.size, 1, none⟩ = some (.int .i64 y) := by
    rw [World.cell?_alloc_lt _ _ _ (by simp)]; simp [go_sem]
  have b2 : ((w.alloc (.cells #[.int .i64 n, .int .i64 y, .slice T n tc] 24)).alloc (.cells #[.int .i64 0, .int .i64 0, .int .i64 0, .slice none 0 0] 31)).cell? ⟨w.heap.size, 2, none⟩ = some (.slice T n tc) := by
    rw [World.cell?_alloc_lt _ _ _ (by simp)]; simp [go_sem]
  have hB1 := ((Below.refl w.heap.size w).alloc (Nat.le_refl _) (.cells #[.int .i64 n, .int .i64 y, .slice T n tc] 24)).alloc (by simp) (.cells #[.int .i64 0, .int .i64 0, .int .i64 0, .slice none 0 0] 31)
  have hM1 := (hM.alloc (.cells #[.int .i64 n, .int .i64 y, .slice T n tc] 24)).alloc (.cells #[.int .i64 0, .int .i64 0, .int .i64 0, .slice none 0 0] 31)
  have hres := row4 (w.alloc (.cells #[.int .i64 n, .int .i64 y, .slice T n tc] 24)) 31 (.int .i64 0) (.int .i64 0) (.int .i64 0) (.slice none 0 0) (nwx 0 0 0 (.slice none 0 0)) rfl rfl rfl rfl
  have hg1 : w.grownBy ((w.alloc (.cells #[.int .i64 n, .int .i64 y, .slice T n tc] 24)).alloc (.cells #[.int .i64 0, .int .i64 0, .int .i64 0, .slice none 0 0] 31)) (some b) := (World.grownBy_alloc _ _ _).trans (World.grownBy_alloc _ _ _)
  obtain ⟨W1, hW1⟩ : ∃ X, X = (w.alloc (.cells #[.int .i64 n, .int .i64 y, .slice T n tc] 24)).alloc (.cells #[.int .i64 0, .int .i64 0, .int .i64 0, .slice none 0 0] 31) := ⟨_, rfl⟩
  rw [show (w.alloc (.cells #[.int .i64 n, .int .i64 y, .slice T n tc] 24)).heap.size = w.heap.size + 1 by simp] at hres
  have sW : W1.heap.size = w.heap.size + 2 := by rw [hW1]; simp
  rw [← hW1] at b0 b1 b2 hB1 hM1 hres hg1 ⊢
  clear hW1
  go_loopw [2, 3, 12] (fun s2 s3 s12 wr => ∃ d : Nat, d ≤ steps ∧ s12 = .int .i64 d ∧ s2 = .int .i64 ((itC (TR R) d c).s : Nat) ∧ s3 = .int .i64 (itC (TR R) d c).h ∧ MapI wr b (m + d) (itC (TR R) d c).f ∧ W1.grownBy wr (some b) ∧ ∀ j, j < d → (itC (TR R) j c).s < n) (fun _ _ s12 _ => steps - (intOf s12).toNat)
  case atStart => exact ⟨0, Nat.zero_le _, rfl, rfl, rfl, hM1, World.grownBy.refl _ _, fun j hj => absurd hj (Nat.not_lt_zero _)⟩
  case round =>
    clear hM1
    obtain ⟨wo, rfl⟩ : ∃ wo : World, wo = wr := ⟨_, rfl⟩
    obtain ⟨d, hd, rfl, rfl, rfl, hMd, hgr, hall⟩ := hrel
    have gc := HGC.out.it HGT.out d hall
    have HALL := Lib.hid hall
    have so := hgr.size
    have hbne : ∀ q : Nat, q ≠ b → some q ≠ some b := fun q hq e => hq (Option.some.inj e)
    have d0 := hgr.cell b0 (hbne _ (by show w.heap.size ≠ b; omega))
    have d1 := hgr.cell b1 (hbne _ (by show w.heap.size ≠ b; omega))
    have d2 := hgr.cell b2 (hbne _ (by show w.heap.size ≠ b; omega))
    obtain ⟨C, hC⟩ : ∃ C, C = itC (TR R) d c := ⟨_, rfl⟩
    have hnext : itC (TR R) (d + 1) c = stp (TR R) C := by rw [hC]; rfl
    rw [← hC] at hMd gc ⊢
    have HC := Lib.hid hC
    have HNX := Lib.hid hnext
    have HB0 := Lib.hid b0
    have HB1 := Lib.hid b1
    have HB2 := Lib.hid b2
    have HBN := Lib.hid hbne
    obtain ⟨Xf, Xs, Xh⟩ := C
    have ch := gc.2.2.1
    obtain ⟨ch0, ch1⟩ : -(B + d : Nat) ≤ Xh ∧ Xh ≤ (B + d : Nat) := ch
    have gcs : Xs ≤ n := gc.2.1
    have HGCd := Lib.hid gc
    clear hC hnext hall b0 b1 b2 hbne gc
    have hWo : Below W.heap.size W wo := (hW.trans (hB1.mono hW.size)).grown hgr (by have := hW.size; omega) (fun g e => by have := Option.some.inj e; omega)
    have HMD := Lib.hid hMd
    clear hMd
    have fin : d = steps ∨ n ≤ Xs → Dn n (TR R) steps d c := fun h => ⟨hd, HALL.out, h.imp id (fun h => by rw [← HC.out]; exact h)⟩
    have HFIN := Lib.hid fin
    clear fin
    by_cases hgo : d < steps ∧ Xs < n
    · obtain ⟨hlt, hs⟩ := hgo
      obtain ⟨⟨r0, r1⟩, ⟨r2, r3⟩, ⟨r4, r5⟩⟩ := HGCd.out.rule HGT.out hs
      have hfx := HGCd.out.1 Xh
      obtain ⟨kx, hkx⟩ : ∃ kx : Nat, Xf Xh = (kx : Int) := ⟨(Xf Xh).toNat, by have : 0 ≤ Xf Xh := hfx.1; omega⟩
      have hky : kx < y := by have : Xf Xh < y := hfx.2; omega
      have e0 : ruW (TR R) ⟨Xf, Xs, Xh⟩ = (R Xs).f (3 * kx) := by show (R Xs).f (3 * (Xf Xh).toNat) = _; rw [hkx, Int.toNat_natCast]
      have e1 : ruM (TR R) ⟨Xf, Xs, Xh⟩ = (R Xs).f (3 * kx + 1) := by show (R Xs).f (3 * (Xf Xh).toNat + 1) = _; rw [hkx, Int.toNat_natCast]
      have e2 : ruN (TR R) ⟨Xf, Xs, Xh⟩ = (R Xs).f (3 * kx + 2) := by show (R Xs).f (3 * (Xf Xh).toNat + 2) = _; rw [hkx, Int.toNat_natCast]
      have hst3 : stp (TR R) ⟨Xf, Xs, Xh⟩ = ⟨fun z => if z = Xh then (R Xs).f (3 * kx) else Xf z, ((R Xs).f (3 * kx + 2)).toNat, Xh + (R Xs).f (3 * kx + 1)⟩ := by
        show (⟨fun z => if z = Xh then ruW (TR R) ⟨Xf, Xs, Xh⟩ else Xf z, (ruN (TR R) ⟨Xf, Xs, Xh⟩).toNat, Xh + ruM (TR R) ⟨Xf, Xs, Xh⟩⟩ : Cf) = _
        rw [e0, e1, e2]
      rw [e0] at r0 r1
      rw [e1] at r2 r3
      rw [e2] at r4 r5
      have SA := step_any n y T n tc b (m + d) Xs kx R Xf Xh wo (HT.out.below hWo) HMD.out (by unfold maxLen; omega) hs (by unfold maxLen; omega) hkx (by rw [HROW.out Xs hs]; exact hky) (by omega) (by omega) (wf_small (by omega) (by omega)) ⟨r2, r3⟩
      have HSA := Lib.hid SA
      have HS3 := Lib.hid hst3
      obtain ⟨z0, hz0⟩ : ∃ z : Nat, (R Xs).f (3 * kx + 2) = (z : Int) := ⟨((R Xs).f (3 * kx + 2)).toNat, by omega⟩
      have HZ := Lib.hid hz0
      clear hkx e0 e1 e2 hst3 SA hz0
      go_wp2_with fail
      refine HSA.out.mono ?_
      rintro e w3 ⟨rfl, hM3, hg3⟩
      have HM3 := Lib.hid hM3
      rw [HZ.out]
      clear hM3
      go_wp2_with fail
      go_roundw
      case rel => exact ⟨d + 1, by omega, by go_num, by rw [HNX.out, HS3.out]; show _ = Value.int .i64 (((R Xs).f (3 * kx + 2)).toNat : Nat); rw [HZ.out, Int.toNat_natCast], by rw [HNX.out, HS3.out], by rw [HNX.out, HS3.out]; exact HM3.out, hgr.trans hg3, fun j hj => by
        by_cases e : j = d
        · subst e; rw [← HC.out]; exact hs
        · exact HALL.out j (by omega)⟩
      case measure => simp [intOf]; omega
    · have hdn := HFIN.out (by omega)
      have HDN := Lib.hid hdn
      clear hdn
      have hstop : d < steps → ¬ Xs < n := fun a b => hgo ⟨a, b⟩
      have hres2 := hres.of_block (hgr.block (w.heap.size + 1) (by omega) (HBN.out _ (by omega)))
      have hnow := now_any b (m + d) Xf Xs Xh wo HMD.out (by unfold maxLen; omega) (fun x hx => by have := HGCd.out.2.2.2 x hx; omega) (by omega) (by omega)
      have HNOW := Lib.hid hnow
      have HRES := Lib.hid hres2
      clear hnow hres2 hgo
      have hlt2 : d < steps → n ≤ Xs := fun a => by have := hstop a; omega
      clear hstop
      by_cases hlt : d < steps
      · have hs : ¬ Xs < n := by have := hlt2 hlt; omega
        clear hlt2
        go_wp2_with fail
        refine HNOW.out.mono ?_
        rintro e w3 ⟨⟨v, rfl, lo, hi, N, A3, c3, hsp, hN, rfl, hown⟩, hb3⟩
        have hr3 := row_below HRES.out hb3 (by omega)
        have f0 := hr3.frozen 0
        have f1 := hr3.frozen 1
        have f2 := hr3.frozen 2
        have f3 := hr3.frozen 3
        have q0 := hr3.cell (i := 0) (by omega)
        have q1 := hr3.cell (i := 1) (by omega)
        have q2 := hr3.cell (i := 2) (by omega)
        have q3 := hr3.cell (i := 3) (by omega)
        have hO := hown.of_block (w' := (((w3.setCell ⟨w.heap.size + 1, 0, none⟩ (.int .i64 Xs)).setCell ⟨w.heap.size + 1, 1, none⟩ (.int .i64 Xh)).setCell ⟨w.heap.size + 1, 2, none⟩ (.int .i64 lo)).setCell ⟨w.heap.size + 1, 3, none⟩ (.slice A3 N c3)) (fun g' hg' => by
          have := (hown.lt g' hg').1
          rw [Deep.blk_setCell_other _ _ _ _ (by show g' ≠ w.heap.size + 1; omega), Deep.blk_setCell_other _ _ _ _ (by show g' ≠ w.heap.size + 1; omega), Deep.blk_setCell_other _ _ _ _ (by show g' ≠ w.heap.size + 1; omega), Deep.blk_setCell_other _ _ _ _ (by show g' ≠ w.heap.size + 1; omega)])
        have HO := Lib.hid hO
        have hgz : w.grownBy w3 (some b) := (hg1.trans hgr).trans ⟨hb3.os, hb3.tape, hb3.output, hb3.size, fun i hi _ => hb3.block i hi⟩
        have HG := Lib.hid (grown_set (grown_set (grown_set (grown_set hgz (p := ⟨w.heap.size + 1, 0, none⟩) (by show w.heap.size ≤ w.heap.size + 1; omega) (.int .i64 Xs)) (p := ⟨w.heap.size + 1, 1, none⟩) (by show w.heap.size ≤ w.heap.size + 1; omega) (.int .i64 Xh)) (p := ⟨w.heap.size + 1, 2, none⟩) (by show w.heap.size ≤ w.heap.size + 1; omega) (.int .i64 lo)) (p := ⟨w.heap.size + 1, 3, none⟩) (by show w.heap.size ≤ w.heap.size + 1; omega) (.slice A3 N c3))
        have HSP := Lib.hid hsp
        clear hr3 hO hown hgz hsp
        go_wp2_with fail
        (try simp only [Exit.inBlock, Exit.then])
        refine bodyPost_ret (v := .tuple #[.agg #[.int .i64 Xs, .int .i64 Xh, .int .i64 lo, .slice A3 N c3], .int .i64 d]) (by rw [results_cell_tmp rfl]; go_simp) rfl ⟨⟨_, d, rfl, HDN.out, ?_⟩, HG.out⟩
        rw [← HC.out]
        exact ⟨lo, hi, N, A3, c3, HSP.out, hN, rfl, HO.out.base_le (by omega)⟩
      · clear hlt2
        go_wp2_with fail
        refine HNOW.out.mono ?_
        rintro e w3 ⟨⟨v, rfl, lo, hi, N, A3, c3, hsp, hN, rfl, hown⟩, hb3⟩
        have hr3 := row_below HRES.out hb3 (by omega)
        have f0 := hr3.frozen 0
        have f1 := hr3.frozen 1
        have f2 := hr3.frozen 2
        have f3 := hr3.frozen 3
        have q0 := hr3.cell (i := 0) (by omega)
        have q1 := hr3.cell (i := 1) (by omega)
        have q2 := hr3.cell (i := 2) (by omega)
        have q3 := hr3.cell (i := 3) (by omega)
        have hO := hown.of_block (w' := (((w3.setCell ⟨w.heap.size + 1, 0, none⟩ (.int .i64 Xs)).setCell ⟨w.heap.size + 1, 1, none⟩ (.int .i64 Xh)).setCell ⟨w.heap.size + 1, 2, none⟩ (.int .i64 lo)).setCell ⟨w.heap.size + 1, 3, none⟩ (.slice A3 N c3)) (fun g' hg' => by
          have := (hown.lt g' hg').1
          rw [Deep.blk_setCell_other _ _ _ _ (by show g' ≠ w.heap.size + 1; omega), Deep.blk_setCell_other _ _ _ _ (by show g' ≠ w.heap.size + 1; omega), Deep.blk_setCell_other _ _ _ _ (by show g' ≠ w.heap.size + 1; omega), Deep.blk_setCell_other _ _ _ _ (by show g' ≠ w.heap.size + 1; omega)])
        have HO := Lib.hid hO
        have hgz : w.grownBy w3 (some b) := (hg1.trans hgr).trans ⟨hb3.os, hb3.tape, hb3.output, hb3.size, fun i hi _ => hb3.block i hi⟩
        have HG := Lib.hid (grown_set (grown_set (grown_set (grown_set hgz (p := ⟨w.heap.size + 1, 0, none⟩) (by show w.heap.size ≤ w.heap.size + 1; omega) (.int .i64 Xs)) (p := ⟨w.heap.size + 1, 1, none⟩) (by show w.heap.size ≤ w.heap.size + 1; omega) (.int .i64 Xh)) (p := ⟨w.heap.size + 1, 2, none⟩) (by show w.heap.size ≤ w.heap.size + 1; omega) (.int .i64 lo)) (p := ⟨w.heap.size + 1, 3, none⟩) (by show w.heap.size ≤ w.heap.size + 1; omega) (.slice A3 N c3))
        have HSP := Lib.hid hsp
        clear hr3 hO hown hgz hsp
        go_wp2_with fail
        (try simp only [Exit.inBlock, Exit.then])
        refine bodyPost_ret (v := .tuple #[.agg #[.int .i64 Xs, .int .i64 Xh, .int .i64 lo, .slice A3 N c3], .int .i64 d]) (by rw [results_cell_tmp rfl]; go_simp) rfl ⟨⟨_, d, rfl, HDN.out, ?_⟩, HG.out⟩
        rw [← HC.out]
        exact ⟨lo, hi, N, A3, c3, HSP.out, hN, rfl, HO.out.base_le (by omega)⟩
end Go.Proofs.Ytcbcbanknjhhhaa
