/- What cross.walk and cross.All compute. Conditions: as each theorem states. -/
import Derived.Test.YtcbcbanknjhhhaaCrossSee
import Derived.Test.YtcbcbanknjhhhaaTapeRuns
import Derived.Test.YtcbcbanknjhhhaaTapeNows
namespace Go.Proofs.Ytcbcbanknjhhhaa
open Go.ChangeShapes Go.WideShapes Go.ChangeAt Go.RowKit Go.Maps
set_option linter.unusedVariables false
/-- what has gone over each border behind d steps -/
def crs (m : Nat) (T : Nat → Nat → Int) (c : Cf) : Nat → Nat → List Int
  | 0 => fun _ => []
  | d + 1 => crU m (crs m T c d) (itC T d c).h (itC T (d + 1) c).h (itC T (d + 1) c).s
theorem crU_len (m : Nat) (L : Nat → List Int) (fr to st : Int) (q : Nat) (_x : Unit) : (crU m L fr to st q).length ≤ (L q).length + 1 := by
  unfold crU
  by_cases h : fr ≠ to ∧ (if fr < to then to else fr) = (q : Int) ∧ q < m
  · rw [if_pos h, List.length_append]; simp
  · rw [if_neg h]; omega
theorem crs_len (m : Nat) (T : Nat → Nat → Int) (c : Cf) (q : Nat) : ∀ d, (crs m T c d q).length ≤ d := by
  intro d
  induction d with
  | zero => exact Nat.le_refl _
  | succ d ih =>
    exact Nat.le_trans (crU_len m (crs m T c d) _ _ _ q ()) (Nat.succ_le_succ ih)
theorem MapI.of_block {w w' : World} {b n : Nat} {f : Int → Int} (h : MapI w b n f) (hb : w'.heap[b]? = w.heap[b]?) : MapI w' b n f := by
  obtain ⟨D, ⟨es, clock, h1, h2⟩, h3⟩ := h
  exact ⟨D, ⟨es, clock, hb.trans h1, h2⟩, h3⟩
theorem Cr.alloc {W : World} {B p G m : Nat} {A : Nat → Option Addr} {c : Nat → Nat} {L : Nat → List Int} (h : Cr W B p G m A c L) (o : Obj) : Cr (W.alloc o) B p G m A c L := h.below ((Below.refl _ _).alloc (Nat.le_refl _) o)
def WalkRet (B p G m n : Nat) (R : Nat → SI) (steps : Nat) (c0 : Cf) (w : World) (e : Ending) (w' : World) : Prop :=
  e = .returned (.tuple #[]) ∧ (∃ d A c, Dn n (TR R) steps d c0 ∧ Cr w' B p G m A c (crs m (TR R) c0 d)) ∧ Below B w w'
set_option maxRecDepth 100000 in
set_option maxHeartbeats 4000000 in
theorem walk_any (y : Nat) (T A : Option Addr) (n tc k cc B p G m steps : Nat) (A0 : Nat → Option Addr) (c0 : Nat → Nat) (R : Nat → SI) (g : Nat → Int) (W w : World) (hT : Tm W T n R) (hrow : ∀ s, s < n → (R s).n = y) (hgt : Gt n y (TR R)) (hy : y ≤ 4) (hy2 : 2 ≤ y) (hn : n ≤ 5)
    (hA : Rd W A k (fun i => .int .i64 (g i))) (hk : k ≤ 8) (hg : insB y k g = true) (hst : steps ≤ 60) (hW : Below W.heap.size W w) (hBW : W.heap.size ≤ B) (hBw : B ≤ w.heap.size) (hC : Cr w B p G m A0 c0 (fun _ => [])) (hm : m ≤ 100) :
    Calls Try.prog 10 #[.agg #[.int .i64 n, .int .i64 y, .slice T n tc], .slice A k cc, .int .i64 steps, .func (.func 11) #[] #[.pointer (some ⟨p, 0, none⟩)]] w (WalkRet B p G m n R steps (begin0 g k) w) := by
  have HT := Lib.hid hT
  have HROW := Lib.hid hrow
  have HGT := Lib.hid hgt
  have HA := Lib.hid hA
  have HG := Lib.hid (insB_iff.1 hg)
  have HGC := Lib.hid (show Gc n y 8 (begin0 g k) from laid_gc (n := n) (y := y) (B := 8) (s := 0) (h := 0) (first := 0) hg (by omega) (by omega) (by omega) (by omega) (by omega))
  have HCW := Lib.hid hC
  have hmk := fun W => run_makeMap (P := Try.prog) 42 W
  clear hT hrow hgt hA hg hC
  go_enter Try.func10, Try.ntmps10
  go_wp2_with fail
  clear hmk
  have hM0 := MapI.made (w.alloc (.cells #[.int .i64 n, .int .i64 y, .slice T n tc] 24))
  have hbx := (mc_new w 24 n y (.slice T n tc)).alloc (.map #[] 0)
  have hB := ((Below.refl B w).alloc hBw (.cells #[.int .i64 n, .int .i64 y, .slice T n tc] 24)).alloc (by simp; omega) (.map #[] 0)
  have hCr := (HCW.out.alloc (.cells #[.int .i64 n, .int .i64 y, .slice T n tc] 24)).alloc (.map #[] 0)
  obtain ⟨W1, hW1⟩ : ∃ X, X = (w.alloc (.cells #[.int .i64 n, .int .i64 y, .slice T n tc] 24)).alloc (.map #[] 0) := ⟨_, rfl⟩
  rw [show (w.alloc (.cells #[.int .i64 n, .int .i64 y, .slice T n tc] 24)).heap.size = w.heap.size + 1 by simp] at hM0
  rw [← laid_zero g 0] at hM0
  have sW : W1.heap.size = w.heap.size + 2 := by rw [hW1]; simp
  rw [← hW1] at hM0 hbx hB hCr ⊢
  have hapx := HCW.out.new_ap (j := w.heap.size) (Nat.le_refl _)
  have hapb := HCW.out.new_ap (j := w.heap.size + 1) (by omega)
  obtain ⟨b, hb⟩ : ∃ b, b = w.heap.size + 1 := ⟨_, rfl⟩
  rw [← hb] at hM0 hapb ⊢
  have hbw : w.heap.size < b := by omega
  have hb1 : b < W1.heap.size := by omega
  have HBX := Lib.hid hbx
  have HB := Lib.hid hB
  have HCR := Lib.hid hCr
  have HAPX := Lib.hid hapx
  have HAPB := Lib.hid hapb
  clear hW1 hb hbx hB hCr hapx hapb HCW
  have hWB : ∀ w', Below B w w' → Below W.heap.size W w' := fun w' h => hW.trans (h.mono hBW)
  have HWB := Lib.hid hWB
  clear hWB
  go_loopw [18] (fun s18 wr => ∃ i : Nat, i ≤ k ∧ s18 = .int .i64 i ∧ MapI wr b i (laid g i 0) ∧ W1.grownBy wr (some b)) (fun s18 _ => k - (intOf s18).toNat)
  case atStart => exact ⟨0, Nat.zero_le _, rfl, hM0, World.grownBy.refl _ _⟩
  case round =>
    clear hM0
    obtain ⟨wo, rfl⟩ : ∃ wo : World, wo = wr := ⟨_, rfl⟩
    obtain ⟨i, hi, rfl, hM, hgr⟩ := hrel
    have HBO := Lib.hid (HB.out.grown hgr (by omega) (fun q e => by have := Option.some.inj e; omega))
    by_cases hlt : i < k
    · obtain ⟨ab, ao, rfl, hab, hac⟩ := (HA.out.below (HWB.out _ HBO.out)).at_ hlt
      obtain ⟨x0, x1⟩ := HG.out i hlt
      obtain ⟨x, hx⟩ : ∃ x, x = g i := ⟨_, rfl⟩
      rw [← hx] at hac x0 x1
      have HX := Lib.hid hx
      clear hx
      go_wp2_with fail
      refine (tput_any b i (laid g i 0) i x _ hM (by unfold maxLen; omega) (wf_small (by omega) (by omega)) (wf_small (by omega) (by omega))).mono ?_
      rintro e w3 ⟨rfl, hM3, hg3⟩
      have hM4 : MapI w3 b (i + 1) (laid g (i + 1) 0) := by
        rw [← laid_succ, ← HX.out, Int.zero_add]; exact hM3
      have HM3 := Lib.hid hM4
      clear hM3 hM4 hM
      go_wp2_with fail
      go_roundw
      case rel => exact ⟨i + 1, by omega, by go_num, HM3.out, hgr.trans hg3⟩
      case measure => simp [intOf]; omega
    · obtain rfl : i = k := by omega
      have HM := Lib.hid hM
      have HCQ := Lib.hid (HCR.out.grown hgr HAPB.out)
      have HBXQ := Lib.hid (HBX.out.of_block (hgr.block w.heap.size (by omega) (fun e => by have := Option.some.inj e; omega)))
      clear hM
      go_wp2_with fail
      go_loopw [2, 11, 12] (fun s2 s11 s12 wr => ∃ (r d : Nat) (A1 : Nat → Option Addr) (c1 : Nat → Nat), r + d = steps ∧ s2 = .int .i64 r ∧ s11 = .int .i64 ((itC (TR R) d (begin0 g i)).s : Nat) ∧ s12 = .int .i64 (itC (TR R) d (begin0 g i)).h ∧ MapI wr b (i + d) (itC (TR R) d (begin0 g i)).f ∧ (∀ j, j < d → (itC (TR R) j (begin0 g i)).s < n) ∧ Cr wr B p G m A1 c1 (crs m (TR R) (begin0 g i) d) ∧ Ap p G m A1 c1 (crs m (TR R) (begin0 g i) d) b ∧ Ap p G m A1 c1 (crs m (TR R) (begin0 g i) d) w.heap.size ∧ wr.rowIs w.heap.size 24 3 (mcx n y (.slice T n tc)) ∧ Below B w wr) (fun s2 _ _ _ => (intOf s2).toNat)
      case atStart => exact ⟨steps, 0, A0, c0, rfl, rfl, rfl, rfl, HM.out, fun j hj => absurd hj (Nat.not_lt_zero _), HCQ.out, HAPB.out, HAPX.out, HBXQ.out, HBO.out⟩
      case round =>
        clear HM hgr HBO HCQ HBXQ HAPB HAPX HCR HBX
        obtain ⟨wq, rfl⟩ : ∃ wq : World, wq = wr := ⟨_, rfl⟩
        obtain ⟨r, d, A1, c1, hrd, rfl, rfl, rfl, hM, hall, hCr, hapb, hapx, hbx, hbe⟩ := hrel
        have gc := HGC.out.it HGT.out d hall
        have HALL := Lib.hid hall
        have hbq := hM.lt
        have HCR := Lib.hid hCr
        have HAPB := Lib.hid hapb
        have HAPX := Lib.hid hapx
        have HBE := Lib.hid hbe
        have HBX := Lib.hid hbx
        obtain ⟨xz, x0, x1, x2⟩ := mc_open hbx
        obtain ⟨C, hC⟩ : ∃ C, C = itC (TR R) d (begin0 g i) := ⟨_, rfl⟩
        have hnext : itC (TR R) (d + 1) (begin0 g i) = stp (TR R) C := by rw [hC]; rfl
        have hcrs : crs m (TR R) (begin0 g i) (d + 1) = crU m (crs m (TR R) (begin0 g i) d) C.h (stp (TR R) C).h (stp (TR R) C).s := by rw [hC]; rfl
        have gc2 : C.s < n → Gc n y (8 + d + 1) (stp (TR R) C) := fun h => by rw [hC] at h ⊢; exact gc.stp HGT.out h
        rw [← hC] at hM gc ⊢
        have HC := Lib.hid hC
        have HNX := Lib.hid hnext
        have HCRS := Lib.hid hcrs
        have HG2 := Lib.hid gc2
        obtain ⟨Xf, Xs, Xh⟩ := C
        obtain ⟨ch0, ch1⟩ : -((8 + d : Nat) : Int) ≤ Xh ∧ Xh ≤ ((8 + d : Nat) : Int) := gc.2.2.1
        have gcs : Xs ≤ n := gc.2.1
        have HGCd := Lib.hid gc
        have hM2 : MapI wq b (i + d) Xf := hM
        have HM := Lib.hid hM2
        clear hC hnext hcrs gc2 gc hM hM2 hall hCr hapb hapx hbx hbe
        by_cases hgo : 0 < r ∧ Xs < n
        · obtain ⟨hr0, hs⟩ := hgo
          obtain ⟨⟨r0, r1⟩, ⟨r2, r3⟩, ⟨r4, r5⟩⟩ := HGCd.out.rule HGT.out hs
          have hfx := HGCd.out.1 Xh
          obtain ⟨kx, hkx⟩ : ∃ kx : Nat, Xf Xh = (kx : Int) := ⟨(Xf Xh).toNat, by have : 0 ≤ Xf Xh := hfx.1; omega⟩
          have hky : kx < y := by have : Xf Xh < y := hfx.2; omega
          have e0 : ruW (TR R) ⟨Xf, Xs, Xh⟩ = (R Xs).f (3 * kx) := by show (R Xs).f (3 * (Xf Xh).toNat) = _; rw [hkx, Int.toNat_natCast]
          have e1 : ruM (TR R) ⟨Xf, Xs, Xh⟩ = (R Xs).f (3 * kx + 1) := by show (R Xs).f (3 * (Xf Xh).toNat + 1) = _; rw [hkx, Int.toNat_natCast]
          have e2 : ruN (TR R) ⟨Xf, Xs, Xh⟩ = (R Xs).f (3 * kx + 2) := by show (R Xs).f (3 * (Xf Xh).toNat + 2) = _; rw [hkx, Int.toNat_natCast]
          rw [e0] at r0 r1
          rw [e1] at r2 r3
          rw [e2] at r4 r5
          obtain ⟨z0, hz0⟩ : ∃ z : Nat, (R Xs).f (3 * kx + 2) = (z : Int) := ⟨((R Xs).f (3 * kx + 2)).toNat, by omega⟩
          have hst3 : stp (TR R) ⟨Xf, Xs, Xh⟩ = ⟨fun z => if z = Xh then (R Xs).f (3 * kx) else Xf z, z0, Xh + (R Xs).f (3 * kx + 1)⟩ := by
            show (⟨fun z => if z = Xh then ruW (TR R) ⟨Xf, Xs, Xh⟩ else Xf z, (ruN (TR R) ⟨Xf, Xs, Xh⟩).toNat, Xh + ruM (TR R) ⟨Xf, Xs, Xh⟩⟩ : Cf) = _
            rw [e0, e1, e2, hz0, Int.toNat_natCast]
          have SA := step_any n y T n tc b (i + d) Xs kx R Xf Xh wq (HT.out.below (HWB.out _ HBE.out)) HM.out (by unfold maxLen; omega) hs (by unfold maxLen; omega) hkx (by rw [HROW.out Xs hs]; exact hky) (by omega) (by omega) (wf_small (by omega) (by omega)) ⟨r2, r3⟩
          obtain ⟨mv, hmv⟩ : ∃ mv, mv = (R Xs).f (3 * kx + 1) := ⟨_, rfl⟩
          rw [hz0, ← hmv] at SA
          rw [← hmv] at r2 r3 hst3
          have HSA := Lib.hid SA
          have HS3 := Lib.hid hst3
          clear hkx e0 e1 e2 hst3 SA hz0 hmv
          have hh3 : (stp (TR R) ⟨Xf, Xs, Xh⟩).h = Xh + mv := by rw [HS3.out]
          have hs3 : (stp (TR R) ⟨Xf, Xs, Xh⟩).s = z0 := by rw [HS3.out]
          have HH3 := Lib.hid hh3
          have HZ3 := Lib.hid hs3
          clear hh3 hs3
          go_wp2_with fail
          refine HSA.out.mono ?_
          rintro e w3 ⟨rfl, hM3, hg3⟩
          have hBs : B ≤ wq.heap.size := by have := HBE.out.size; omega
          have hBb : B ≤ b := by omega
          have HM3 := Lib.hid hM3
          have HCR3 := Lib.hid (HCR.out.grown hg3 HAPB.out)
          have HBX3 := Lib.hid (HBX.out.of_block (hg3.block w.heap.size (by omega) (fun e => by have := Option.some.inj e; omega)))
          have HBE3 := Lib.hid (HBE.out.grown hg3 hBs (fun q e => by have := Option.some.inj e; omega))
          have s3 := hg3.size
          have SE := see_any B p G m A1 c1 (crs m (TR R) (begin0 g i) d) Xh (Xh + mv) z0 w3 HCR3.out (by omega) (fun q _ => Nat.le_trans (crs_len _ _ _ _ _) (by omega)) (by omega) (by omega)
          have HSE := Lib.hid SE
          clear hM3 SE
          go_wp2_with fail
          refine HSE.out.mono ?_
          rintro e w4 ⟨rfl, ⟨A2, c2, hCr4, hkeep⟩, hb4⟩
          have hk1 := hkeep b (by omega) HAPB.out
          have hk2 := hkeep w.heap.size (by omega) HAPX.out
          have HK1 := Lib.hid hk1
          have HK2 := Lib.hid hk2
          have HCR4 := Lib.hid hCr4
          have HBE4 := Lib.hid (HBE3.out.trans hb4)
          clear hkeep hk1 hk2 hCr4 hb4
          go_wp2_with fail
          go_roundw
          case rel => exact ⟨r - 1, d + 1, A2, c2, by omega, by go_num, by rw [HNX.out, HZ3.out], by rw [HNX.out, HH3.out], by rw [HNX.out, HS3.out]; exact HM3.out.of_block HK1.out.2, fun j hj => by
            by_cases e : j = d
            · subst e; rw [← HC.out]; exact hs
            · exact HALL.out j (by omega), by rw [HCRS.out, HH3.out, HZ3.out]; exact HCR4.out, by rw [HCRS.out, HH3.out, HZ3.out]; exact HK1.out.1, by rw [HCRS.out, HH3.out, HZ3.out]; exact HK2.out.1, HBX3.out.of_block HK2.out.2, HBE4.out⟩
          case measure => simp [intOf]; omega
        · have hdn : Dn n (TR R) steps d (begin0 g i) := ⟨by omega, HALL.out, by rw [← HC.out]; show d = steps ∨ n ≤ Xs; omega⟩
          have HDN := Lib.hid hdn
          have hstop : 0 < r → ¬ Xs < n := fun a h => hgo ⟨a, h⟩
          clear hdn hgo
          by_cases hr0 : 0 < r
          · have hs : ¬ Xs < n := hstop hr0
            clear hstop
            go_wp2_with fail
            go_end0
            exact ⟨rfl, ⟨d, A1, c1, HDN.out, HCR.out⟩, HBE.out⟩
          · clear hstop
            go_wp2_with fail
            go_end0
            exact ⟨rfl, ⟨d, A1, c1, HDN.out, HCR.out⟩, HBE.out⟩
def AllRet (M n : Nat) (R : Nat → SI) (steps : Nat) (c0 : Cf) (w : World) (e : Ending) (w' : World) : Prop :=
  (∃ d p G A c, e = .returned (.tuple #[.slice (some ⟨G, 0, none⟩) M M, .int .i64 0]) ∧ Dn n (TR R) steps d c0 ∧ Cr w' w.heap.size p G M A c (crs M (TR R) c0 d)) ∧ Below w.heap.size w w'
theorem infoIs : (Try.prog.info? 25).map (fun i => (i.zero, i.size, i.bytes)) = some (some (.slice none 0 0), 1, 24) := by kernel_rfl
set_option maxRecDepth 100000 in
set_option maxHeartbeats 4000000 in
theorem all_good (S Y steps : Int) (T A : Option Addr) (n tc k c : Nat) (R : Nat → SI) (g : Nat → Int) (w : World) (hT : Tm w T n R) (hn : n ≤ maxLen) (hA : Rd w A k (fun i => .int .i64 (g i))) (hE : rcE S Y n R k g steps = 0) :
    Calls Try.prog 5 #[.agg #[.int .i64 S, .int .i64 Y, .slice T n tc], .slice A k c, .int .i64 steps] w (AllRet (k + 1) n R steps.toNat (begin0 g k) w) := by
  obtain ⟨p1, p2, p3, ⟨p4, p5⟩⟩ := rcE_parts S Y steps n k R g hE
  obtain ⟨y, hm⟩ := tpE_mok p1
  obtain ⟨rfl, rfl, n1, n5, y2, y4, hrow, hgt⟩ := hm
  obtain ⟨sn, rfl⟩ := Int.eq_ofNat_of_zero_le p4
  rw [Int.toNat_natCast]
  have HE := Lib.hid hE
  have P3 := Lib.hid p3
  have HRW := Lib.hid hrow
  have HGT := Lib.hid hgt
  have HT := Lib.hid hT
  have HA := Lib.hid hA
  have HN := Lib.hid hn
  obtain ⟨M, hM⟩ : ∃ M : Nat, M = k + 1 := ⟨_, rfl⟩
  rw [← hM]
  have hM' : (k : Int) + 1 = (M : Int) := by omega
  have hMb : M ≤ 9 := by omega
  have hM0 : 0 < M := by omega
  have hmk := fun W => run_make_row' (P := Try.prog) 26 25 (.slice none 0 0) 24 Try.underlying26 infoIs rfl .i64 .i64 M (by omega) (by omega) W
  clear hE p1 p3 hrow hgt hT hA hM hn
  go_enter Try.func5, Try.ntmps5
  go_wp2_with fail
  have hbx := mc_new w 24 n y (.slice T n tc)
  have hB1 := (Below.refl w.heap.size w).alloc (Nat.le_refl _) (.cells #[.int .i64 n, .int .i64 y, .slice T n tc] 24)
  obtain ⟨W1, hW1⟩ : ∃ X, X = w.alloc (.cells #[.int .i64 n, .int .i64 y, .slice T n tc] 24) := ⟨_, rfl⟩
  have sW : W1.heap.size = w.heap.size + 1 := by rw [hW1]; simp
  rw [← hW1] at hbx hB1 ⊢
  clear hW1
  have HB1 := Lib.hid hB1
  clear hB1
  refine (runs_good n y sn T A n tc k c R g _ (HT.out.below HB1.out) HN.out (HA.out.below HB1.out) HE.out).mono ?_
  rintro e w2 ⟨⟨v, d, rfl, hdn, lo, hi, N, A3, c3, hsp, hN, rfl, hown⟩, hb2⟩
  obtain ⟨C, hC⟩ : ∃ C, C = itC (TR R) d (begin0 g k) := ⟨_, rfl⟩
  rw [← hC] at hsp hown ⊢
  obtain ⟨Xf, Xs, Xh⟩ := C
  have s2 := hb2.size
  have hbx2 := row_below hbx hb2 (by omega)
  have HB2 := Lib.hid (HB1.out.trans (hb2.mono HB1.out.size))
  clear hdn hsp hown hb2 hC hbx
  have HBX2 := Lib.hid hbx2
  have HB3 := Lib.hid (HB2.out.alloc (by omega) (.cells #[.int .i64 Xs, .int .i64 Xh, .int .i64 lo, .slice A3 N c3] 31))
  clear hbx2
  have hx1 : w.heap.size < w2.heap.size := by omega
  have hx2 : w.heap.size < w2.heap.size + 1 := by omega
  have hx3 : w.heap.size < w2.heap.size + 1 + 1 := by omega
  obtain ⟨xz, x0, x1, x2⟩ := mc_open HBX2.out
  clear xz
  go_wp2_with fail
  clear hmk x0 x1 x2
  have hG := (World.rowIs_made (w2.alloc (.cells #[.int .i64 Xs, .int .i64 Xh, .int .i64 lo, .slice A3 N c3] 31)) (.slice none 0 0) M 25).alloc (.cells #[.slice (some ⟨w2.heap.size + 1, 0, none⟩) M M] 26)
  have hp := World.rowIs_alloc ((w2.alloc (.cells #[.int .i64 Xs, .int .i64 Xh, .int .i64 lo, .slice A3 N c3] 31)).alloc (.cells (madeCells #[.slice none 0 0] M) 25)) #[.slice (some ⟨w2.heap.size + 1, 0, none⟩) M M] 26 (fun _ => .slice (some ⟨w2.heap.size + 1, 0, none⟩) M M) (fun i hi => by
    have : i < 1 := hi
    obtain rfl : i = 0 := by omega
    rfl)
  have HB5 := Lib.hid ((HB3.out.alloc (by simp; omega) (.cells (madeCells #[.slice none 0 0] M) 25)).alloc (by simp; omega) (.cells #[.slice (some ⟨w2.heap.size + 1, 0, none⟩) M M] 26))
  rw [show (w2.alloc (.cells #[.int .i64 Xs, .int .i64 Xh, .int .i64 lo, .slice A3 N c3] 31)).heap.size = w2.heap.size + 1 by simp] at hG
  rw [show ((w2.alloc (.cells #[.int .i64 Xs, .int .i64 Xh, .int .i64 lo, .slice A3 N c3] 31)).alloc (.cells (madeCells #[.slice none 0 0] M) 25)).heap.size = w2.heap.size + 1 + 1 by simp] at hp
  obtain ⟨W5, hW5⟩ : ∃ X, X = ((w2.alloc (.cells #[.int .i64 Xs, .int .i64 Xh, .int .i64 lo, .slice A3 N c3] 31)).alloc (.cells (madeCells #[.slice none 0 0] M) 25)).alloc (.cells #[.slice (some ⟨w2.heap.size + 1, 0, none⟩) M M] 26) := ⟨_, rfl⟩
  have sW5 : W5.heap.size = w2.heap.size + 3 := by rw [hW5]; simp
  rw [← hW5] at hG hp HB5 ⊢
  obtain ⟨G, hGe⟩ : ∃ G, G = w2.heap.size + 1 := ⟨_, rfl⟩
  rw [← hGe] at hG hp ⊢
  have hGw : w.heap.size ≤ G := by omega
  have hCr : Cr W5 w.heap.size (G + 1) G M (fun _ => none) (fun _ => 0) (fun _ => []) :=
    ⟨hp, hG.congr fun _ _ => rfl, fun q hq => Own.nil _ _ _ _ _, ⟨by omega, hGw, by omega⟩, fun q hq g' hg' => (by cases hg'), fun q r hq hr hqr g' hg' => (by cases hg')⟩
  have WA := walk_any y T A n tc k c w.heap.size (G + 1) G M sn (fun _ => none) (fun _ => 0) R g w W5 HT.out HRW.out HGT.out y4 y2 n5 HA.out (by omega) P3.out (by omega) HB5.out (Nat.le_refl _) HB5.out.size hCr (by omega)
  have HWA := Lib.hid WA
  clear hW5 hG hp hCr WA HB2 HB3 HBX2 hGe sW5
  refine HWA.out.mono ?_
  rintro e w6 ⟨rfl, ⟨d2, A6, c6, hdn, hCr6⟩, hb6⟩
  have hp6 : w6.cell? ⟨G + 1, 0, none⟩ = some (.slice (some ⟨G, 0, none⟩) M M) := hCr6.hd.cell (i := 0) (by omega)
  have HCR := Lib.hid hCr6
  have HDN := Lib.hid hdn
  have HB6 := Lib.hid (HB5.out.trans hb6)
  clear hCr6 hdn hb6 HWA
  go_wp2_with fail
  go_ret2
  exact ⟨⟨d2, G + 1, G, A6, c6, rfl, HDN.out, HCR.out⟩, HB6.out⟩
set_option maxRecDepth 100000 in
theorem all_bad (S Y steps : Int) (T A : Option Addr) (n tc k c : Nat) (R : Nat → SI) (g : Nat → Int) (w : World) (hT : Tm w T n R) (hn : n ≤ maxLen) (hA : Rd w A k (fun i => .int .i64 (g i))) (hk : k ≤ maxLen) (hE : rcE S Y n R k g steps ≠ 0) :
    Calls Try.prog 5 #[.agg #[.int .i64 S, .int .i64 Y, .slice T n tc], .slice A k c, .int .i64 steps] w fun e w' => e = .returned (.tuple #[.slice none 0 0, .int .i64 (rcE S Y n R k g steps)]) ∧ Below w.heap.size w w' := by
  have HT := Lib.hid hT
  have HA := Lib.hid hA
  have HN := Lib.hid hn
  have HK := Lib.hid hk
  have HE := Lib.hid hE
  obtain ⟨E, hEe⟩ : ∃ E, E = rcE S Y n R k g steps := ⟨_, rfl⟩
  rw [← hEe] at hE
  have HEE := Lib.hid hEe
  have hq : (E != 0) = true := by rw [bne_iff_ne]; exact hE
  have HB1 := Lib.hid ((Below.refl w.heap.size w).alloc (Nat.le_refl _) (.cells #[.int .i64 S, .int .i64 Y, .slice T n tc] 24))
  clear hT hA hn hk hE hEe
  go_enter Try.func5, Try.ntmps5
  go_wp2_with fail
  refine (runs_bad S Y steps T A n tc k c R g _ (HT.out.below HB1.out) HN.out (HA.out.below HB1.out) HK.out HE.out).mono ?_
  rintro e w2 ⟨rfl, hb2⟩
  rw [← HEE.out]
  unfold zeroN
  have HB2 := Lib.hid (HB1.out.trans (hb2.mono HB1.out.size))
  have HB3 := Lib.hid (HB2.out.alloc HB2.out.size (.cells #[.int .i64 0, .int .i64 0, .int .i64 0, .slice none 0 0] 31))
  clear hb2
  go_wp2_with fail
  go_ret2
  exact ⟨by rw [← HEE.out]; rfl, HB3.out⟩
end Go.Proofs.Ytcbcbanknjhhhaa
