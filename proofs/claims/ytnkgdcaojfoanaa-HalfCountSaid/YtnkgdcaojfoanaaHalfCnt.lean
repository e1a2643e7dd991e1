/- half.Counts and half.Never: how many can be come to. Condition: the rows read as told. -/
import Derived.Test.YtnkgdcaojfoanaaHalfGo
import Derived.Test.YtnkgdcaojfoanaaRow
import Derived.IntWalk
import Derived.WalkSpells
import Derived.WalkLawsBesides
import Derived.Deep.DeepCutAuto
namespace Go.Proofs.Ytnkgdcaojfoanaa
open Go.ChangeShapes Go.WideShapes Go.ChangeAt Go.RowKit
set_option linter.unusedVariables false
set_option linter.unusedSimpArgs false
theorem EBh : Elem Try.prog 40 4 1 1 := Elem.of Try.underlying40 (by kernel_rfl : (Try.prog.info? 4).map (fun i => (i.zero, i.size, i.bytes)) = some (some (.bool false), 1, 1)) rfl (by omega)
theorem make_boolsH (K : Nat) (hK : K ≤ 1000) (W : World) : (Instr.makeSlice 40 (.int .i64 (K : Int)) (.int .i64 (K : Int))).run Try.prog W = .ok (.slice (some ⟨W.heap.size, 0, none⟩) K K) (W.alloc (.cells (madeCells #[.bool false] K) 4)) :=
  run_make_row' 40 4 (.bool false) 1 Try.underlying40 (by kernel_rfl) rfl .i64 .i64 K (by omega) (by omega) W
/-- a row of bools, with room or without -/
def BRow (W : World) (g n : Nat) (B : Nat → Bool) : Prop := ∃ cc F, W.rowIs g 4 cc F ∧ n ≤ cc ∧ ∀ j, j < n → F j = .bool (B j)
section
variable {W W' : World} {g n : Nat} {B : Nat → Bool}
theorem BRow.cell (h : BRow W g n B) {j : Nat} (hj : j < n) : W.cell? ⟨g, j, none⟩ = some (.bool (B j)) := by
  obtain ⟨cc, F, h1, h2, h3⟩ := h
  rw [h1.cell (by omega), h3 j hj]
theorem BRow.frozen (h : BRow W g n B) (j : Nat) : W.frozen? ⟨g, j, none⟩ = false := by
  obtain ⟨cc, F, h1, _⟩ := h
  exact h1.frozen j
theorem BRow.lt (h : BRow W g n B) : g < W.heap.size := by
  obtain ⟨cc, F, h1, _⟩ := h
  exact h1.lt
theorem BRow.of_block (h : BRow W g n B) (e : W'.heap[g]? = W.heap[g]?) : BRow W' g n B := by
  obtain ⟨cc, F, h1, h2⟩ := h
  exact ⟨cc, F, h1.of_block e, h2⟩
theorem BRow.set (h : BRow W g n B) (p : Nat) : BRow (W.setCell ⟨g, p, none⟩ (.bool true)) g n (fun j => B j || p == j) := by
  obtain ⟨cc, F, h1, h2, h3⟩ := h
  refine ⟨cc, _, h1.set p (.bool true), h2, fun j hj => ?_⟩
  by_cases e : j = p
  · subst e; simp
  · rw [if_neg e, h3 j hj]
    dsimp only
    rw [show (p == j) = false from beq_eq_false_iff_ne.2 (Ne.symm e), Bool.or_false]
theorem BRow.congr (h : BRow W g n B) {B' : Nat → Bool} (e : ∀ j, j < n → B j = B' j) : BRow W g n B' := by
  obtain ⟨cc, F, h1, h2, h3⟩ := h
  exact ⟨cc, F, h1, h2, fun j hj => by rw [h3 j hj, e j hj]⟩
theorem BRow.rd (h : BRow W g n B) : Rd W (some ⟨g, 0, none⟩) n (fun j => .bool (B j)) := fun _ =>
  ⟨g, 0, rfl, h.lt, fun j hj => by rw [Nat.zero_add]; exact h.cell hj⟩
end
set_option maxRecDepth 100000 in
theorem cloneB_any (g n c : Nat) (B : Nat → Bool) (w : World) (h : BRow w g n B) (n1 : 1 ≤ n) (hn : n ≤ 1000) :
    Calls Try.prog 17 #[.slice (some ⟨g, 0, none⟩) n c] w fun e w' => (∃ g' c', e = .returned (.slice (some ⟨g', 0, none⟩) n c') ∧ w.heap.size ≤ g' ∧ BRow w' g' n B) ∧ Below w.heap.size w w' := by
  have hnil := fun (W : World) (a : Option Addr) (n c : Nat) => Lib.run_eql_slice_nil (P := Try.prog) W 40 4 a n c 0 0 Try.underlying40
  have hrd := h.rd
  have HRD := Lib.hid hrd
  clear hrd
  go_enter Try.func17, Try.ntmps17
  go_wp2_with (at_builtin; refine wpList_app _ rfl (.tmp 5) (.tmp 6) 40 rfl EBh rfl (Own.empty w w.heap.size 4 1 (fun _ => .bool false) (Nat.le_refl _)) rfl (l := n) (by omega) (HRD.out.alloc _) (fun _ _ => rfl) (by unfold maxLen; omega) (by omega) (by simp) n n (by omega) (by omega) ?_; intro A2 c2 w2 hown2 hg2 hat2 hbl2)
  go_ret
  have hown3 := hown2.congr (C' := fun j => .bool (B j)) (fun i hi => by rw [cat_ge (Nat.zero_le _), Nat.sub_zero])
  obtain ⟨g', F, rfl, hge, hrow, hle, hF⟩ := Own.row hown3 (by omega)
  exact ⟨⟨g', c2, rfl, hge, c2, F, hrow, hle, hF⟩, ((Below.refl w.heap.size w).alloc (Nat.le_refl _) _).trans hbl2⟩
/-- who can be come to in one step more, by those below i -/
def mrB (R : Nat → SI) (n k f i j : Nat) : Bool := wy R n k f j || anyB (fun m => wy R n k f m && edg R m j) i
theorem mrB_zero (R : Nat → SI) (n k f j : Nat) : mrB R n k f 0 j = wy R n k f j := by
  unfold mrB
  rw [anyB_no (fun j h => absurd h (Nat.not_lt_zero _)), Bool.or_false]
theorem anyB_succ (p : Nat → Bool) (i : Nat) : anyB p (i + 1) = (anyB p i || p i) := by
  rw [Bool.eq_iff_iff, Bool.or_eq_true, anyB_iff, anyB_iff]
  constructor
  · rintro ⟨m, hm, h⟩
    by_cases e : m = i
    · rw [e] at h; exact .inr h
    · exact .inl ⟨m, by omega, h⟩
  · rintro (⟨m, hm, h⟩ | h)
    · exact ⟨m, by omega, h⟩
    · exact ⟨i, by omega, h⟩
theorem mrB_no {R : Nat → SI} {n k f i : Nat} (h : wy R n k f i = false) (j : Nat) : mrB R n k f (i + 1) j = mrB R n k f i j := by
  unfold mrB
  rw [anyB_succ, h, Bool.false_and, Bool.or_false]
/-- .. and by the first q of the next ones of i -/
def mrQ (R : Nat → SI) (n k f i q j : Nat) : Bool := mrB R n k f i j || anyB (fun q' => (R i).f q' == (j : Int)) q
theorem mrQ_zero (R : Nat → SI) (n k f i j : Nat) : mrQ R n k f i 0 j = mrB R n k f i j := by
  unfold mrQ
  rw [anyB_no (fun j h => absurd h (Nat.not_lt_zero _)), Bool.or_false]
theorem mrQ_succ {R : Nat → SI} {n k f i q p : Nat} (h : (R i).f q = (p : Int)) (j : Nat) : mrQ R n k f i (q + 1) j = (mrQ R n k f i q j || p == j) := by
  unfold mrQ
  rw [anyB_succ, h, Bool.or_assoc]
  congr 2
  rw [Bool.eq_iff_iff, beq_iff_eq, beq_iff_eq]; omega
theorem mrQ_all {R : Nat → SI} {n k f i : Nat} (h : wy R n k f i = true) (j : Nat) : mrQ R n k f i (R i).n j = mrB R n k f (i + 1) j := by
  unfold mrQ mrB
  rw [anyB_succ, h, Bool.true_and, Bool.or_assoc]
  rfl
theorem mrB_all {R : Nat → SI} {n k f j : Nat} (hf : f < n) (hj : j < n) : mrB R n k f n j = wy R n (k + 1) f j := by
  unfold mrB
  rw [Bool.eq_iff_iff, Bool.or_eq_true, wy_last hf hj, anyB_iff]
  simp only [Bool.and_eq_true]
/-- how many can be come to in k steps -/
def cnW (R : Nat → SI) (n f k : Nat) : Nat := cntN (fun j => wy R n k f j) n
def CountsP (R : Nat → SI) (n : Nat) (x : Int) (e : Ending) (w' : World) : Prop :=
  (∃ z : Int, hwE n R 1 (fun _ => x) = z ∧ (z != 0) = true ∧ e = .returned (.tuple #[.slice none 0 0, .int .i64 z])) ∨
  (hwE n R 1 (fun _ => x) = 0 ∧ ∃ f : Nat, x = f ∧ f < n ∧ ∃ A' c', e = .returned (.tuple #[.slice A' n c', .int .i64 0]) ∧ Rd w' A' n (fun k => .int .i64 ((cnW R n f k : Nat) : Int)))
set_option maxRecDepth 100000 in
set_option maxHeartbeats 4000000 in
theorem counts_any (A : Option Addr) (n c : Nat) (R : Nat → SI) (x : Int) (w : World) (h : Gr w A n R) (hn : n ≤ maxLen) :
    Calls Try.prog 10 #[.slice A n c, .int .i64 x] w fun e w' => CountsP R n x e w' ∧ Below w.heap.size w w' := by
  have H := Lib.hid h
  have HN := Lib.hid hn
  clear h hn
  obtain ⟨W1, hW1⟩ : ∃ W, W = w.alloc (.cells #[.int .i64 x] 3) := ⟨_, rfl⟩
  have hb1 : Below w.heap.size w W1 := by rw [hW1]; exact (Below.refl _ _).alloc (Nat.le_refl _) _
  have hr1 : Rd W1 (some ⟨w.heap.size, 0, none⟩) 1 (fun i => .int .i64 x) := by rw [hW1]; exact Rd.one w _ _
  have hwr := halfWrong_any A n c R (some ⟨w.heap.size, 0, none⟩) 1 1 (fun _ => x) W1 (H.out.below hb1) hr1 HN.out (by omega)
  have HB1 := Lib.hid hb1
  have HW1 := Lib.hid hW1
  have HWR := Lib.hid hwr
  clear hb1 hr1 hW1 hwr
  by_cases hz : hwE n R 1 (fun _ => x) = 0
  · obtain ⟨⟨n1, n8⟩, h4, hin, hD⟩ := hwE_zero hz
    have d0 := hD 0 (by omega)
    obtain ⟨f, rfl⟩ : ∃ f : Nat, x = (f : Int) := Int.eq_ofNat_of_zero_le d0.1
    have hf : f < n := by have := d0.2; omega
    have HZ := Lib.hid hz
    have H4 := Lib.hid h4
    have HIN := Lib.hid hin
    have hmk := make_boolsH n (by omega)
    clear hz h4 hin hD d0
    go_enter Try.func10, Try.ntmps10
    go_wp2_with fail
    rw [← HW1.out]
    refine HWR.out.mono ?_
    rintro e w2 ⟨rfl, hb2⟩
    rw [HZ.out]
    have HB2 := Lib.hid (HB1.out.trans (hb2.mono HB1.out.size))
    clear hb2 HWR
    have hrm := World.rowIs_made w2 (.bool false) n 4
    have hbm : BRow (w2.alloc (.cells (madeCells #[.bool false] n) 4)) w2.heap.size n (fun _ => false) := ⟨n, _, hrm, Nat.le_refl _, fun _ _ => rfl⟩
    obtain ⟨g, hg⟩ : ∃ g, g = w2.heap.size := ⟨_, rfl⟩
    obtain ⟨Wm, hWm⟩ : ∃ W, W = w2.alloc (.cells (madeCells #[.bool false] n) 4) := ⟨_, rfl⟩
    rw [← hWm, ← hg] at hbm
    have k1 := hbm.cell hf
    have k2 := hbm.frozen f
    have HG3 : Hid (BRow (Wm.setCell ⟨g, f, none⟩ (.bool true)) g n (fun j => wy R n 0 f j)) := Lib.hid ((hbm.set f).congr fun j _ => by simp [wy])
    have HB3 : Hid (Below w.heap.size w (Wm.setCell ⟨g, f, none⟩ (.bool true))) := Lib.hid (by rw [hWm, hg]; exact ((HB2.out.alloc HB2.out.size _).setCell HB2.out.size _))
    have hwg : w.heap.size ≤ g := by rw [hg]; exact HB2.out.size
    have HWm := Lib.hid hWm
    have HGg := Lib.hid hg
    clear hrm hbm hWm hg HB2
    go_upto_region 5 with (fail)
    rw [← HWm.out, ← HGg.out]
    clear HWm HGg hmk
    go_wp2_with fail
    clear k1 k2
    go_loopw [7, 8, 30] (fun s7 s8 s30 wr => ∃ (k g cin c' : Nat) (A' : Option Addr), k ≤ n ∧ s30 = .int .i64 (k : Nat) ∧ s7 = .slice (some ⟨g, 0, none⟩) n cin ∧ s8 = .slice A' k c' ∧ w.heap.size ≤ g ∧ Hid (BRow wr g n (fun j => wy R n k f j)) ∧ Hid (Own wr w.heap.size 3 1 A' k c' k (fun i => .int .i64 ((cnW R n f i : Nat) : Int))) ∧ Hid ((Value.slice A' k c').ownBlock ≠ some g) ∧ Hid (Below w.heap.size w wr)) (fun _ _ s30 _ => n - (intOf s30).toNat)
    case atStart => exact ⟨0, g, n, 0, none, Nat.zero_le _, rfl, rfl, rfl, hwg, HG3, Lib.hid (Own.nil _ _ _ _ _), Lib.hid (fun e => by cases e), HB3⟩
    case round =>
      clear HG3 HB3 hwg
      obtain ⟨wo, rfl⟩ : ∃ wo : World, wo = wr := ⟨_, rfl⟩
      obtain ⟨k, g, cin, c', A', hk, rfl, rfl, rfl, hwg, HG, HO, HNE, HB⟩ := hrel
      by_cases hlt : k < n
      · go_wp2_with fail
        refine (cloneB_any g n cin (fun j => wy R n k f j) wo HG.out n1 (by omega)).mono ?_
        rintro e w4 ⟨⟨g2, cm, rfl, hg2, hbr2⟩, hb4⟩
        have HG4 : Hid (BRow w4 g n (fun j => wy R n k f j)) := Lib.hid (HG.out.of_block (hb4.block _ HG.out.lt))
        have HM4 : Hid (BRow w4 g2 n (fun j => mrB R n k f 0 j)) := Lib.hid (hbr2.congr fun j _ => (mrB_zero R n k f j).symm)
        have HO4 := Lib.hid (HO.out.below hb4)
        have HB4 := Lib.hid (HB.out.trans (hb4.mono HB.out.size))
        have HNE2 : Hid ((Value.slice A' k c').ownBlock ≠ some g2) := Lib.hid (fun e => by have := (HO.out.lt g2 e).2; omega)
        have hgg : g < g2 := Nat.lt_of_lt_of_le HG.out.lt hg2
        have hwg2 : w.heap.size ≤ g2 := by omega
        clear hbr2 hb4 hg2 HG HO HB
        go_wp2_with fail
        go_loopw [9, 36] (fun s9 s36 wr => ∃ i m : Nat, i ≤ n ∧ s36 = .int .i64 (i : Nat) ∧ s9 = .int .i64 (m : Nat) ∧ m ≤ i ∧ Hid (m = cntN (fun j => wy R n k f j) i) ∧ Hid (BRow wr g n (fun j => wy R n k f j)) ∧ Hid (BRow wr g2 n (fun j => mrB R n k f i j)) ∧ Hid (Own wr w.heap.size 3 1 A' k c' k (fun i => .int .i64 ((cnW R n f i : Nat) : Int))) ∧ Hid (Below w.heap.size w wr)) (fun _ s36 _ => n - (intOf s36).toNat)
        case atStart => exact ⟨0, 0, Nat.zero_le _, rfl, rfl, Nat.le_refl _, Lib.hid rfl, HG4, HM4, HO4, HB4⟩
        case round =>
          clear HG4 HM4 HO4 HB4
          obtain ⟨wo, rfl⟩ : ∃ wo : World, wo = wr := ⟨_, rfl⟩
          obtain ⟨i, m, hi, rfl, rfl, hmi, HMC, HG, HM, HO, HB⟩ := hrel
          by_cases hlt2 : i < n
          · have k1 := HG.out.cell hlt2
            obtain ⟨bv, hbv⟩ : ∃ b, b = wy R n k f i := ⟨_, rfl⟩
            rw [← hbv] at k1
            have HMC2 : Hid (m + bv.toNat = cntN (fun j => wy R n k f j) (i + 1)) := Lib.hid (by simp only [cntN]; rw [← HMC.out, hbv])
            have HBV := Lib.hid hbv
            clear hbv
            cases bv
            · go_wp2_with fail
              go_roundw
              case rel => exact ⟨i + 1, m, by omega, by go_num, rfl, by omega, HMC2, HG, Lib.hid (HM.out.congr fun j _ => (mrB_no HBV.out.symm j).symm), HO, HB⟩
              case measure => simp [intOf]; omega
            · have hgr := H.out.below HB.out
              obtain ⟨b, off, rfl, hb, hc0⟩ := hgr.1.at_ hlt2
              have hgd := hgr.2 i hlt2
              have hin := HIN.out i hlt2
              have h4 := H4.out i hlt2
              obtain ⟨y, hy⟩ : ∃ y, y = R i := ⟨_, rfl⟩
              rw [← hy] at hc0 hgd hin h4
              have HYR := Lib.hid hy
              obtain ⟨ya, yn, yc, yf⟩ := y
              have hc : wo.cell? ⟨b, off + i, none⟩ = some (.slice ya yn yc) := hc0
              have HRY : Hid (Rd wo ya yn (fun q => .int .i64 (yf q))) := Lib.hid hgd.1
              have HINY : Hid (∀ q, q < yn → 0 ≤ yf q ∧ yf q < (n : Int)) := Lib.hid hin
              have h4' : yn ≤ 4 := h4
              have HRW : Hid (Rd w ya yn (fun q => .int .i64 (yf q))) := Lib.hid (by
                have := (H.out.2 i hlt2).1
                rw [← HYR.out] at this; exact this)
              have HMQ : Hid (BRow wo g2 n (fun j => mrQ R n k f i 0 j)) := Lib.hid (HM.out.congr fun j _ => (mrQ_zero R n k f i j).symm)
              have HG5 := HG
              have HO5 := HO
              have HB5 := HB
              clear hc0 hgd hin h4 hgr hy HG HO HB HM HRY
              go_wp2_with fail
              go_loopw [50] (fun s50 wr => ∃ q : Nat, q ≤ yn ∧ s50 = .int .i64 (q : Nat) ∧ Hid (BRow wr g n (fun j => wy R n k f j)) ∧ Hid (BRow wr g2 n (fun j => mrQ R n k f i q j)) ∧ Hid (Own wr w.heap.size 3 1 A' k c' k (fun i => .int .i64 ((cnW R n f i : Nat) : Int))) ∧ Hid (Below w.heap.size w wr)) (fun s50 _ => yn - (intOf s50).toNat)
              case atStart => exact ⟨0, Nat.zero_le _, rfl, HG5, HMQ, HO5, HB5⟩
              case round =>
                clear HG5 HMQ HO5 HB5 k1 hc
                obtain ⟨wp, rfl⟩ : ∃ wp : World, wp = wr := ⟨_, rfl⟩
                obtain ⟨q, hq, rfl, HG, HM, HO, HB⟩ := hrel
                by_cases hlt3 : q < yn
                · obtain ⟨b2, off2, rfl, hb2, hcq⟩ := (HRW.out.below HB.out).at_ hlt3
                  have hiq := HINY.out q hlt3
                  obtain ⟨p, hp⟩ : ∃ p : Nat, yf q = (p : Int) := Int.eq_ofNat_of_zero_le hiq.1
                  rw [hp] at hcq hiq
                  have hpn : p < n := by omega
                  have HP : Hid ((R i).f q = (p : Int)) := Lib.hid (by rw [← HYR.out]; exact hp)
                  have k1 := HM.out.cell hpn
                  have k2 := HM.out.frozen p
                  clear hp hiq
                  go_wp2_with fail
                  go_roundw
                  case rel => exact ⟨q + 1, by omega, by go_num, Lib.hid (HG.out.of_block (Below.heap_setCell _ _ _ _ (by show g ≠ g2; omega))), Lib.hid ((HM.out.set p).congr fun j _ => (mrQ_succ HP.out j).symm), Lib.hid (HO.out.of_block fun x hx => Below.heap_setCell _ _ _ _ (fun e => HNE2.out (by rw [← show x = g2 from e]; exact hx))), Lib.hid (HB.out.setCell hwg2 _)⟩
                  case measure => simp [intOf]; omega
                · obtain rfl : yn = q := by omega
                  have HMN : Hid (BRow wp g2 n (fun j => mrB R n k f (i + 1) j)) := Lib.hid (HM.out.congr fun j _ => by
                    have := mrQ_all HBV.out.symm j
                    rw [← HYR.out] at this
                    exact this)
                  go_wp2_with fail
                  go_roundw
                  case rel => exact ⟨i + 1, m + 1, by omega, by go_num, by go_num, by omega, HMC2, HG, HMN, HO, HB⟩
                  case measure => simp [intOf]; omega
          · obtain rfl : i = n := by omega
            obtain ⟨W6, hW6⟩ : ∃ W, W = wo.alloc (.cells #[.int .i64 (m : Nat)] 3) := ⟨_, rfl⟩
            have hbA : Below wo.heap.size wo W6 := by rw [hW6]; exact (Below.refl _ _).alloc (Nat.le_refl _) _
            have HO6 := Lib.hid (HO.out.below hbA)
            have HB6 := Lib.hid (HB.out.trans (hbA.mono HB.out.size))
            have HM6 : Hid (BRow W6 g2 i (fun j => wy R i (k + 1) f j)) := Lib.hid ((HM.out.of_block (hbA.block _ HM.out.lt)).congr fun j hj => mrB_all hf hj)
            have HR6 : Hid (Rd W6 (some ⟨wo.heap.size, 0, none⟩) 1 (fun _ => .int .i64 ((m : Nat) : Int))) := Lib.hid (by rw [hW6]; exact Rd.one wo _ _)
            have hsw : w.heap.size ≤ W6.heap.size := HB6.out.size
            have hsz6 : W6.heap.size = wo.heap.size + 1 := by rw [hW6]; simp
            have hg2l := HM.out.lt
            have HW6 := Lib.hid hW6
            clear hbA hW6
            go_wp2_with (at_builtin; rw [← HW6.out]; refine wpList_app _ rfl (.tmp 59) (.tmp 61) 23 rfl EIh rfl HO6.out rfl (l := 1) rfl HR6.out (fun _ _ => rfl) (by unfold maxLen; omega) (by omega) hsw (k + 1) (k + 1) rfl rfl ?_; intro A3 c3 w7 hown hgr hat hb7; have HO7 := Lib.hid hown; have HB7 := Lib.hid (HB6.out.trans hb7); have HM7 : Hid (BRow w7 g2 i (fun j => wy R i (k + 1) f j)) := Lib.hid (HM6.out.of_block (hgr.block _ (by omega) (fun e => HNE2.out e.symm))); have HNE7 : Hid ((Value.slice A3 (k + 1) c3).ownBlock ≠ some g2) := Lib.hid (fun e => by rcases hat with h1 | h1; (exact HNE2.out (h1.symm.trans e)); (have h2 := h1.symm.trans e; injection h2 with h2; omega)); clear hown hgr hat hb7)
            go_roundw
            case rel => exact ⟨k + 1, g2, cm, c3, A3, by omega, by go_num, rfl, rfl, hwg2, HM7, Lib.hid (HO7.out.congr fun q hq => by
              by_cases e : q < k
              · rw [cat_lt e]
              · rw [cat_ge (by omega), show q = k by omega, HMC.out]; rfl), HNE7, HB7⟩
            case measure => simp [intOf]; omega
      · obtain rfl : k = n := by omega
        go_wp2_with fail
        go_ret2
        exact ⟨.inr ⟨HZ.out, f, rfl, hf, A', c', rfl, HO.out.rd⟩, HB.out⟩
  · obtain ⟨z, hzz⟩ : ∃ z, z = hwE n R 1 (fun _ => x) := ⟨_, rfl⟩
    rw [← hzz] at hz HWR
    have hzb : (z != 0) = true := by rw [bne_iff_ne]; exact hz
    have HZ := Lib.hid hzz
    have HZB := Lib.hid hzb
    clear hz hzz
    go_enter Try.func10, Try.ntmps10
    go_wp2_with fail
    rw [← HW1.out]
    refine HWR.out.mono ?_
    rintro e w2 ⟨rfl, hb2⟩
    have HB2 := Lib.hid (HB1.out.trans (hb2.mono HB1.out.size))
    clear hb2 HWR
    go_wp2_with fail
    go_ret2
    exact ⟨.inl ⟨z, HZ.out.symm, HZB.out, rfl⟩, HB2.out⟩
end Go.Proofs.Ytnkgdcaojfoanaa
