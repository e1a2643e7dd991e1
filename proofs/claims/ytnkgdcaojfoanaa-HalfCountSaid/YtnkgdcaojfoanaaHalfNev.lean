/- half.Never: all to which one can come. Condition: the rows read as told. -/
import Derived.Test.YtnkgdcaojfoanaaHalfCnt
namespace Go.Proofs.Ytnkgdcaojfoanaa
open Go.ChangeShapes Go.WideShapes Go.ChangeAt Go.RowKit
set_option linter.unusedVariables false
set_option linter.unusedSimpArgs false
/-- the list holds just those below i to which one can come -/
def LstP (R : Nat → SI) (n f i m : Nat) (L : Nat → Nat) : Prop := m = cntN (fun j => wy R n n f j) i ∧ ∀ x : Int, hasI (fun q => ((L q : Nat) : Int)) m x = true ↔ ∃ j, j < i ∧ (j : Int) = x ∧ wy R n n f j = true
theorem LstP.skip {R : Nat → SI} {n f i m : Nat} {L : Nat → Nat} (h : LstP R n f i m L) (hw : wy R n n f i = false) : LstP R n f (i + 1) m L := by
  refine ⟨by rw [h.1]; simp only [cntN]; rw [hw]; rfl, fun x => (h.2 x).trans ⟨?_, ?_⟩⟩
  · rintro ⟨j, hj, e, hy⟩; exact ⟨j, by omega, e, hy⟩
  · rintro ⟨j, hj, e, hy⟩
    by_cases ej : j = i
    · rw [ej, hw] at hy; cases hy
    · exact ⟨j, by omega, e, hy⟩
theorem LstP.put {R : Nat → SI} {n f i m : Nat} {L : Nat → Nat} (h : LstP R n f i m L) (hw : wy R n n f i = true) : LstP R n f (i + 1) (m + 1) (fun q => if q < m then L q else i) := by
  refine ⟨by rw [h.1]; simp only [cntN]; rw [hw]; rfl, fun x => ?_⟩
  rw [hasI_iff]
  constructor
  · rintro ⟨q, hq, e⟩
    dsimp only at e
    by_cases hqm : q < m
    · rw [if_pos hqm] at e
      obtain ⟨j, hj, e', hy⟩ := (h.2 x).1 (hasI_iff.2 ⟨q, hqm, e⟩)
      exact ⟨j, by omega, e', hy⟩
    · rw [if_neg hqm] at e
      exact ⟨i, by omega, e, hw⟩
  · rintro ⟨j, hj, e, hy⟩
    by_cases ej : j = i
    · exact ⟨m, by omega, by dsimp only; rw [if_neg (by omega), ← ej]; exact e⟩
    · obtain ⟨q, hq, e'⟩ := hasI_iff.1 ((h.2 x).2 ⟨j, by omega, e, hy⟩)
      exact ⟨q, by omega, by dsimp only; rw [if_pos hq]; exact e'⟩
def NeverP (R : Nat → SI) (n : Nat) (x y : Int) (e : Ending) (w' : World) : Prop :=
  (∃ z : Int, hwE n R 2 (ftD x y) = z ∧ (z != 0) = true ∧ e = .returned (.tuple #[.bool false, .slice none 0 0, .int .i64 z])) ∨
  (hwE n R 2 (ftD x y) = 0 ∧ ∃ f t : Nat, x = f ∧ y = t ∧ f < n ∧ t < n ∧ ∃ (m : Nat) (A' : Option Addr) (c' : Nat) (L : Nat → Nat), e = .returned (.tuple #[.bool (!(hasI (fun q => ((L q : Nat) : Int)) m (t : Int))), .slice A' m c', .int .i64 0]) ∧ Rd w' A' m (fun q => .int .i64 ((L q : Nat) : Int)) ∧ LstP R n f n m L)
set_option maxRecDepth 100000 in
set_option maxHeartbeats 2000000 in
theorem never_any (A : Option Addr) (n c : Nat) (R : Nat → SI) (x y : Int) (w : World) (h : Gr w A n R) (hn : n ≤ maxLen) :
    Calls Try.prog 11 #[.slice A n c, .int .i64 x, .int .i64 y] w fun e w' => NeverP R n x y e w' ∧ Below w.heap.size w w' := by
  have H := Lib.hid h
  have HN := Lib.hid hn
  clear h hn
  obtain ⟨W1, hW1⟩ : ∃ W, W = w.alloc (.cells #[.int .i64 x, .int .i64 y] 3) := ⟨_, rfl⟩
  have hb1 : Below w.heap.size w W1 := by rw [hW1]; exact (Below.refl _ _).alloc (Nat.le_refl _) _
  have hr1 : Rd W1 (some ⟨w.heap.size, 0, none⟩) 2 (fun i => .int .i64 (ftD x y i)) := by rw [hW1]; exact two_ints w x y _
  have hwr := halfWrong_any A n c R (some ⟨w.heap.size, 0, none⟩) 2 2 (ftD x y) W1 (H.out.below hb1) hr1 HN.out (by omega)
  have HB1 := Lib.hid hb1
  have HW1 := Lib.hid hW1
  have HWR := Lib.hid hwr
  clear hb1 hr1 hW1 hwr
  by_cases hz : hwE n R 2 (ftD x y) = 0
  · obtain ⟨⟨n1, n8⟩, h4, hin, hD⟩ := hwE_zero hz
    have d0 := hD 0 (by omega)
    have d1 := hD 1 (by omega)
    obtain ⟨f, rfl⟩ : ∃ f : Nat, x = (f : Int) := Int.eq_ofNat_of_zero_le d0.1
    obtain ⟨t, rfl⟩ : ∃ t : Nat, y = (t : Int) := Int.eq_ofNat_of_zero_le d1.1
    have hf : f < n := by have := d0.2; unfold ftD at this; rw [if_pos rfl] at this; omega
    have ht : t < n := by have := d1.2; unfold ftD at this; rw [if_neg (by omega)] at this; omega
    have HZ := Lib.hid hz
    have H4 := Lib.hid h4
    have HIN := Lib.hid hin
    clear hz h4 hin hD d0 d1
    go_enter Try.func11, Try.ntmps11
    go_wp2_with fail
    rw [← HW1.out]
    refine HWR.out.mono ?_
    rintro e w2 ⟨rfl, hb2⟩
    rw [HZ.out]
    have HB2 := Lib.hid (HB1.out.trans (hb2.mono HB1.out.size))
    clear hb2 HWR
    go_wp2_with fail
    go_loopw [10, 22] (fun s10 s22 wr => ∃ (i m c' : Nat) (A' : Option Addr) (L : Nat → Nat), i ≤ n ∧ s22 = .int .i64 (i : Nat) ∧ s10 = .slice A' m c' ∧ m ≤ i ∧ Hid (LstP R n f i m L) ∧ Hid (Own wr w.heap.size 3 1 A' m c' m (fun q => .int .i64 ((L q : Nat) : Int))) ∧ Hid (Below w.heap.size w wr)) (fun _ s22 _ => n - (intOf s22).toNat)
    case atStart => exact ⟨0, 0, 0, none, fun _ => 0, Nat.zero_le _, rfl, rfl, Nat.le_refl _, Lib.hid ⟨rfl, fun x => ⟨fun h => by obtain ⟨q, hq, _⟩ := hasI_iff.1 h; omega, fun ⟨j, hj, _⟩ => by omega⟩⟩, Lib.hid (Own.nil _ _ _ _ _), HB2⟩
    case round =>
      clear HB2
      obtain ⟨wo, rfl⟩ : ∃ wo : World, wo = wr := ⟨_, rfl⟩
      obtain ⟨i, m, c', A', L, hi, rfl, rfl, hmi, HL, HO, HB⟩ := hrel
      by_cases hlt : i < n
      · go_wp2_with fail
        refine (far_any A n c R i wo (H.out.below HB.out) n1 n8 hlt HIN.out H4.out).mono ?_
        rintro e w3 ⟨⟨g, out, rfl, hg, hrow, hok⟩, hb3⟩
        have hle := hok.le (s := n) hf hlt
        have hng := hok.neg (i := f) hf
        have k1 := hrow.cell (i := f) hf
        obtain ⟨v, hv⟩ : ∃ v, v = out f := ⟨_, rfl⟩
        rw [← hv] at k1 hle hng
        have HO3 := Lib.hid (HO.out.below hb3)
        have HB3 := Lib.hid (HB.out.trans (hb3.mono HB.out.size))
        have HLE := Lib.hid hle
        have HNG := Lib.hid hng
        have HGET : Hid (0 ≤ v → v ≤ (n : Int)) := Lib.hid (fun h0 => by
          obtain ⟨d, hd, e, _⟩ := hok.get hf (by rw [← hv]; exact h0)
          rw [hv, e]; omega)
        clear hrow hok hg hv hle hng hb3 HO HB
        by_cases hneg : v < 0
        · have hd : decide (0 ≤ v) = false := decide_eq_false (by omega)
          have HW : Hid (wy R n n f i = false) := Lib.hid (HNG.out hneg)
          go_wp2_with fail
          go_roundw
          case rel => exact ⟨i + 1, m, c', A', L, by omega, by go_num, rfl, by omega, Lib.hid (HL.out.skip HW.out), HO3, HB3⟩
          case measure => simp [intOf]; omega
        · have hd : decide (0 ≤ v) = true := decide_eq_true (by omega)
          have HW : Hid (wy R n n f i = true) := Lib.hid (HLE.out.2 ⟨by omega, HGET.out (by omega)⟩)
          obtain ⟨W6, hW6⟩ : ∃ W, W = w3.alloc (.cells #[.int .i64 (i : Nat)] 3) := ⟨_, rfl⟩
          have hbA : Below w3.heap.size w3 W6 := by rw [hW6]; exact (Below.refl _ _).alloc (Nat.le_refl _) _
          have HO6 := Lib.hid (HO3.out.below hbA)
          have HB6 := Lib.hid (HB3.out.trans (hbA.mono HB3.out.size))
          have HR6 : Hid (Rd W6 (some ⟨w3.heap.size, 0, none⟩) 1 (fun _ => .int .i64 ((i : Nat) : Int))) := Lib.hid (by rw [hW6]; exact Rd.one w3 _ _)
          have hsw : w.heap.size ≤ W6.heap.size := HB6.out.size
          have HW6 := Lib.hid hW6
          clear hbA hW6
          go_wp2_with (at_builtin; rw [← HW6.out]; refine wpList_app _ rfl (.tmp 32) (.tmp 34) 23 rfl EIh rfl HO6.out rfl (l := 1) rfl HR6.out (fun _ _ => rfl) (by unfold maxLen; omega) (by omega) hsw (m + 1) (m + 1) rfl rfl ?_; intro A3 c3 w7 hown hgr hat hb7; have HO7 := Lib.hid hown; have HB7 := Lib.hid (HB6.out.trans hb7); clear hown hgr hat hb7)
          go_roundw
          case rel => exact ⟨i + 1, m + 1, c3, A3, fun q => if q < m then L q else i, by omega, by go_num, rfl, by omega, Lib.hid (HL.out.put HW.out), Lib.hid (HO7.out.congr fun q hq => by
            dsimp only
            by_cases e : q < m
            · rw [cat_lt e, if_pos e]
            · rw [cat_ge (by omega), if_neg e]), HB7⟩
          case measure => simp [intOf]; omega
      · obtain rfl : i = n := by omega
        have HH := Lib.hid (hasI_any A' m c' (fun q => ((L q : Nat) : Int)) (t : Int) wo HO.out.rd (by unfold maxLen; omega))
        obtain ⟨bv, hbv⟩ : ∃ b, b = hasI (fun q => ((L q : Nat) : Int)) m (t : Int) := ⟨_, rfl⟩
        rw [← hbv] at HH
        have HBV := Lib.hid hbv
        clear hbv
        go_wp2_with fail
        refine HH.out.mono ?_
        rintro e w4 ⟨rfl, rfl⟩
        go_wp2_with fail
        go_ret3
        exact ⟨.inr ⟨HZ.out, f, t, rfl, rfl, hf, ht, m, A', c', L, by rw [← HBV.out]; rfl, HO.out.rd, HL.out⟩, HB.out⟩
  · obtain ⟨z, hzz⟩ : ∃ z, z = hwE n R 2 (ftD x y) := ⟨_, rfl⟩
    rw [← hzz] at hz HWR
    have hzb : (z != 0) = true := by rw [bne_iff_ne]; exact hz
    have HZ := Lib.hid hzz
    have HZB := Lib.hid hzb
    clear hz hzz
    go_enter Try.func11, Try.ntmps11
    go_wp2_with fail
    rw [← HW1.out]
    refine HWR.out.mono ?_
    rintro e w2 ⟨rfl, hb2⟩
    have HB2 := Lib.hid (HB1.out.trans (hb2.mono HB1.out.size))
    clear hb2 HWR
    go_wp2_with fail
    go_ret3
    exact ⟨.inl ⟨z, HZ.out.symm, HZB.out, rfl⟩, HB2.out⟩
end Go.Proofs.Ytnkgdcaojfoanaa
