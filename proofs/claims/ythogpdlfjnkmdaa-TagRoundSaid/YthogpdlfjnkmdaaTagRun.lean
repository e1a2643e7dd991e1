/- The walk of tag.Run. Conditions: as each theorem states. -/
import Derived.Test.YthogpdlfjnkmdaaTagGo
namespace Go.Proofs.Ythogpdlfjnkmdaa
open Go.ChangeShapes Go.WideShapes Go.ChangeAt Go.RowKit
set_option linter.unusedVariables false
set_option maxRecDepth 100000 in
theorem tagRun_bad (S D : Int) (B : Option Addr) (nb cb : Nat) (R : Nat → SI) (X : SI) (n : Int) (w : World) (hB : Rd w B nb (fun i => (R i).val)) (hR : ∀ i, i < nb → Rd w (R i).A (R i).n (fun j => .int .i64 ((R i).f j)) ∧ (R i).n ≤ maxLen) (hX : Rd w X.A X.n (fun j => .int .i64 (X.f j))) (hn : nb ≤ maxLen) (hXn : X.n ≤ maxLen) (hE : tgE S D nb R X ≠ 0) :
    Calls Try.prog 5 #[.int .i64 S, .agg #[.int .i64 D, .slice B nb cb], .slice X.A X.n X.c, .int .i64 n] w fun e w' => e = .returned (.tuple #[.slice none 0 0, .int .i64 0, .int .i64 (tgE S D nb R X)]) ∧ Below w.heap.size w w' := by
  have hb1 := (Below.refl w.heap.size w).alloc (Nat.le_refl _) (.cells #[.int .i64 D, .slice B nb cb] 24)
  have HW := Lib.hid (tagWrong_any S D B nb cb R X _ (hB.below hb1) (fun i hi => ⟨(hR i hi).1.below hb1, (hR i hi).2⟩) (hX.below hb1) hn hXn)
  obtain ⟨E, hEE⟩ : ∃ E, E = tgE S D nb R X := ⟨_, rfl⟩
  rw [← hEE] at HW hE ⊢
  obtain ⟨XA, Xn, Xc, Xf⟩ := X
  have hq : (E != 0) = true := by rw [bne_iff_ne]; exact hE
  clear hB hR hX hE hEE
  go_enter Try.func5, Try.ntmps5
  go_wp2_with fail
  refine HW.out.mono ?_
  rintro e w' ⟨rfl, hb2⟩
  have HB2 := Lib.hid (hb1.trans (hb2.mono (by simp)))
  clear hb2 hb1 HW
  go_wp2_with fail
  (try simp only [Exit.inBlock, Exit.then])
  exact bodyPost_ret (v := .tuple #[.slice none 0 0, .int .i64 0, .int .i64 E]) (by simp [results, Try.results5, go_sem]) rfl ⟨rfl, HB2.out⟩
def TagRet (o : Option (List Int × Nat)) (w : World) (e : Ending) (w' : World) : Prop :=
  ((o = none ∧ e = .returned (.tuple #[.slice none 0 0, .int .i64 0, .int .i64 7])) ∨ ∃ (l : List Int) (k : Nat) (A : Option Addr) (c : Nat), o = some (l, k) ∧ e = .returned (.tuple #[.slice A l.length c, .int .i64 k, .int .i64 0]) ∧ Rd w' A l.length (lsV l) ∧ l.length ≤ c ∧ c ≤ maxLen) ∧ Below w.heap.size w w'
set_option maxRecDepth 100000 in
set_option maxHeartbeats 2000000 in
theorem tagRun_any (S : Int) (d : Nat) (B : Option Addr) (nb cb : Nat) (R : Nat → SI) (X : SI) (n : Nat) (w : World) (hB : Rd w B nb (fun i => (R i).val)) (hR : ∀ i, i < nb → Rd w (R i).A (R i).n (fun j => .int .i64 ((R i).f j)) ∧ (R i).n ≤ maxLen) (hX : Rd w X.A X.n (fun j => .int .i64 (X.f j))) (hn : nb ≤ maxLen) (hXn : X.n ≤ maxLen) (hE : tgE S d nb R X = 0) (hst : n ≤ 400) :
    Calls Try.prog 5 #[.int .i64 S, .agg #[.int .i64 d, .slice B nb cb], .slice X.A X.n X.c, .int .i64 n] w (TagRet (goT d R n X.list) w) := by
  have hb1 := (Below.refl w.heap.size w).alloc (Nat.le_refl _) (.cells #[.int .i64 d, .slice B nb cb] 24)
  have HW := Lib.hid (tagWrong_any S d B nb cb R X _ (hB.below hb1) (fun i hi => ⟨(hR i hi).1.below hb1, (hR i hi).2⟩) (hX.below hb1) hn hXn)
  obtain ⟨⟨s1, s2, d1, d2, x1⟩, hT, hL⟩ := tgE_zero hE
  rw [hE] at HW
  have HB := Lib.hid hB
  have HR := Lib.hid hR
  have HX := Lib.hid hX
  have HT := Lib.hid hT
  have HL := Lib.hid hL
  have hlen : X.list.length = X.n := X.list_len
  have hlv : ∀ i, i < X.n → lsV X.list i = .int .i64 (X.f i) := fun i hi => by unfold lsV; rw [X.list_at hi]
  have HLV := Lib.hid hlv
  obtain ⟨L, hLe⟩ : ∃ L, L = X.list := ⟨_, rfl⟩
  rw [← hLe] at HL HLV hlen ⊢
  obtain ⟨XA, Xn, Xc, Xf⟩ := X
  have hlen2 : L.length = Xn := hlen
  have x2 : Xn ≤ 40 := x1
  clear hB hR hX hE hT hL hlv hLe hlen x1
  go_enter Try.func5, Try.ntmps5
  go_wp2_with fail
  refine HW.out.mono ?_
  rintro e w1 ⟨rfl, hb2⟩
  clear HW
  have hb3 := hb1.trans (hb2.mono (by simp))
  have HB2 := Lib.hid hb2
  have HB3 := Lib.hid hb3
  clear hb2 hb3
  go_wp2_with fail
  refine (clone_any XA Xn Xc Xf w1 (HX.out.below HB3.out) (by omega)).mono ?_
  rintro e w2 ⟨A2, c2, rfl, hown2, hb4⟩
  have W1s : (w.alloc (.cells #[.int .i64 d, .slice B nb cb] 24)).heap.size = w.heap.size + 1 := by simp
  have hb5 : Below (w.alloc (.cells #[.int .i64 d, .slice B nb cb] 24)).heap.size (w.alloc (.cells #[.int .i64 d, .slice B nb cb] 24)) w2 := HB2.out.trans (hb4.mono HB2.out.size)
  have HB5 := Lib.hid hb5
  have HI0 : Hid (Rd w2 A2 L.length (lsV L)) := Lib.hid (by
    rw [hlen2]
    exact (hown2.congr (fun i hi => (HLV.out i hi).symm)).rd)
  have hle := hown2.le
  clear hown2 hb4 hb5
  go_wp2_with fail
  have hbw : Below w.heap.size w (w.alloc (.cells #[.int .i64 d, .slice B nb cb] 24)) := hb1
  have k0 : (w.alloc (.cells #[.int .i64 d, .slice B nb cb] 24)).cell? ⟨w.heap.size, 0, none⟩ = some (.int .i64 d) := by
    rw [cell_of_row _ w.heap.size 0 #[.int .i64 d, .slice B nb cb] 24 (0, 0) (heap_alloc_new w _)]; rfl
  have k1 : (w.alloc (.cells #[.int .i64 d, .slice B nb cb] 24)).cell? ⟨w.heap.size, 1, none⟩ = some (.slice B nb cb) := by
    rw [cell_of_row _ w.heap.size 1 #[.int .i64 d, .slice B nb cb] 24 (0, 0) (heap_alloc_new w _)]; rfl
  obtain ⟨W1, hW1⟩ : ∃ X, X = w.alloc (.cells #[.int .i64 d, .slice B nb cb] 24) := ⟨_, rfl⟩
  rw [← hW1] at k0 k1 hbw W1s HB5
  have K0 := Lib.hid k0
  have K1 := Lib.hid k1
  have HBW := Lib.hid hbw
  clear hb1 HB2 HB3 hW1 k0 k1 hbw
  subst hlen2
  go_loopw [2, 12] (fun s2 s12 wr => ∃ (i : Nat) (l : List Int) (A : Option Addr) (c : Nat), i ≤ n ∧ s12 = .int .i64 (i : Nat) ∧ s2 = .slice A l.length c ∧ Hid (Rd wr A l.length (lsV l)) ∧ l.length ≤ c ∧ c ≤ maxLen ∧ l.length ≤ 40 ∧ Hid (LetS S l) ∧ Hid (Below W1.heap.size W1 wr) ∧ Hid (goT d R n L = (goT d R (n - i) l).map (fun p => (p.1, p.2 + i)))) (fun _ s12 _ => n - (intOf s12).toNat)
  case atStart => exact ⟨0, L, A2, c2, Nat.zero_le _, rfl, rfl, HI0, hle.1, hle.2, x2, HL, HB5, Lib.hid (by rw [Nat.sub_zero]; cases goT d R n L <;> rfl)⟩
  case round =>
    clear HI0 HB5 HL hle x2
    obtain ⟨wo, rfl⟩ : ∃ wo : World, wo = wr := ⟨_, rfl⟩
    obtain ⟨i, l, A, c, hi, rfl, rfl, HRD, hlc, hcm, hl4, HLE, HBO, HGO⟩ := hrel
    have e0 : wo.cell? ⟨w.heap.size, 0, none⟩ = some (.int .i64 d) := by rw [HBO.out.cell (by show w.heap.size < _; omega)]; exact K0.out
    have e1 : wo.cell? ⟨w.heap.size, 1, none⟩ = some (.slice B nb cb) := by rw [HBO.out.cell (by show w.heap.size < _; omega)]; exact K1.out
    have HWO := Lib.hid (HBW.out.trans (HBO.out.mono (by omega)))
    obtain ⟨m, hm⟩ : ∃ m, m = l.length := ⟨_, rfl⟩
    by_cases hlt : i < n
    · by_cases hd : d ≤ l.length
      · have hh := HLE.out.head s1
        have hS := HT.out.1
        have TR0 := turn_any d B A nb cb c R l wo (HB.out.below HWO.out) (fun j hj => (HR.out j hj).1.below HWO.out) HRD.out hlc (by omega) hd (by omega) hcm hh.1 (by omega) (fun j hj => by have := (HT.out.2 j hj).1; omega)
        have HTU := Lib.hid TR0
        have HNG : Hid (goT d R (n - i) l = if 40 < (turnL d R l).length then none else (goT d R (n - (i + 1)) (turnL d R l)).map (fun p => (p.1, p.2 + 1))) := Lib.hid (by
          rw [show n - i = (n - (i + 1)) + 1 by omega, goT, if_pos hd])
        have HLT : Hid (LetS S (turnL d R l)) := Lib.hid (HLE.out.turn HT.out s1)
        obtain ⟨T, hTe⟩ : ∃ T, T = turnL d R l := ⟨_, rfl⟩
        rw [← hTe] at HTU HNG HLT
        have hdm : (d : Int) ≤ (m : Int) := by omega
        rw [← hm] at HTU
        have HM := Lib.hid hm
        rw [← hm]
        clear hm TR0 hTe hh hS hd
        go_wp2_with fail
        refine HTU.out.mono ?_
        rintro e w3 ⟨⟨A3, c3, rfl, hown3⟩, hb3⟩
        have hle3 := hown3.le
        have HR3 := Lib.hid hown3.rd
        have HB3 := Lib.hid (HBO.out.trans (hb3.mono HBO.out.size))
        clear hown3 hb3 HTU
        by_cases h40 : 40 < T.length
        · have HN : Hid (goT d R n L = none) := Lib.hid (by rw [HGO.out, HNG.out, if_pos h40]; rfl)
          have HWB := Lib.hid (HBW.out.trans (HB3.out.mono (by omega)))
          go_wp2_with fail
          (try simp only [Exit.inBlock, Exit.then])
          exact bodyPost_ret (v := .tuple #[.slice none 0 0, .int .i64 0, .int .i64 7]) (by simp [results, Try.results5, go_sem]) rfl ⟨.inl ⟨HN.out, rfl⟩, HWB.out⟩
        · have HN : Hid (goT d R n L = (goT d R (n - (i + 1)) T).map (fun p => (p.1, p.2 + (i + 1)))) := Lib.hid (by
            rw [HGO.out, HNG.out, if_neg h40]
            cases goT d R (n - (i + 1)) T with
            | none => rfl
            | some p => show some (p.1, p.2 + 1 + i) = some (p.1, p.2 + (i + 1)); rw [show p.2 + 1 + i = p.2 + (i + 1) by omega])
          go_wp2_with fail
          go_roundw
          case rel => exact ⟨i + 1, T, A3, c3, by omega, by go_num, rfl, HR3, hle3.1, hle3.2, by omega, HLT, HB3, HN⟩
          case measure => simp [intOf]; omega
      · have HN : Hid (goT d R n L = some (l, i)) := Lib.hid (by rw [HGO.out, goT_short hd]; show some (l, 0 + i) = _; rw [Nat.zero_add])
        have hdm : (m : Int) < (d : Int) := by omega
        have HM := Lib.hid hm
        rw [← hm]
        clear hm hd
        go_wp2_with fail
        (try simp only [Exit.inBlock, Exit.then])
        exact bodyPost_ret (v := .tuple #[.slice A m c, .int .i64 i, .int .i64 0]) (by simp [results, Try.results5, go_sem]) rfl ⟨.inr ⟨l, i, A, c, HN.out, by rw [HM.out], HRD.out, hlc, hcm⟩, HWO.out⟩
    · obtain rfl : i = n := by omega
      have HN : Hid (goT d R i L = some (l, i)) := Lib.hid (by rw [HGO.out, Nat.sub_self]; show some (l, 0 + i) = _; rw [Nat.zero_add])
      have HM := Lib.hid hm
      rw [← hm]
      clear hm
      go_wp2_with fail
      (try simp only [Exit.inBlock, Exit.then])
      exact bodyPost_ret (v := .tuple #[.slice A m c, .int .i64 i, .int .i64 0]) (by simp [results, Try.results5, go_sem]) rfl ⟨.inr ⟨l, i, A, c, HN.out, by rw [HM.out], HRD.out, hlc, hcm⟩, HWO.out⟩
end Go.Proofs.Ythogpdlfjnkmdaa
