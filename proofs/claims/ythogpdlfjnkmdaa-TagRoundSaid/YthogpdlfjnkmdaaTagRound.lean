/- The walk of TagRound. Conditions: the arguments read as told. -/
import Derived.Test.YthogpdlfjnkmdaaTagCheck
import Derived.Test.YthogpdlfjnkmdaaTagRnd
namespace Go.Proofs.Ythogpdlfjnkmdaa
open Go.ChangeShapes Go.WideShapes Go.ChangeAt Go.RowKit
set_option linter.unusedVariables false
theorem TagRet.no {o : Option (List Int × Nat)} {w w' : World} {e : Ending} (h : TagRet o w e w') (ho : o = none) : e = .returned (.tuple #[.slice none 0 0, .int .i64 0, .int .i64 7]) ∧ Below w.heap.size w w' := by
  obtain ⟨⟨_, h1⟩ | ⟨l, k, A, c, h1, _⟩, hb⟩ := h
  · exact ⟨h1, hb⟩
  · rw [ho] at h1; cases h1
theorem TagRet.yes {o : Option (List Int × Nat)} {w w' : World} {e : Ending} (h : TagRet o w e w') {l : List Int} {k : Nat} (ho : o = some (l, k)) : (∃ (A : Option Addr) (c : Nat), e = .returned (.tuple #[.slice A l.length c, .int .i64 k, .int .i64 0]) ∧ Rd w' A l.length (lsV l) ∧ l.length ≤ c ∧ c ≤ maxLen) ∧ Below w.heap.size w w' := by
  obtain ⟨⟨h0, _⟩ | ⟨l', k', A, c, h1, h2, h3, h4, h5⟩, hb⟩ := h
  · rw [ho] at h0; cases h0
  · rw [ho] at h1; cases h1; exact ⟨⟨A, c, h2, h3, h4, h5⟩, hb⟩
theorem tgE_next {S D : Int} {nb : Nat} {R : Nat → SI} {X Y : SI} (h : tgE S D nb R X = 0) (hn : Y.n ≤ 40) (hY : LetS S Y.list) : tgE S D nb R Y = 0 := by
  obtain ⟨⟨a, b, c, d, e⟩, ⟨t1, t2⟩, _⟩ := tgE_zero h
  have hl : anyB (lnG R) nb = false := anyB_no fun i hi => decide_eq_false (by have := (t2 i hi).1; omega)
  have ha : anyB (fun i => rowG S (R i)) nb = false := anyB_no fun i hi => anyB_no fun j hj => decide_eq_false (by have := (t2 i hi).2 j hj; omega)
  have hy : rowG S Y = false := anyB_no fun j hj => decide_eq_false (by
    have := hY (Y.f j) (by unfold SI.list; exact List.mem_map.mpr ⟨j, List.mem_range.mpr hj, rfl⟩)
    omega)
  unfold tgE
  rw [if_neg (by rw [hl]; intro h; rcases h with h | h | h | h | h | h <;> first | omega | cases h), if_neg (by omega), if_neg (by rw [ha, hy]; simp)]
theorem list_of (A : Option Addr) (c : Nat) (l : List Int) : (⟨A, l.length, c, fun i => l[i]?.getD 0⟩ : SI).list = l := by
  unfold SI.list
  refine List.ext_getElem (by simp) fun i h1 h2 => ?_
  rw [List.getElem_map, List.getElem_range]
  show l[i]?.getD 0 = l[i]
  rw [List.getElem?_eq_getElem h2]; rfl
set_option maxRecDepth 100000 in
set_option maxHeartbeats 4000000 in
theorem tagRound.walk (w : World) (S D : Int) (B : Option Addr) (nb cb : Nat) (R : Nat → SI) (A : Option Addr) (k c : Nat) (g : Nat → Int)
    (w0 : (Lit.int .i64 S).wf = true) (wD : (Lit.int .i64 D).wf = true) (hB : Rd w B nb (fun i => (R i).val)) (hG : ∀ i, (R i).good w) (l1 : nb ≤ cb) (m1 : cb ≤ maxLen)
    (hA : Rd w A k (fun i => .int .i64 (g i))) (wg : ∀ i, (Lit.int .i64 (g i)).wf = true) (lk : k ≤ c) (mk : c ≤ maxLen) (zk : c * 8 ≤ 140737488351232) :
    Calls Try.prog 4 #[.int .i64 S, .agg #[.int .i64 D, .slice B nb cb], .slice A k c] w fun e w' => e = .returned (.bool true) ∧ Below w.heap.size w w' := by
  have HKC := Lib.hid (⟨lk, mk⟩ : k ≤ c ∧ c ≤ maxLen)
  have HN := Lib.hid (show nb ≤ maxLen by omega)
  have HK := Lib.hid (show k ≤ maxLen by omega)
  have HB := Lib.hid hB
  have HR : Hid (∀ i, i < nb → Rd w (R i).A (R i).n (fun j => .int .i64 ((R i).f j)) ∧ (R i).n ≤ maxLen) := Lib.hid fun i hi => ⟨(hG i).1, by have := (hG i).2.2; omega⟩
  have HA := Lib.hid hA
  have k0 : (w.alloc (.cells #[.int .i64 D, .slice B nb cb] 24)).cell? ⟨w.heap.size, 0, none⟩ = some (.int .i64 D) := by
    rw [cell_of_row _ w.heap.size 0 #[.int .i64 D, .slice B nb cb] 24 (0, 0) (heap_alloc_new w _)]; rfl
  have k1 : (w.alloc (.cells #[.int .i64 D, .slice B nb cb] 24)).cell? ⟨w.heap.size, 1, none⟩ = some (.slice B nb cb) := by
    rw [cell_of_row _ w.heap.size 1 #[.int .i64 D, .slice B nb cb] 24 (0, 0) (heap_alloc_new w _)]; rfl
  have hb1 := (Below.refl w.heap.size w).alloc (Nat.le_refl _) (.cells #[.int .i64 D, .slice B nb cb] 24)
  have W1s : (w.alloc (.cells #[.int .i64 D, .slice B nb cb] 24)).heap.size = w.heap.size + 1 := by simp
  have HBX : Hid (∀ W, Below (w.alloc (.cells #[.int .i64 D, .slice B nb cb] 24)).heap.size (w.alloc (.cells #[.int .i64 D, .slice B nb cb] 24)) W → (W.cell? ⟨w.heap.size, 0, none⟩ = some (.int .i64 D) ∧ W.cell? ⟨w.heap.size, 1, none⟩ = some (.slice B nb cb)) ∧ Below w.heap.size w W) := Lib.hid fun W hW =>
    ⟨⟨by rw [hW.cell (by show w.heap.size < _; omega)]; exact k0, by rw [hW.cell (by show w.heap.size < _; omega)]; exact k1⟩, hb1.trans (hW.mono (by omega))⟩
  clear k0 k1 hB hG hA w0 wD wg lk mk zk l1 m1 W1s
  have HB1 := Lib.hid hb1
  clear hb1
  by_cases hE : tgE S D nb R ⟨A, k, c, g⟩ = 0
  · obtain ⟨⟨s1, s2, d1, d2, x1⟩, hT, hL⟩ := tgE_zero hE
    obtain ⟨d, rfl⟩ := Int.eq_ofNat_of_zero_le (show 0 ≤ D by omega)
    have HT := Lib.hid hT
    have HL := Lib.hid hL
    have HE := Lib.hid hE
    obtain ⟨L, hLe⟩ : ∃ L, L = (⟨A, k, c, g⟩ : SI).list := ⟨_, rfl⟩
    have HRUN : Hid (∀ (v : Int) (n : Nat) W, v = (n : Int) → n ≤ 400 → Below w.heap.size w W → Calls Try.prog 5 #[.int .i64 S, .agg #[.int .i64 d, .slice B nb cb], .slice A k c, .int .i64 v] W (TagRet (goT d R n L) W)) := Lib.hid fun v n W hv hn hW => by
      rw [hLe, hv]
      exact tagRun_any S d B nb cb R ⟨A, k, c, g⟩ n W (HB.out.below hW) (fun i hi => ⟨(HR.out i hi).1.below hW, (HR.out i hi).2⟩) (HA.out.below hW) HN.out HK.out HE.out hn
    have HRND : Hid (Calls Try.prog 8 #[.int .i64 S, .agg #[.int .i64 d, .slice B nb cb], .slice A k c] (w.alloc (.cells #[.int .i64 d, .slice B nb cb] 24)) (RndRet d R L (w.alloc (.cells #[.int .i64 d, .slice B nb cb] 24)))) := Lib.hid (by
      rw [hLe]
      exact tagRnd_any S d B nb cb R ⟨A, k, c, g⟩ _ (HB.out.below HB1.out) (fun i hi => ⟨(HR.out i hi).1.below HB1.out, (HR.out i hi).2⟩) (HA.out.below HB1.out) HN.out HK.out HKC.out HE.out)
    have HTG : Hid (∀ W, Below w.heap.size w W → Calls Try.prog 6 #[.int .i64 S, .agg #[.int .i64 d, .slice B nb cb], .slice A k c] W fun e w' => e = .returned (.bool true) ∧ Below W.heap.size W w') := Lib.hid fun W hW => by
      have := tagged_any S d B nb cb R ⟨A, k, c, g⟩ W (HB.out.below hW) (fun i hi => ⟨(HR.out i hi).1.below hW, (HR.out i hi).2⟩) (HA.out.below hW) HN.out HK.out
      rw [HE.out] at this
      exact this
    clear hT hL hE x1 hLe
    go_enter Try.func4, Try.ntmps4
    go_wp2_with fail
    refine HRND.out.mono ?_
    intro e w2 hr
    obtain ⟨hr, hb2⟩ := hr
    have HB2 := Lib.hid hb2
    clear hb2 HRND
    obtain ⟨⟨e0, e1⟩, hbw2⟩ := HBX.out _ HB2.out
    have HBW2 := Lib.hid hbw2
    clear hbw2
    rcases hr with ⟨x, hx, rfl⟩ | ⟨i, j, l, hji, hi4, hgi, hgj, rfl⟩
    · have hq : (x != 0) = true := by rw [bne_iff_ne]; exact hx
      go_wp2_with fail
      clear e0 e1
      refine (HTG.out _ HBW2.out).mono ?_
      rintro e w4 ⟨rfl, hb4⟩
      have HBW4 := Lib.hid (HBW2.out.trans (hb4.mono HBW2.out.size))
      clear hb4
      go_wp2_with fail
      go_ret
      exact ⟨rfl, HBW4.out⟩
    · obtain ⟨x, hx⟩ : ∃ x, x = (i : Int) - (j : Int) := ⟨_, rfl⟩
      have HI := Lib.hid hgi
      have HJ := Lib.hid hgj
      rw [← hx]
      have hx1 : 1 ≤ x := by omega
      have hx2 : x ≤ (i : Int) := by omega
      have HX := Lib.hid hx
      clear hgi hgj hx
      go_wp2_with fail
      clear e0 e1
      refine (HTG.out _ HBW2.out).mono ?_
      rintro e w3 ⟨rfl, hb3⟩
      have HB3 := Lib.hid (HB2.out.trans (hb3.mono HB2.out.size))
      clear hb3
      obtain ⟨⟨e0, e1⟩, hbw3⟩ := HBX.out _ HB3.out
      have HBW3 := Lib.hid hbw3
      clear hbw3
      go_wp2_with fail
      clear e0 e1
      refine (HRUN.out _ i _ rfl hi4 HBW3.out).mono ?_
      intro e w4 hr
      obtain ⟨⟨A2, c2, rfl, hr2, hc2, hm2⟩, hb4⟩ := hr.yes HI.out
      have HR2 := Lib.hid hr2
      have HB4 := Lib.hid (HB3.out.trans (hb4.mono HB3.out.size))
      clear hr hb4 hr2
      obtain ⟨⟨e0, e1⟩, hbw4⟩ := HBX.out _ HB4.out
      have HBW4 := Lib.hid hbw4
      clear hbw4
      go_wp2_with fail
      clear e0 e1
      refine (HRUN.out _ j _ (by have := HX.out; omega) (by omega) HBW4.out).mono ?_
      intro e w5 hr
      obtain ⟨⟨A5, c5, rfl, hr5, hc5, hm5⟩, hb5⟩ := hr.yes HJ.out
      have HR5 := Lib.hid hr5
      have HBW5 := Lib.hid (HBW4.out.trans (hb5.mono HBW4.out.size))
      have HR25 := Lib.hid (HR2.out.below hb5)
      clear hr hb5 hr5
      go_wp2_with fail
      refine (ints_any A2 A5 l.length c2 l.length c5 (fun i => l[i]?.getD 0) (fun i => l[i]?.getD 0) _ HR25.out HR5.out (by unfold maxLen at *; omega) (by unfold maxLen at *; omega)).mono ?_
      rintro e w6 ⟨rfl, hb6⟩
      have HBW6 := Lib.hid (HBW5.out.trans (hb6.mono HBW5.out.size))
      clear hb6
      rw [show sameI l.length l.length (fun i => l[i]?.getD 0) (fun i => l[i]?.getD 0) = true from sameI_iff.2 ⟨rfl, fun _ _ => rfl⟩]
      go_wp2_with fail
      go_ret
      exact ⟨rfl, HBW6.out⟩
  · have HBAD : Hid (∀ W, Below w.heap.size w W → Calls Try.prog 8 #[.int .i64 S, .agg #[.int .i64 D, .slice B nb cb], .slice A k c] W fun e w' => e = .returned (.tuple #[.int .i64 0, .int .i64 0, .int .i64 (tgE S D nb R ⟨A, k, c, g⟩)]) ∧ Below W.heap.size W w') := Lib.hid fun W hW =>
      tagRnd_bad S D B nb cb R ⟨A, k, c, g⟩ W (HB.out.below hW) (fun i hi => ⟨(HR.out i hi).1.below hW, (HR.out i hi).2⟩) (HA.out.below hW) HN.out HK.out hE
    have HTG : Hid (∀ W, Below w.heap.size w W → Calls Try.prog 6 #[.int .i64 S, .agg #[.int .i64 D, .slice B nb cb], .slice A k c] W fun e w' => e = .returned (.bool false) ∧ Below W.heap.size W w') := Lib.hid fun W hW => by
      have := tagged_any S D B nb cb R ⟨A, k, c, g⟩ W (HB.out.below hW) (fun i hi => ⟨(HR.out i hi).1.below hW, (HR.out i hi).2⟩) (HA.out.below hW) HN.out HK.out
      rw [show (tgE S D nb R ⟨A, k, c, g⟩ == 0) = false from by rw [beq_eq_false_iff_ne]; exact hE] at this
      exact this
    obtain ⟨E, hEe⟩ : ∃ E, E = tgE S D nb R ⟨A, k, c, g⟩ := ⟨_, rfl⟩
    rw [← hEe] at HBAD hE
    have hq : (E != 0) = true := by rw [bne_iff_ne]; exact hE
    clear hEe
    go_enter Try.func4, Try.ntmps4
    go_wp2_with fail
    refine (HBAD.out _ HB1.out).mono ?_
    rintro e w3 ⟨rfl, hb3⟩
    have HB3 := Lib.hid hb3
    clear hb3
    obtain ⟨⟨e0, e1⟩, hbw3⟩ := HBX.out _ HB3.out
    have HBW3 := Lib.hid hbw3
    clear hbw3
    go_wp2_with fail
    clear e0 e1
    refine (HTG.out _ HBW3.out).mono ?_
    rintro e w4 ⟨rfl, hb4⟩
    have HBW4 := Lib.hid (HBW3.out.trans (hb4.mono HBW3.out.size))
    clear hb4
    go_wp2_with fail
    go_ret
    exact ⟨rfl, HBW4.out⟩
end Go.Proofs.Ythogpdlfjnkmdaa
