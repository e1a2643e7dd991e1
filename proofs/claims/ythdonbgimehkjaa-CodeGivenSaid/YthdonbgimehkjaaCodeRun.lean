/- The walk of CodeRun. Conditions: the arguments read as told. -/
import Derived.Test.YthdonbgimehkjaaCodeBack
import Derived.Test.YthdonbgimehkjaaCountRun
namespace Go.Proofs.Ythdonbgimehkjaa
open Go.ChangeShapes Go.WideShapes Go.ChangeAt Go.RowKit
set_option linter.unusedVariables false
def cdE (cs : Int) (M : Nat) (g : Nat → Int) (m : Nat) (t : Int) (f : Nat → Int) : Int := if ordE cs M g = 0 then crE cs (M / 4) g m t f else ordE cs M g
/-- what code.Run tells -/
def CRes (cs : Int) (M : Nat) (g : Nat → Int) (m : Nat) (t : Int) (f : Nat → Int) (w : World) (e : Ending) (w' : World) : Prop :=
  Below w.heap.size w w' ∧ ((cdE cs M g m t f ≠ 0 ∧ e = .returned (.tuple #[.slice none 0 0, .int .i64 (cdE cs M g m t f)])) ∨
    (cdE cs M g m t f = 0 ∧ ∃ A c', e = .returned (.tuple #[.slice A m c', .int .i64 0]) ∧ Rd w' A m (fun i => .int .i64 ((runS g (M / 4) f 0 t.toNat).1 i)) ∧ m ≤ c'))
set_option maxRecDepth 100000 in
theorem codeRun_any (cs t : Int) (A : Option Addr) (M c : Nat) (g : Nat → Int) (B : Option Addr) (m d : Nat) (f : Nat → Int) (w : World) (hA : Rd w A M (fun i => .int .i64 (g i))) (hMc : M ≤ c) (hc : c ≤ maxLen) (hz : M * 8 ≤ 140737488351232) (hB : Rd w B m (fun q => .int .i64 (f q))) (hm : m ≤ maxLen) :
    Calls Try.prog 16 #[.int .i64 cs, .slice A M c, .slice B m d, .int .i64 t] w (CRes cs M g m t f w) := by
  have HORD := Lib.hid (orders_any cs A M c g w hA hMc hc hz)
  have HBR := Lib.hid hB
  have HM := Lib.hid hm
  have HC := Lib.hid hc
  unfold maxLen at hc hm
  clear hA hB
  go_enter Try.func16, Try.ntmps16
  go_wp2_with fail
  refine HORD.out.mono ?_
  intro e w1 hr
  obtain ⟨hb1, hr⟩ := hr
  have HB1 := Lib.hid hb1
  rcases hr with ⟨hne, rfl⟩ | ⟨hz0, A1, c1, rfl, hR1, hl1, hm1⟩
  · have HE : Hid (cdE cs M g m t f = ordE cs M g) := Lib.hid (if_neg hne)
    obtain ⟨E, hE⟩ : ∃ x, x = ordE cs M g := ⟨_, rfl⟩
    rw [← hE] at hne HE
    rw [← hE]
    have q0 : (E != 0) = true := by rw [bne_iff_ne]; exact hne
    have HNE := Lib.hid hne
    clear hne hE hb1 HORD
    go_wp2_with fail
    go_ret2
    exact ⟨HB1.out, .inl ⟨by rw [HE.out]; exact HNE.out, by rw [HE.out]; rfl⟩⟩
  · have HE : Hid (cdE cs M g m t f = crE cs (M / 4) g m t f) := Lib.hid (if_pos hz0)
    obtain ⟨k, hk⟩ : ∃ x, x = M / 4 := ⟨_, rfl⟩
    rw [← hk] at HE hR1 hl1
    rw [← hk]
    have hkm : k ≤ maxLen := by unfold maxLen; omega
    have HRUN := Lib.hid (run_any cs t A1 B k c1 m d g f w1 hR1 (HBR.out.below hb1) hkm HM.out)
    have HK := Lib.hid hk
    clear hz0 hk hb1 hR1 HORD
    go_wp2_with fail
    refine HRUN.out.mono ?_
    intro e w2 hr
    obtain ⟨hb2, hr⟩ := hr
    have HB2 := Lib.hid (HB1.out.trans (hb2.mono HB1.out.size))
    clear hb2 HRUN
    rcases hr with ⟨hne, rfl⟩ | ⟨hz1, A2, c2, rfl, hR2, hl2⟩
    · obtain ⟨E, hE⟩ : ∃ x, x = crE cs k g m t f := ⟨_, rfl⟩
      rw [← hE] at hne HE
      rw [← hE]
      have HNE := Lib.hid hne
      clear hne hE
      go_wp2_with fail
      go_ret2
      exact ⟨HB2.out, .inl ⟨by rw [HE.out]; exact HNE.out, by rw [HE.out]; rfl⟩⟩
    · have HZ := Lib.hid hz1
      have HR2 := Lib.hid hR2
      clear hz1 hR2
      go_wp2_with fail
      go_ret2
      exact ⟨HB2.out, .inr ⟨by rw [HE.out]; exact HZ.out, A2, c2, rfl, by rw [← HK.out]; exact HR2.out, hl2⟩⟩
/-- the zeros of 'one more' are of no matter -/
theorem runS_dg (F : Nat → Int) (n : Nat) (f : Nat → Int) (a : Int) : ∀ k, runS (dgF F) n f a k = runS F n f a k
  | 0 => rfl
  | k + 1 => by
    show st1 (dgF F) n (runS (dgF F) n f a k) = st1 F n (runS F n f a k)
    rw [runS_dg F n f a k]
    unfold st1
    split
    · obtain ⟨d0, d1, d2, d3⟩ := dgF_at F (runS F n f a k).2.toNat
      rw [d0, d1, d2, d3]
      unfold tN
      by_cases h : F (4 * (runS F n f a k).2.toNat) = 1
      · simp only [h, if_true]
      · simp only [h, if_false]
    · rfl
def oneF (q : Nat) : Int := if q = 0 ∨ q = 2 then 1 else 0
theorem rdOne (W : World) (e : TypeId) : Rd (W.alloc (.cells #[.int .i64 1, .int .i64 0, .int .i64 1, .int .i64 0] e)) (some ⟨W.heap.size, 0, none⟩) (1 * 4) (fun q => .int .i64 (oneF q)) :=
  (rd4 W rfl (.int .i64 1) (.int .i64 0) (.int .i64 1) (.int .i64 0) e).congr fun i hi => by
    have : i = 0 ∨ i = 1 ∨ i = 2 ∨ i = 3 := by omega
    rcases this with rfl | rfl | rfl | rfl <;> rfl
theorem ckOne : ckO 1 1 oneF = 0 := by decide
set_option maxRecDepth 100000 in
set_option maxHeartbeats 2000000 in
theorem codeRun.walk (w : World) (a0 : Int) (A1 : Option Addr) (n c1 : Nat) (F : Nat → Int) (A2 : Option Addr) (m c2 : Nat) (f : Nat → Int) (t : Int)
    (w0 : (Lit.int .i64 a0).wf = true) (r1 : Rd w A1 (n * 4) (fun q => .int .i64 (F q))) (wf1 : ∀ q, (Lit.int .i64 (F q)).wf = true) (l1 : n ≤ c1) (m1 : c1 ≤ maxLen) (z1 : c1 * 32 ≤ 140737488351232)
    (r2 : Rd w A2 m (fun q => .int .i64 (f q))) (wf2 : ∀ q, (Lit.int .i64 (f q)).wf = true) (l2 : m ≤ c2) (m2 : c2 ≤ maxLen) (z2 : c2 * 8 ≤ 140737488351232) (w3 : (Lit.int .i64 t).wf = true) :
    Calls Try.prog 5 #[.int .i64 a0, .slice A1 n c1, .slice A2 m c2, .int .i64 t] w fun e w' => e = .returned (.bool true) ∧ Below w.heap.size w w' := by
  have hnm : n ≤ maxLen := by omega
  have hmm : m ≤ maxLen := by omega
  have HL := Lib.hid r1
  have HF := Lib.hid r2
  have HNM := Lib.hid hnm
  have HMM := Lib.hid hmm
  have hb0 := (Below.refl w.heap.size w).alloc (Nat.le_refl _) (.cells #[.int .i64 1, .int .i64 0, .int .i64 1, .int .i64 0] 30)
  have HB0 := Lib.hid hb0
  have HONE := Lib.hid (number_any 1 (some ⟨w.heap.size, 0, none⟩) 1 1 oneF _ (rdOne w 30) (by decide))
  clear r1 r2 w0 wf1 wf2 w3 hb0 hnm hmm
  go_enter Try.func5, Try.ntmps5
  go_wp2_with fail
  refine HONE.out.mono ?_
  intro e w1 hr
  obtain ⟨hb1, hr⟩ := hr
  have HB1 := Lib.hid (HB0.out.trans (hb1.mono HB0.out.size))
  clear HONE hb1
  rcases hr with ⟨hne, rfl⟩ | ⟨_, A3, c3, rfl, -, -, -⟩
  · exact absurd ckOne hne
  have hn4 : (((4 * 1 : Nat) : Int)) = 4 := rfl
  go_wp2_with fail
  have hnum := number_any a0 A1 n c1 F w1 (HL.out.below HB1.out) HNM.out
  refine hnum.mono ?_
  clear hnum
  intro e w2 hr
  obtain ⟨hb2, hr⟩ := hr
  have HB2 := Lib.hid (HB1.out.trans (hb2.mono HB1.out.size))
  clear hb2
  rcases hr with ⟨hne, rfl⟩ | ⟨hz, A4, c4, rfl, hR4, hl4, hm4⟩
  · have HCR : Hid (crE a0 n F m t f = ckO a0 n F) := Lib.hid (if_neg hne)
    obtain ⟨E, hE⟩ : ∃ x, x = ckO a0 n F := ⟨_, rfl⟩
    rw [← hE] at hne HCR
    rw [← hE]
    have q0 : (E != 0) = true := by rw [bne_iff_ne]; exact hne
    have HNE := Lib.hid hne
    clear hne hE
    go_wp2_with fail
    refine (run_any a0 t A1 A2 n c1 m c2 F f w2 (HL.out.below HB2.out) (HF.out.below HB2.out) HNM.out HMM.out).mono ?_
    intro e w5 hr
    obtain ⟨hb5, hr⟩ := hr
    have HB5 := Lib.hid (HB2.out.trans (hb5.mono HB2.out.size))
    clear hb5
    rcases hr with ⟨_, rfl⟩ | ⟨hz, _⟩
    · rw [HCR.out]
      go_wp2_with fail
      go_ret
      exact ⟨rfl, HB5.out⟩
    · exact absurd (HCR.out ▸ hz) HNE.out
  · have HZ := Lib.hid hz
    obtain ⟨hn12, -⟩ := ckO_n hz
    obtain ⟨D, hD⟩ : ∃ x, x = 4 * n := ⟨_, rfl⟩
    rw [← hD] at hR4 hl4
    rw [← hD]
    have HD := Lib.hid hD
    have hD48 : D ≤ 48 := by omega
    have HR4 := Lib.hid hR4
    clear hz hD hR4
    go_wp2_with fail
    refine (run_any a0 t A1 A2 n c1 m c2 F f w2 (HL.out.below HB2.out) (HF.out.below HB2.out) HNM.out HMM.out).mono ?_
    intro e w5 hr
    obtain ⟨hb5, hr⟩ := hr
    have HB5 := Lib.hid (HB2.out.trans (hb5.mono HB2.out.size))
    have HCE : Hid (cdE a0 D (dgF F) m t f = crE a0 n F m t f) := Lib.hid (by
      rw [HD.out]
      unfold cdE
      rw [if_pos (ordE_dg HZ.out), show 4 * n / 4 = n by omega]
      unfold crE
      rw [ckO_dg])
    have HD4 : Hid (D / 4 = n) := Lib.hid (by have := HD.out; omega)
    have HRUN := Lib.hid (codeRun_any a0 t A4 D c4 (dgF F) A2 m c2 f w5 (HR4.out.below hb5) hl4 hm4 (by omega) (HF.out.below HB5.out) HMM.out)
    clear hb5
    rcases hr with ⟨hne, rfl⟩ | ⟨hz1, A5, c5, rfl, hR5, hl5⟩
    · obtain ⟨E, hE⟩ : ∃ x, x = crE a0 n F m t f := ⟨_, rfl⟩
      rw [← hE] at hne HCE
      rw [← hE]
      have HNE := Lib.hid hne
      clear hne hE
      go_wp2_with fail
      refine HRUN.out.mono ?_
      intro e w6 hr
      obtain ⟨hb6, hr⟩ := hr
      have HB6 := Lib.hid (HB5.out.trans (hb6.mono HB5.out.size))
      clear hb6 HRUN
      rcases hr with ⟨_, rfl⟩ | ⟨hz, _⟩
      · rw [HCE.out]
        have hq : (E == E) = true := beq_self_eq_true E
        go_wp2_with fail
        refine (ints_any none none 0 0 0 0 (fun _ => 0) (fun _ => 0) _ (Rd.zero _ _ _) (Rd.zero _ _ _) (by decide) (by decide)).mono ?_
        rintro e w7 ⟨rfl, hb7⟩
        have HB7 := Lib.hid (HB6.out.trans (hb7.mono HB6.out.size))
        clear hb7
        rw [show sameI 0 0 (fun _ => 0) (fun _ => 0) = true from sameI_iff.2 ⟨rfl, fun _ _ => rfl⟩]
        go_wp2_with fail
        go_ret
        exact ⟨rfl, HB7.out⟩
      · exact absurd (HCE.out ▸ hz) HNE.out
    · have HZ1 := Lib.hid hz1
      have HR5 := Lib.hid hR5
      clear hz1 hR5
      go_wp2_with fail
      refine HRUN.out.mono ?_
      intro e w6 hr
      obtain ⟨hb6, hr⟩ := hr
      have HB6 := Lib.hid (HB5.out.trans (hb6.mono HB5.out.size))
      have HR56 := Lib.hid (HR5.out.below hb6)
      clear hb6 HRUN
      rcases hr with ⟨hne, _⟩ | ⟨_, A6, c6, rfl, hR6, hl6⟩
      · exact absurd (HCE.out.trans HZ1.out) hne
      · rw [HD4.out, runS_dg] at hR6
        have HR6 := Lib.hid hR6
        clear hR6
        go_wp2_with fail
        refine (ints_any A6 A5 m c6 m c5 _ _ _ HR6.out HR56.out HMM.out HMM.out).mono ?_
        rintro e w7 ⟨rfl, hb7⟩
        have HB7 := Lib.hid (HB6.out.trans (hb7.mono HB6.out.size))
        clear hb7
        rw [show sameI m m (fun i => (runS F n f 0 t.toNat).1 i) (fun i => (runS F n f 0 t.toNat).1 i) = true from sameI_iff.2 ⟨rfl, fun _ _ => rfl⟩]
        go_wp2_with fail
        go_ret
        exact ⟨rfl, HB7.out⟩
end Go.Proofs.Ythdonbgimehkjaa
