/- A true formula is won with the plan against every opponent, and a false one has no plan. No condition. -/
import Derived.Test.YtkogobnnimincaaAllPlanOf
namespace Go.Proofs.Ytkogobnnimincaa.allPlan
open Go.ChangeShapes Go.WideShapes Go.ChangeAt Go.RowKit
set_option linter.unusedVariables false
theorem dep {m n : Nat} {Y N : Nat → SI} (he : alE m n Y N = 0) : ∀ g h : Nat → Bool, (∀ i, i < m → g i = h i) → isC n Y N g = isC n Y N h := by
  obtain ⟨h8, h2⟩ := alE_ok he
  obtain ⟨_, hV⟩ := wrC_zero h2
  rw [Int.toNat_natCast] at hV
  exact isC_dep fun k hk => (hV k hk).2
set_option maxRecDepth 100000 in
set_option maxHeartbeats 2000000 in
theorem walk (w : World) (KA : Option Addr) (m kc : Nat) (K : Nat → Bool) (A : Option Addr) (n c : Nat) (Y N : Nat → SI) (x : Int) (hK : Rd w KA m (fun i => .bool (K i))) (hl1 : m ≤ kc) (hm1 : kc ≤ maxLen) (z1 : kc * 1 ≤ 140737488351232) (h : Rd w A (n * 2) (clC Y N)) (hg : ∀ i, (Y i).good w ∧ (N i).good w) (hl : n ≤ c) (hm : c ≤ maxLen) (zc : c * 48 ≤ 140737488351232) (wx : (Lit.int .u8 x).wf = true) :
    Calls Try.prog 4 #[.slice KA m kc, .slice A n c, .int .u8 x] w fun e w' => e = .returned (.bool true) ∧ Below w.heap.size w w' := by
  have H := Lib.hid (show Cls w A n Y N from ⟨h, fun k _ => hg k⟩)
  have GK := Lib.hid hK
  have hn : n ≤ maxLen := by omega
  have hml : m ≤ maxLen := by omega
  have HN := Lib.hid hn
  have HML := Lib.hid hml
  have hv : 0 ≤ x ∧ x ≤ 255 := by simp [Lit.wf, IntKind.min, IntKind.max, IntKind.signed, IntKind.bits] at wx; omega
  obtain ⟨x0, x1⟩ := hv
  clear h hg hK hn hml hl1 hm1 z1 hl hm zc wx
  by_cases he : alE m n Y N = 0
  · obtain ⟨h8, h2⟩ := alE_ok he
    have hdep := dep he
    have HE := Lib.hid he
    have HDEP := Lib.hid hdep
    have hb : alB K m n Y N = winS K m (isC n Y N) m (fun _ => false) := if_pos he
    have HB := Lib.hid hb
    clear hdep he h2 hb
    cases hw : winS K m (isC n Y N) m (fun _ => false) with
    | false =>
      have HW := Lib.hid hw
      clear hw
      go_enter Try.func4, Try.ntmps4
      go_wp2_with fail
      refine (allTrue_any KA A m kc n c K Y N w H.out GK.out HN.out HML.out).mono ?_
      rintro e w1 ⟨rfl, hb1⟩
      rw [HB.out, HW.out, HE.out]
      go_wp2_with fail
      refine (plan_none KA A m kc n c K Y N _ (H.out.below hb1) (GK.out.below hb1) HN.out HE.out HW.out).mono ?_
      rintro e w2 ⟨rfl, hb2⟩
      have B2 := hb1.trans (hb2.mono hb1.size)
      go_wp2_with fail
      refine (allCheck_any KA A m kc n c Y N _ (H.out.below B2) HN.out HML.out).mono ?_
      rintro e w3 ⟨rfl, hb3⟩
      rw [HE.out]
      go_wp2_with fail
      go_ret
      exact ⟨rfl, B2.trans (hb3.mono B2.size)⟩
    | true =>
      have HW := Lib.hid hw
      have hco := cntF_le K m
      clear hw
      obtain ⟨k, hk⟩ : ∃ k, k = cntF K m := ⟨_, rfl⟩
      have hk8 : k ≤ 8 := by omega
      have HK := Lib.hid hk
      obtain ⟨p0, p1, p2, p3⟩ := pow8 (V := k) hk8
      obtain ⟨P, hP⟩ : ∃ P, P = 2 ^ k := ⟨_, rfl⟩
      have hPI : (2 : Int) ^ k = (P : Int) := by rw [hP]; simp
      rw [hPI] at p0 p1
      rw [← hP] at p2 p3
      clear hP hk hco
      go_enter Try.func4, Try.ntmps4
      go_wp2_with fail
      refine (allTrue_any KA A m kc n c K Y N w H.out GK.out HN.out HML.out).mono ?_
      rintro e w1 ⟨rfl, hb1⟩
      rw [HB.out, HW.out, HE.out]
      go_wp2_with fail
      refine (plan_good KA A m kc n c K Y N _ (H.out.below hb1) (GK.out.below hb1) HN.out HE.out HW.out).mono ?_
      rintro e w2 ⟨⟨S, sc, C, rfl, s1, s2, hS, hok⟩, hb2⟩
      have B2 := hb1.trans (hb2.mono hb1.size)
      have GS := Lib.hid hS
      have HOK := Lib.hid hok
      clear hb1 hb2 hS hok
      go_wp2_with fail
      refine (allCheck_any KA A m kc n c Y N _ (H.out.below B2) HN.out HML.out).mono ?_
      rintro e w3 ⟨rfl, hb3⟩
      rw [HE.out]
      have B3 := B2.trans (hb3.mono B2.size)
      go_wp2_with fail
      refine (plans_any KA m kc K _ (GK.out.below B3) h8).mono ?_
      rintro e w' ⟨rfl, rfl⟩
      rw [← HK.out]
      go_wp2_with fail
      refine (bits_any k _ hk8 _).mono ?_
      rintro e w4 ⟨⟨M, mc, F, rfl, m1, m2, hM⟩, hb4⟩
      have B4 := B3.trans (hb4.mono B3.size)
      have HM := Lib.hid hM
      have GS4 := Lib.hid (GS.out.below (hb3.trans (hb4.mono hb3.size)))
      clear hM hb3 hb4
      go_wp2_with fail
      have hpl := play_any KA A S M m kc n c sc mc K C F Y N w4 (H.out.below B4) (GK.out.below B4) HN.out HE.out GS4.out (by rw [← HK.out]; exact HM.out) s1 s2 (by rw [← HK.out]; exact m1) m2 HDEP.out HOK.out HW.out
      rw [← HK.out] at hpl
      refine hpl.mono ?_
      rintro e w5 ⟨rfl, hb5⟩
      clear hpl
      go_wp2_with fail
      go_ret
      exact ⟨rfl, B4.trans (hb5.mono B4.size)⟩
  · have hq : (alE m n Y N != 0) = true := by rw [bne_iff_ne]; exact he
    have HE := Lib.hid he
    have hb : alB K m n Y N = false := if_neg he
    have HB := Lib.hid hb
    clear he hb
    go_enter Try.func4, Try.ntmps4
    go_wp2_with fail
    refine (allTrue_any KA A m kc n c K Y N w H.out GK.out HN.out HML.out).mono ?_
    rintro e w1 ⟨rfl, hb1⟩
    rw [HB.out]
    go_wp2_with fail
    refine (plan_bad KA A m kc n c Y N _ (H.out.below hb1) HN.out HML.out HE.out).mono ?_
    rintro e w2 ⟨rfl, hb2⟩
    have B2 := hb1.trans (hb2.mono hb1.size)
    go_wp2_with fail
    refine (allCheck_any KA A m kc n c Y N _ (H.out.below B2) HN.out HML.out).mono ?_
    rintro e w3 ⟨rfl, hb3⟩
    go_wp2_with fail
    go_ret
    exact ⟨rfl, B2.trans (hb3.mono B2.size)⟩
end Go.Proofs.Ytkogobnnimincaa.allPlan
