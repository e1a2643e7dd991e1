/- The walk of UnrollMore. Conditions: the arguments read as told. -/
import Derived.Test.YtklhbmlcpjlgiaaUnrollAsk
namespace Go.Proofs.Ytklhbmlcpjlgiaa
open Go.ChangeShapes Go.WideShapes Go.ChangeAt Go.RowKit
set_option linter.unusedVariables false
theorem ansU_more {n : Nat} {R : Nat → SI} {K : Nat} {B : Nat → Bool} {steps : Nat} (h : ansU n R K B steps = true) : ansU n R K B (steps + 1) = true := by
  unfold ansU at h ⊢
  rw [decide_eq_true_eq] at h ⊢
  have e : lstU n R K B (steps + 1) = lstU n R K B steps := goU_more steps _ (Nat.le_of_eq h.1.symm)
  rw [e]; exact h
set_option maxRecDepth 100000 in
set_option maxHeartbeats 2000000 in
theorem unrollMore.walk (w : World) (S Y : Int) (T : Option Addr) (n tc : Nat) (R : Nat → SI) (cells steps : Int) (A : Option Addr) (k c : Nat) (B : Nat → Bool)
    (wS : (Lit.int .i64 S).wf = true) (wY : (Lit.int .i64 Y).wf = true) (gT : Tm w T n R) (wT : ∀ i, (R i).wide) (l : n ≤ tc) (m : tc ≤ maxLen) (w1 : (Lit.int .i64 cells).wf = true) (w2 : (Lit.int .i64 steps).wf = true)
    (hA : Rd w A k (fun i => .bool (B i))) (lk : k ≤ c) (mk : c ≤ maxLen) (zk : c * 1 ≤ 140737488351232) :
    Calls Try.prog 3 #[.agg #[.int .i64 S, .int .i64 Y, .slice T n tc], .int .i64 cells, .int .i64 steps, .slice A k c] w fun e w' => e = .returned (.bool true) ∧ Below w.heap.size w w' := by
  have hn : n ≤ maxLen := by omega
  have hk : k ≤ maxLen := by omega
  have HT := Lib.hid gT
  have HA := Lib.hid hA
  have HN := Lib.hid hn
  have HK := Lib.hid hk
  clear gT hA wS wY wT w1 w2 lk mk hn hk l m zk
  have hB1 := (Below.refl w.heap.size w).alloc (Nat.le_refl _) (.cells #[.int .i64 S, .int .i64 Y, .slice T n tc] 24)
  have b0 : (w.alloc (.cells #[.int .i64 S, .int .i64 Y, .slice T n tc] 24)).cell? ⟨w.heap.size, 0, none⟩ = some (.int .i64 S) := by simp [go_sem]
  have b1 : (w.alloc (.cells #[.int .i64 S, .int .i64 Y, .slice T n tc] 24)).cell? ⟨w.heap.size, 1, none⟩ = some (.int .i64 Y) := by simp [go_sem]
  have b2 : (w.alloc (.cells #[.int .i64 S, .int .i64 Y, .slice T n tc] 24)).cell? ⟨w.heap.size, 2, none⟩ = some (.slice T n tc) := by simp [go_sem]
  have HB1 := Lib.hid hB1
  have C0 := Lib.hid b0
  have C1 := Lib.hid b1
  have C2 := Lib.hid b2
  clear hB1 b0 b1 b2
  by_cases hE : uaE S Y n R cells steps k = 0
  · have hU : uwE S Y n R cells steps = 0 := by
      unfold uaE at hE
      by_cases h : uwE S Y n R cells steps = 0
      · exact h
      · rw [if_pos h] at hE; exact absurd hE h
    have hkc : (k : Int) = cells := by
      unfold uaE at hE
      rw [if_neg (by rw [hU]; simp)] at hE
      by_cases h : (k : Int) = cells
      · exact h
      · rw [if_pos h] at hE; omega
    subst hkc
    obtain ⟨p1, ⟨p2, p3⟩, ⟨p4, p5⟩, ⟨p6, p7⟩⟩ := uwE_parts hU
    obtain ⟨sn, rfl⟩ := Int.eq_ofNat_of_zero_le p6
    have HE := Lib.hid hE
    have P1 := Lib.hid p1
    clear hE hU p1
    go_enter Try.func3, Try.ntmps3
    go_wp2_with fail
    refine (ask_good S Y k sn T A n tc c R B _ (HT.out.below HB1.out) HN.out (HA.out.below HB1.out) HE.out).mono ?_
    rintro e w2 ⟨rfl, hb2⟩
    have s2 := hb2.size
    have d0 := (hb2.cell (p := ⟨w.heap.size, 0, none⟩) (by show w.heap.size < _; simp)).trans C0.out
    have d1 := (hb2.cell (p := ⟨w.heap.size, 1, none⟩) (by show w.heap.size < _; simp)).trans C1.out
    have d2 := (hb2.cell (p := ⟨w.heap.size, 2, none⟩) (by show w.heap.size < _; simp)).trans C2.out
    have HB2 := Lib.hid (HB1.out.trans (hb2.mono HB1.out.size))
    clear hb2
    have hs1 : ((sn : Int) + 1) = ((sn + 1 : Nat) : Int) := by omega
    by_cases h6 : (sn : Int) = 6
    · have hbad : uaE S Y n R k ((sn : Int) + 1) k = 7 := by
        have h0 : uwE S Y n R k ((sn : Int) + 1) = 7 := by
          unfold uwE
          rw [if_neg (by rw [P1.out]; simp), if_neg (by omega), if_neg (by omega), if_pos (by omega)]
        unfold uaE
        rw [h0, if_pos (by decide)]
      have HBAD := Lib.hid hbad
      have q6 : ((sn : Int) == 6) = true := by rw [h6]; rfl
      clear hbad hs1 h6
      go_wp2_with fail
      refine (ask_bad S Y k ((sn : Int) + 1) T A n tc k c R _ (HT.out.below HB2.out) HN.out HK.out (by rw [HBAD.out]; decide)).mono ?_
      rintro e w3 ⟨rfl, hb3⟩
      rw [HBAD.out]
      have HB3 := Lib.hid (HB2.out.trans (hb3.mono HB2.out.size))
      clear hb3
      go_wp2_with fail
      go_ret
      exact ⟨rfl, HB3.out⟩
    · have hok : uaE S Y n R k ((sn + 1 : Nat) : Int) k = 0 := by
        have h0 : uwE S Y n R k ((sn + 1 : Nat) : Int) = 0 := by
          unfold uwE
          rw [if_neg (by rw [P1.out]; simp), if_neg (by omega), if_neg (by omega), if_neg (by omega)]
        unfold uaE
        rw [if_neg (by rw [h0]; simp), if_neg (by simp)]
      have HOK := Lib.hid hok
      have q6 : ((sn : Int) == 6) = false := by rw [beq_eq_false_iff_ne]; exact h6
      have HS1 := Lib.hid hs1
      have AG := Lib.hid (ask_good S Y k (sn + 1) T A n tc c R B _ (HT.out.below HB2.out) HN.out (HA.out.below HB2.out) HOK.out)
      have HMORE : Hid (ansU n R k B sn = true → ansU n R k B (sn + 1) = true) := Lib.hid ansU_more
      obtain ⟨a, ha⟩ : ∃ a, a = ansU n R k B sn := ⟨_, rfl⟩
      obtain ⟨b, hb⟩ : ∃ b, b = ansU n R k B (sn + 1) := ⟨_, rfl⟩
      rw [← ha, ← hb] at HMORE
      rw [← hb] at AG
      rw [← ha]
      clear hok hs1 ha hb
      cases a
      · go_wp2_with fail
        rw [HS1.out]
        refine AG.out.mono ?_
        rintro e w3 ⟨rfl, hb3⟩
        have HB3 := Lib.hid (HB2.out.trans (hb3.mono HB2.out.size))
        clear hb3
        go_wp2_with fail
        go_ret
        exact ⟨rfl, HB3.out⟩
      · obtain rfl : b = true := HMORE.out rfl
        go_wp2_with fail
        rw [HS1.out]
        refine AG.out.mono ?_
        rintro e w3 ⟨rfl, hb3⟩
        have HB3 := Lib.hid (HB2.out.trans (hb3.mono HB2.out.size))
        clear hb3
        go_wp2_with fail
        go_ret
        exact ⟨rfl, HB3.out⟩
  · obtain ⟨E, hEe⟩ : ∃ E, E = uaE S Y n R cells steps k := ⟨_, rfl⟩
    have HE := Lib.hid hE
    rw [← hEe] at hE
    have HEE := Lib.hid hEe
    have hq : (E != 0) = true := by rw [bne_iff_ne]; exact hE
    clear hEe
    go_enter Try.func3, Try.ntmps3
    go_wp2_with fail
    refine (ask_bad S Y cells steps T A n tc k c R _ (HT.out.below HB1.out) HN.out HK.out HE.out).mono ?_
    rintro e w2 ⟨rfl, hb2⟩
    rw [← HEE.out]
    have HB2 := Lib.hid (HB1.out.trans (hb2.mono HB1.out.size))
    clear hb2
    go_wp2_with fail
    go_ret
    exact ⟨rfl, HB2.out⟩
end Go.Proofs.Ytklhbmlcpjlgiaa
