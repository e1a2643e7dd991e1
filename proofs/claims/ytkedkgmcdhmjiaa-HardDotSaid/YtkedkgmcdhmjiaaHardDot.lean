/- HardDot: the graph of clauses has as many free dots as there are clauses just if the clauses can be true. No condition. -/
import Derived.Test.YtkedkgmcdhmjiaaHardKarp
import Derived.Test.YtkedkgmcdhmjiaaHardChk2
namespace Go.Proofs.Ytkedkgmcdhmjiaa
open Go.ChangeShapes Go.WideShapes Go.ChangeAt Go.RowKit
set_option linter.unusedVariables false
set_option linter.unusedSimpArgs false
namespace hardDot
set_option maxRecDepth 100000 in
set_option maxHeartbeats 1000000 in
theorem walk (w : World) (vars : Int) (A : Option Addr) (n c : Nat) (Y N : Nat → SI) (wv : (Lit.int .i64 vars).wf = true) (h : Rd w A (n * 2) (clC Y N)) (hg : ∀ i, (Y i).good w ∧ (N i).good w) (hl : n ≤ c) (hm : c ≤ maxLen) (zc : c * 48 ≤ 140737488351232) :
    Calls Try.prog 5 #[.int .i64 vars, .slice A n c] w fun e w' => e = .returned (.bool true) ∧ Below w.heap.size w w' := by
  have HN := Lib.hid (Nat.le_trans hl hm)
  have H : Hid (Cls w A n Y N) := Lib.hid ⟨h, fun k _ => hg k⟩
  clear h hg hl hm zc wv
  go_enter Try.func5, Try.ntmps5
  go_wp2_with fail
  refine (Dots_any vars A n c Y N w H.out HN.out).mono ?_
  rintro e w1 ⟨hd, hb1⟩
  have H1 := Lib.hid (H.out.below hb1)
  have HB1 := Lib.hid hb1
  clear hb1
  rcases hd with ⟨x, hx, hxb, rfl⟩ | ⟨hz, A1, c1, L, rfl, hL16, hLo, hrd⟩
  · have HX := Lib.hid hx
    clear hx
    go_wp2_with fail
    refine (hardCheck_any vars A n c Y N w1 H1.out HN.out).mono ?_
    rintro e w2 ⟨rfl, hb2⟩
    rw [HX.out]
    have HB2 := Lib.hid (HB1.out.trans (hb2.mono HB1.out.size))
    clear hb2
    go_wp2_with fail
    go_ret
    exact ⟨rfl, HB2.out⟩
  · have HZ := Lib.hid hz
    have HLO := Lib.hid hLo
    have HRD := Lib.hid hrd
    have hmc := many_can hz
    have hn0 := mn_nonneg vars n Y N
    obtain ⟨k, hk⟩ : ∃ k, k = mnC vars n Y N := ⟨_, rfl⟩
    rw [← hk] at hmc hn0
    have HK := Lib.hid hk
    have HMC := Lib.hid hmc
    have n12 := (hdE_zero hz).1.2.2
    obtain ⟨T, hT⟩ : ∃ T, T = (dotL Y N n).length := ⟨_, rfl⟩
    rw [← hT]
    have hT36 : T ≤ 36 := by
      have := dotL_len (Y := Y) (N := N) (n := n) (fun k hk => decide_eq_false (by have := (hdE_zero hz).2.1 k hk; omega))
      omega
    have HT := Lib.hid hT
    clear hz hLo hrd hmc hk hT
    go_wp2_with fail
    refine (hardCheck_any vars A n c Y N w1 H1.out HN.out).mono ?_
    rintro e w2 ⟨rfl, hb2⟩
    rw [HZ.out]
    have H2 := Lib.hid (H1.out.below hb2)
    have HR2 := Lib.hid (HRD.out.below hb2)
    have HB2 := Lib.hid (HB1.out.trans (hb2.mono HB1.out.size))
    clear hb2
    go_wp2_with fail
    refine (many_any vars A n c Y N w2 H2.out HN.out).mono ?_
    rintro e w3 ⟨rfl, hb3⟩
    rw [← HK.out, hd_wr HZ.out]
    have HR3 := Lib.hid (HR2.out.below hb3)
    have HB3 := Lib.hid (HB2.out.trans (hb3.mono HB2.out.size))
    clear hb3
    by_cases hfew : T < n
    · have hk0 : k = 0 := by
        obtain ⟨j, hj, e⟩ := few_dots (Y := Y) (N := N) (n := n) (by rw [← HT.out]; exact hfew)
        have : ¬ 0 < k := fun h => by
          obtain ⟨s, hs⟩ := HMC.out.1 h
          have := hs j hj
          rw [empty_no e s] at this; cases this
        omega
      subst hk0
      go_wp2_with fail
      go_ret
      exact ⟨rfl, HB3.out⟩
    by_cases hl1 : 16 < T
    · go_wp2_with fail
      go_ret
      exact ⟨rfl, HB3.out⟩
    by_cases hl2 : 200 < L.length
    · go_wp2_with fail
      go_ret
      exact ⟨rfl, HB3.out⟩
    have hin := lines_in HLO.out
    rw [← HT.out] at hin
    have hgph : gphE (T : Int) (lnF L) L.length (n : Int) = 0 := by
      unfold gphE
      rw [if_neg (by omega), if_neg, if_neg, if_neg (by omega)]
      · rw [anyB_no fun j hj => by unfold loopL; simpa using hin.2 j hj]; decide
      · rw [anyB_no fun j hj => by unfold outL; exact decide_eq_false (Decidable.not_not.2 (hin.1 j hj))]; decide
    have hkp := karp HLO.out (dots_nonneg HZ.out)
    rw [← HT.out] at hkp
    have hiff := (free_fnd (N := T) (K := n) hin.1 hin.2).trans hkp
    clear hkp
    have HIFF := Lib.hid hiff
    have HGP := Lib.hid hgph
    clear hiff hin hgph
    go_wp2_with fail
    refine (free_any ((T : Nat) : Int) A1 L.length c1 (lnF L) ((n : Nat) : Int) w3 HR3.out (by unfold maxLen; omega)).mono ?_
    rintro e w4 ⟨hs, hb4⟩
    have HB4 := Lib.hid (HB3.out.trans (hb4.mono HB3.out.size))
    clear hb4
    rcases hs with ⟨x, hx, hxb, rfl⟩ | ⟨N', K', hN, hK, hz', hf', A4, c4, rfl⟩ | ⟨N', K', hN, hK, hz', hf', rfl⟩
    · rw [HGP.out] at hx
      subst hx
      cases hxb
    · have e2 : N' = T := by omega
      have e3 : K' = n := by omega
      subst e2; subst e3
      have hkp : 0 < k := HMC.out.2 (HIFF.out.1 hf')
      clear hN hK hz' hf'
      go_wp2_with fail
      go_ret
      exact ⟨rfl, HB4.out⟩
    · have e2 : N' = T := by omega
      have e3 : K' = n := by omega
      subst e2; subst e3
      have hk0 : k = 0 := by
        have : ¬ 0 < k := fun h => hf' (HIFF.out.2 (HMC.out.1 h))
        omega
      subst hk0
      clear hN hK hz' hf'
      go_wp2_with fail
      go_ret
      exact ⟨rfl, HB4.out⟩
end hardDot
end Go.Proofs.Ytkedkgmcdhmjiaa
