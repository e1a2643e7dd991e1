/- HardTurn: so many dots are free just if the rest of them cover all lines. No condition. -/
import Derived.Test.YtkedkgmcdhmjiaaHardSets
import Derived.Test.YtkedkgmcdhmjiaaHardRef
import Derived.Test.YtkedkgmcdhmjiaaRecs
import Derived.Test.YtkedkgmcdhmjiaaFlat
namespace Go.Proofs.Ytkedkgmcdhmjiaa
open Go.ChangeShapes Go.WideShapes Go.ChangeAt Go.RowKit
set_option linter.unusedVariables false
set_option linter.unusedSimpArgs false
namespace hardTurn
set_option maxRecDepth 100000 in
set_option maxHeartbeats 1000000 in
theorem walk (w : World) (n : Int) (A : Option Addr) (m c : Nat) (P : Nat → Int) (k : Int) (wn : (Lit.int .i64 n).wf = true)
    (h : Rd w A (m * 2) (fun i => .int .i64 (P i))) (wf : ∀ i, (Lit.int .i64 (P i)).wf = true) (hl : m ≤ c) (hm : c ≤ maxLen) (z : c * 16 ≤ 140737488351232) (wk : (Lit.int .i64 k).wf = true) :
    Calls Try.prog 3 #[.int .i64 n, .slice A m c, .int .i64 k] w fun e w' => e = .returned (.bool true) ∧ Below w.heap.size w w' := by
  have HM := Lib.hid (Nat.le_trans hl hm)
  have H := Lib.hid h
  clear h wf hl hm z wn wk
  go_enter Try.func3, Try.ntmps3
  go_wp2_with fail
  refine (free_any n A m c P k w H.out HM.out).mono ?_
  rintro e w1 ⟨hs, hb1⟩
  have H1 := Lib.hid (H.out.below hb1)
  have HB1 := Lib.hid hb1
  clear hb1
  rcases hs with ⟨x, hx, hxb, rfl⟩ | ⟨N, K, rfl, rfl, hz, hf, A1, c1, rfl⟩ | ⟨N, K, rfl, rfl, hz, hf, rfl⟩
  · have HX := Lib.hid hx
    clear hx
    go_wp2_with fail
    refine (dotsCheck_any n A m c P k w1 H1.out HM.out).mono ?_
    rintro e w2 ⟨rfl, hb2⟩
    rw [HX.out]
    have HB2 := Lib.hid (HB1.out.trans (hb2.mono HB1.out.size))
    clear hb2
    go_wp2_with fail
    go_ret
    exact ⟨rfl, HB2.out⟩
  all_goals
    obtain ⟨n0, n16, m200, hin, hne, k0, kn⟩ := gphE_ok hz
    obtain ⟨D, hD⟩ : ∃ D, D = N - K := ⟨_, rfl⟩
    have hD1 : (N : Int) - (K : Int) = (D : Int) := by omega
    have e1 : IntKind.i64.wrap ((N : Int) - (K : Int)) = (D : Int) := by rw [hD1]; exact IntWalk.i64_in _ (by omega)
    have hzD : gphE (N : Int) P m (D : Int) = 0 := by
      have h0 := hz
      unfold gphE at h0 ⊢
      rw [if_neg (by omega)] at h0 ⊢
      split at h0
      · omega
      · rename_i a
        rw [if_neg a]
        split at h0
        · omega
        · rename_i b
          rw [if_neg b, if_neg (by omega)]
    have hiff := (free_fnd (K := K) hin hne).trans ((turn_sets (show K ≤ N by omega)).trans (cover_fnd (K := N - K) hin).symm)
    rw [← hD] at hiff
    have HIFF := Lib.hid hiff
    have HF := Lib.hid hf
    have HZ := Lib.hid hz
    have HZD := Lib.hid hzD
    clear hiff hf hz hzD hin hne hD hD1
    go_wp2_with fail
    refine (dotsCheck_any ((N : Nat) : Int) A m c P ((K : Nat) : Int) w1 H1.out HM.out).mono ?_
    rintro e w2 ⟨rfl, hb2⟩
    rw [HZ.out]
    have H2 := Lib.hid (H1.out.below hb2)
    have HB2 := Lib.hid (HB1.out.trans (hb2.mono HB1.out.size))
    clear hb2
    go_wp2_with fail
    refine (cover_any ((N : Nat) : Int) A m c P ((D : Nat) : Int) w2 H2.out HM.out).mono ?_
    rintro e w3 ⟨hs, hb3⟩
    have HB3 := Lib.hid (HB2.out.trans (hb3.mono HB2.out.size))
    clear hb3
    rcases hs with ⟨x, hx, hxb, rfl⟩ | ⟨N', K', hN, hK, hz', hf', A3, c3, rfl⟩ | ⟨N', K', hN, hK, hz', hf', rfl⟩
    · rw [HZD.out] at hx
      subst hx
      cases hxb
    · have e2 : N' = N := by omega
      have e3 : K' = D := by omega
      subst e2; subst e3
      first
        | exact absurd (HIFF.out.2 hf') HF.out
        | (clear hN hK hz' hf' HIFF
           go_wp2_with fail
           go_ret
           exact ⟨rfl, HB3.out⟩)
    · have e2 : N' = N := by omega
      have e3 : K' = D := by omega
      subst e2; subst e3
      first
        | exact absurd (HIFF.out.1 HF.out) hf'
        | (clear hN hK hz' hf' HIFF
           go_wp2_with fail
           go_ret
           exact ⟨rfl, HB3.out⟩)
end hardTurn
end Go.Proofs.Ytkedkgmcdhmjiaa
