/- What busy.Most computes. Conditions: as each theorem states. -/
import Derived.Test.YtlnaplebhlcpaaaBusyLaw2
import Derived.Test.YtlnaplebhlcpaaaBusyBuild
import Derived.Test.YtlnaplebhlcpaaaTapeRuns
namespace Go.Proofs.Ytlnaplebhlcpaaa
open Go.ChangeShapes Go.WideShapes Go.ChangeAt Go.RowKit
set_option linter.unusedVariables false
theorem results4 {fn : Func} {t u v x : Tmp} (h : fn.results = #[.tmp t, .tmp u, .tmp v, .tmp x]) (tmps : Array Value) (P : Program) (w : World) :
    (results fn tmps).run P w = .ok (.tuple #[tmps.getD t undef, tmps.getD u undef, tmps.getD v undef, tmps.getD x undef]) w := by
  simp [results, h]
theorem smF_01 {f : Int → Int} (h : ∀ z, 0 ≤ f z ∧ f z < (2 : Nat)) (a : Int) (k : Nat) : 0 ≤ smF f a k ∧ smF f a k ≤ k := by
  induction k with
  | zero => exact ⟨Int.le_refl _, Int.le_refl _⟩
  | succ k ih => show 0 ≤ smF f a k + f (a + k) ∧ smF f a k + f (a + k) ≤ ((k + 1 : Nat) : Int); have := h (a + k); omega
def MostRet (n steps : Nat) (w : World) (e : Ending) (w' : World) : Prop := (∃ long ones many : Int, e = .returned (.tuple #[.int .i64 long, .int .i64 ones, .int .i64 many, .int .i64 0]) ∧ MsB n steps (pwB n) long ones many) ∧ Below w.heap.size w w'
set_option maxRecDepth 100000 in
theorem most_bad (n : Nat) (steps : Int) (w : World) (hn : n = 1 ∨ n = 2) (hs : steps < 0 ∨ 60 < steps) :
    Calls Try.prog 7 #[.int .i64 n, .int .i64 steps] w fun e w' => e = .returned (.tuple #[.int .i64 0, .int .i64 0, .int .i64 0, .int .i64 7]) ∧ w = w' := by
  have m1 : 1 ≤ n ∧ n ≤ 2 := by omega
  obtain ⟨na, nb⟩ := m1
  clear hn
  by_cases s0 : steps < 0
  · clear hs
    go_enter Try.func7, Try.ntmps7
    go_wp2_with fail
    (try simp only [Exit.inBlock, Exit.then])
    exact bodyPost_ret (results4 rfl _ _ _) rfl ⟨rfl, rfl⟩
  · have s1 : 60 < steps := by omega
    clear hs
    go_enter Try.func7, Try.ntmps7
    go_wp2_with fail
    (try simp only [Exit.inBlock, Exit.then])
    exact bodyPost_ret (results4 rfl _ _ _) rfl ⟨rfl, rfl⟩
set_option maxRecDepth 100000 in
set_option maxHeartbeats 4000000 in
theorem most_good (n steps : Nat) (w : World) (hn : n = 1 ∨ n = 2) (hs : steps ≤ 60) :
    Calls Try.prog 7 #[.int .i64 n, .int .i64 steps] w (MostRet n steps w) := by
  have m1 : 1 ≤ n ∧ n ≤ 2 := by omega
  obtain ⟨na, nb⟩ := m1
  obtain ⟨P, hP⟩ : ∃ P, P = pwB n := ⟨_, rfl⟩
  have hPb : P ≤ 20736 := by rw [hP]; unfold pwB; split <;> omega
  have HP := Lib.hid hP
  have HM := Lib.hid hn
  clear hP hn
  go_enter Try.func7, Try.ntmps7
  go_wp2_with fail
  refine (power_any n _ HM.out).mono ?_
  rintro e w' ⟨rfl, rfl⟩
  rw [← HP.out]
  go_wp2_with fail
  go_loopw [8, 9, 10, 34] (fun s8 s9 s10 s34 wr => ∃ (j : Nat) (long ones many : Int), j ≤ P ∧ s34 = .int .i64 j ∧ s8 = .int .i64 long ∧ s9 = .int .i64 ones ∧ s10 = .int .i64 many ∧ MsB n steps j long ones many ∧ Below w.heap.size w wr) (fun _ _ _ s34 _ => P - (intOf s34).toNat)
  case atStart => exact ⟨0, 0, 0, 0, Nat.zero_le _, rfl, rfl, rfl, rfl, MsB.start _ _, Below.refl _ _⟩
  case round =>
    obtain ⟨wo, rfl⟩ : ∃ wo : World, wo = wr := ⟨_, rfl⟩
    obtain ⟨j, long, ones, many, hj, rfl, rfl, rfl, rfl, hms, hbel⟩ := hrel
    have so := hbel.size
    obtain ⟨⟨l0, l1⟩, ⟨o0, o1⟩, ⟨k0, k1⟩, -⟩ := id hms
    have HMS := Lib.hid hms
    have HB := Lib.hid hbel
    clear hms hbel
    by_cases hlt : j < P
    · have BG := Lib.hid (build_good n j wo HM.out (by omega) (by rw [← HP.out]; omega))
      go_wp2_with fail
      refine BG.out.mono ?_
      rintro e w1 ⟨⟨T, tc, R, rfl, htc, htm, hTm, hBk, hnm⟩, hb1⟩
      have HB1 := Lib.hid ((HB.out.trans (hb1.mono so)).alloc (by have := hb1.size; omega) (.cells #[.int .i64 n, .int .i64 2, .slice T n tc] 24))
      have HT1 := Lib.hid (hTm.below ((Below.refl w1.heap.size w1).alloc (Nat.le_refl _) (.cells #[.int .i64 n, .int .i64 2, .slice T n tc] 24)))
      have s1 := hb1.size
      have HBK := Lib.hid hBk
      have HNM := Lib.hid hnm
      have hn63 : n ≤ maxLen := by unfold maxLen; omega
      have HN := Lib.hid hn63
      clear hb1 hTm hBk hnm htc htm hn63
      go_wp2_with fail
      have hE : rcE n 2 n R 0 (fun _ => 0) steps = 0 := by
        unfold rcE
        rw [if_neg (by rw [HBK.out.ok HM.out]; simp), if_neg (by omega), if_neg (by rw [insB_iff.2 (fun i hi => absurd hi (Nat.not_lt_zero _))]; simp), if_neg (by omega)]
      refine (runs_good n 2 steps T none n tc 0 0 R (fun _ => 0) _ HT1.out HN.out (Rd.zero _ _ _) hE).mono ?_
      clear hE
      rintro e w2 ⟨⟨v, d, rfl, hdn, lo, hi, N, A3, c3, hsp, hN, rfl, hown⟩, hb2⟩
      rw [Int.toNat_natCast, begin_c00] at hdn
      rw [begin_c00] at hsp hown ⊢
      have hgc := (c00_gc n).it HBK.out.tb.gt d hdn.2.1
      have hdd := hdn.1
      have hbb := hsp.bound hgc
      have f01 := hgc.1
      have hwin := smF_win hsp hN (by omega) (by omega)
      have HST : Hid (StB n (TR R) d ↔ n ≤ (itC (TR R) d c00).s) := Lib.hid Iff.rfl
      have HON : Hid (onB (TR R) d = smF (itC (TR R) d c00).f lo N) := Lib.hid hwin.symm
      obtain ⟨C, hC⟩ : ∃ C, C = itC (TR R) d c00 := ⟨_, rfl⟩
      rw [← hC] at hsp hown f01 HST HON ⊢
      obtain ⟨Xf, Xs, Xh⟩ := C
      have hst : StB n (TR R) d ↔ n ≤ Xs := HST.out
      have hon : onB (TR R) d = smF Xf lo N := HON.out
      have h01 : ∀ z, 0 ≤ Xf z ∧ Xf z < (2 : Nat) := f01
      have hloh : lo ≤ hi := by have := hsp.1; omega
      have HSTB := Lib.hid hst
      have HONB := Lib.hid hon
      have H01 := Lib.hid h01
      have HDN := Lib.hid hdn
      have HRD := Lib.hid (hown.rd.alloc (.cells #[.int .i64 Xs, .int .i64 Xh, .int .i64 lo, .slice A3 N c3] 41))
      have HB2 := Lib.hid ((HB1.out.trans (hb2.mono HB1.out.size)).alloc (by have := hb2.size; have := HB1.out.size; omega) (.cells #[.int .i64 Xs, .int .i64 Xh, .int .i64 lo, .slice A3 N c3] 41))
      clear hb2 hdn hsp hown hgc f01 hwin HST HON hC hst hon h01
      obtain ⟨hb0, hb9⟩ : -((0 + d : Nat) : Int) ≤ lo ∧ hi ≤ ((0 + d : Nat) : Int) := hbb
      by_cases hx : Xs < n
      · have HNX := Lib.hid (HMS.out.skip HM.out HBK.out HNM.out hs HDN.out (fun h => by have := HSTB.out.1 h; omega))
        go_wp2_with fail
        go_roundw
        case rel => exact ⟨j + 1, long, ones, many, by omega, by go_num, rfl, rfl, rfl, HNX.out, HB2.out⟩
        case measure => simp [intOf]; omega
      · have HNX := Lib.hid (HMS.out.take HM.out HBK.out HNM.out hs HDN.out (HSTB.out.2 (by omega)))
        go_wp2_with fail
        go_loop [17, 57] (fun s17 s57 => ∃ i : Nat, i ≤ N ∧ s57 = .int .i64 i ∧ s17 = .int .i64 (smF Xf lo i)) (fun _ s57 => N - (intOf s57).toNat)
        case atStart => exact ⟨0, Nat.zero_le _, rfl, rfl⟩
        case round =>
          obtain ⟨i, hi', rfl, rfl⟩ := hrel
          have hsm := smF_01 H01.out lo i
          have hnx : smF Xf lo (i + 1) = smF Xf lo i + Xf (lo + i) := rfl
          have HNS := Lib.hid hnx
          obtain ⟨x, hxx⟩ : ∃ x, x = Xf (lo + i) := ⟨_, rfl⟩
          have hx01 := H01.out (lo + i)
          rw [← hxx] at hx01
          have HXX := Lib.hid hxx
          by_cases hil : i < N
          · obtain ⟨rb, ro, rfl, hrb, hrc⟩ := HRD.out.at_ hil
            rw [← hxx] at hrc
            obtain ⟨sm, hsmm⟩ : ∃ sm, sm = smF Xf lo i := ⟨_, rfl⟩
            rw [← hsmm] at hsm ⊢
            have HSM := Lib.hid hsmm
            clear hnx hxx hsmm
            go_wp2_with fail
            go_round
            case rel => exact ⟨i + 1, by omega, by go_num, by rw [HNS.out, ← HSM.out, ← HXX.out]⟩
            case measure => simp [intOf]; omega
          · obtain rfl : i = N := by omega
            clear hnx hxx
            rw [← HONB.out] at hsm ⊢
            obtain ⟨q, hq⟩ : ∃ q, q = onB (TR R) d := ⟨_, rfl⟩
            rw [← hq] at hsm ⊢
            have HQ := Lib.hid hq
            clear hq
            go_wp2_with fail
            go_roundw
            case rel => exact ⟨j + 1, _, _, _, by omega, by go_num, rfl, rfl, rfl, by rw [HQ.out]; exact HNX.out, HB2.out⟩
            case measure => simp [intOf]; omega
    · obtain rfl : j = P := by omega
      go_wp2_with fail
      (try simp only [Exit.inBlock, Exit.then])
      exact bodyPost_ret (results4 rfl _ _ _) rfl ⟨⟨long, ones, many, rfl, by rw [← HP.out]; exact HMS.out⟩, HB.out⟩
end Go.Proofs.Ytlnaplebhlcpaaa
