/- What ask.proof tells exactly, and Proofs. Conditions: the table reads as a function of its index. -/
import Derived.Test.YthaabgknolahaaaAskLaw2
import Derived.Test.YthaabgknolahaaaAskFns
import Derived.OwnWalk
namespace Go.Proofs.Ythaabgknolahaaa
open Go.ChangeShapes Go.WideShapes Go.ChangeAt Go.RowKit
set_option linter.unusedVariables false
set_option linter.unusedSimpArgs false
set_option maxRecDepth 100000 in
set_option maxHeartbeats 1000000 in
theorem prf_any (A : Option Addr) (n c x : Nat) (F : Nat → Bool) (w : World) (h : Tb w A n F) (h4 : n ≤ 4) (hx : x < 2 ^ n) :
    Calls Try.prog 17 #[.int .i64 (n : Nat), .slice A (2 ^ n) c, .int .i64 (x : Nat)] w fun e w' => e = .returned (.int .i64 (prf n F x : Nat)) ∧ w = w' := by
  have HSA : Hid (∀ k, k < 2 ^ n → Calls Try.prog 22 #[.slice A (2 ^ n) c, .int .i64 (k : Nat), .int .i64 (x : Nat)] w fun e w' => e = .returned (.bool (smW F (2 ^ n) k x)) ∧ w = w') := Lib.hid fun k hk => same_any A n c k x F w h h4 hk hx
  have hp := p16 h4
  obtain ⟨p0, p1, _, _⟩ := tpow_bd (N := n) h4
  have hw : IntKind.i64.wrap ((2 : Int) ^ n) = 2 ^ n := IntWalk.i64_in _ (by omega)
  have hw' : wrap64 ((2 : Int) ^ n) = 2 ^ n := IntWalk.wrap64_in _ (by omega)
  have hcast : ((2 ^ n : Nat) : Int) = (2 : Int) ^ n := by simp
  have HCA := Lib.hid hcast
  unfold prf
  clear h hcast
  go_enter Try.func17, Try.ntmps17
  go_wp2_with fail
  go_loop [7, 13] (fun s7 s13 => ∃ k : Nat, k ≤ 2 ^ n ∧ s13 = .int .i64 (k : Nat) ∧ s7 = .int .i64 (pfF n F x k : Nat)) (fun _ s13 => 2 ^ n - (intOf s13).toNat)
  case atStart => exact ⟨0, Nat.zero_le _, rfl, rfl⟩
  case round =>
    obtain ⟨k, hk, rfl, rfl⟩ := hrel
    by_cases hkn : k < 2 ^ n
    · have hk1 : ((k : Nat) : Int) < (2 : Int) ^ n := by rw [← HCA.out]; omega
      have hon := ones_any k (by omega) w
      have hc4 : popc k ≤ 4 := by unfold popc; omega
      have hst : pfF n F x (k + 1) = if popc k < pfF n F x k ∧ smW F (2 ^ n) k x = true then popc k else pfF n F x k := rfl
      have hpl := pf_le n F x k
      obtain ⟨z, hz⟩ : ∃ z, z = popc k := ⟨_, rfl⟩
      obtain ⟨p, hpp⟩ : ∃ p, p = pfF n F x k := ⟨_, rfl⟩
      rw [← hz] at hon hc4 hst
      rw [← hpp] at hst hpl ⊢
      have HON := Lib.hid hon
      have HST := Lib.hid hst
      clear hon hz hpp hst
      by_cases hzp : z < p
      · have hsa := HSA.out k hkn
        cases hs : smW F (2 ^ n) k x with
        | true =>
          rw [hs] at hsa
          have HS := Lib.hid hsa
          have HS' := Lib.hid hs
          clear hsa hs
          go_wp2_with fail
          refine HON.out.mono ?_
          rintro e w2 ⟨rfl, rfl⟩
          go_wp2_with fail
          refine HS.out.mono ?_
          rintro e w2 ⟨rfl, rfl⟩
          go_wp2_with fail
          go_round
          case rel => exact ⟨k + 1, by omega, by go_num, by rw [HST.out, if_pos ⟨hzp, HS'.out⟩]⟩
          case measure => simp [intOf]; omega
        | false =>
          rw [hs] at hsa
          have HS := Lib.hid hsa
          have HS' := Lib.hid hs
          clear hsa hs
          go_wp2_with fail
          refine HON.out.mono ?_
          rintro e w2 ⟨rfl, rfl⟩
          go_wp2_with fail
          refine HS.out.mono ?_
          rintro e w2 ⟨rfl, rfl⟩
          go_wp2_with fail
          go_round
          case rel => exact ⟨k + 1, by omega, by go_num, by rw [HST.out, if_neg (fun e => by rw [HS'.out] at e; cases e.2)]⟩
          case measure => simp [intOf]; omega
      · go_wp2_with fail
        refine HON.out.mono ?_
        rintro e w2 ⟨rfl, rfl⟩
        go_wp2_with fail
        go_round
        case rel => exact ⟨k + 1, by omega, by go_num, by rw [HST.out, if_neg (fun e => hzp e.1)]⟩
        case measure => simp [intOf]; omega
    · obtain rfl : k = 2 ^ n := by omega
      have hk1 : ¬ (((2 ^ n : Nat) : Nat) : Int) < (2 : Int) ^ n := by rw [← HCA.out]; omega
      go_wp2_with fail
      go_ret
      exact ⟨rfl, rfl⟩
def noF (n : Nat) (F : Nat → Bool) (x : Nat) : Nat := if F x = true then 0 else prf n F x
def yesF (n : Nat) (F : Nat → Bool) (x : Nat) : Nat := if F x = true then prf n F x else 0
theorem prf_le (n : Nat) (F : Nat → Bool) (x : Nat) : prf n F x ≤ n := pf_le _ _ _ _
theorem no_le (n : Nat) (F : Nat → Bool) (x : Nat) : noF n F x ≤ n := by
  have := prf_le n F x
  unfold noF; split <;> omega
theorem yes_le (n : Nat) (F : Nat → Bool) (x : Nat) : yesF n F x ≤ n := by
  have := prf_le n F x
  unfold yesF; split <;> omega
theorem mx_succ' (g : Nat → Nat) (k : Nat) : mxF g (k + 1) = max (mxF g k) (g k) := rfl
set_option maxRecDepth 100000 in
set_option maxHeartbeats 2000000 in
theorem Proofs_any (A : Option Addr) (n c : Nat) (F : Nat → Bool) (w : World) (h : Tb w A n F) (h4 : n ≤ 4) :
    Calls Try.prog 7 #[.int .i64 (n : Nat), .slice A (2 ^ n) c] w fun e w' => e = .returned (.tuple #[.int .i64 (mxF (noF n F) (2 ^ n) : Nat), .int .i64 (mxF (yesF n F) (2 ^ n) : Nat), .int .i64 0]) ∧ w = w' := by
  have hp := p16 h4
  have hw := askWrong_any (n : Nat) 0 A (2 ^ n) c w (by unfold maxLen; omega)
  rw [show tabE ((n : Nat) : Int) (2 ^ n) 0 = 0 by unfold tabE; rw [if_pos (by omega), if_pos (by simp), if_pos (by omega)]] at hw
  have hpr : ∀ x, x < 2 ^ n → Calls Try.prog 17 #[.int .i64 (n : Nat), .slice A (2 ^ n) c, .int .i64 (x : Nat)] w fun e w' => e = .returned (.int .i64 (prf n F x : Nat)) ∧ w = w' := fun x hx => prf_any A n c x F w h h4 hx
  obtain ⟨b, o, rfl, hb, _⟩ := h.at_ (show 0 < 2 ^ n by omega)
  have hcl : ∀ q, q < 2 ^ n → w.cell? ⟨b, o + q, none⟩ = some (.bool (F q)) := fun q hq => by
    obtain ⟨b', o', e, _, hc⟩ := h.at_ hq
    cases e; exact hc
  obtain ⟨M, hM⟩ : ∃ M, M = 2 ^ n := ⟨_, rfl⟩
  rw [← hM] at hp hw hcl hpr ⊢
  have HW := Lib.hid hw
  have HPR := Lib.hid hpr
  have HCL := Lib.hid hcl
  clear h hw hcl hM hpr
  go_enter Try.func7, Try.ntmps7
  go_wp2_with fail
  refine HW.out.mono ?_
  rintro e w2 ⟨rfl, rfl⟩
  go_wp2_with fail
  go_loop [8, 9, 20] (fun s8 s9 s20 => ∃ x : Nat, x ≤ M ∧ s20 = .int .i64 (x : Nat) ∧ s8 = .int .i64 (mxF (noF n F) x : Nat) ∧ s9 = .int .i64 (mxF (yesF n F) x : Nat)) (fun _ _ s20 => M - (intOf s20).toNat)
  case atStart => exact ⟨0, Nat.zero_le _, rfl, rfl, rfl⟩
  case round =>
    obtain ⟨x, hx, rfl, rfl, rfl⟩ := hrel
    by_cases hxm : x < M
    · have hcx := HCL.out x hxm
      have hpx := HPR.out x hxm
      have hpl := prf_le n F x
      have b1 : mxF (noF n F) x ≤ 4 := mx_le fun i hi => by have := no_le n F i; omega
      have b2 : mxF (yesF n F) x ≤ 4 := mx_le fun i hi => by have := yes_le n F i; omega
      have m1 := mx_succ' (noF n F) x
      have m2 := mx_succ' (yesF n F) x
      have u1 : noF n F x = if F x = true then 0 else prf n F x := rfl
      have u2 : yesF n F x = if F x = true then prf n F x else 0 := rfl
      rw [u1] at m1
      rw [u2] at m2
      obtain ⟨q1, hq1⟩ : ∃ q, q = mxF (noF n F) x := ⟨_, rfl⟩
      obtain ⟨q2, hq2⟩ : ∃ q, q = mxF (yesF n F) x := ⟨_, rfl⟩
      obtain ⟨p, hpv⟩ : ∃ p, p = prf n F x := ⟨_, rfl⟩
      rw [← hpv] at hpx m1 m2 hpl
      rw [← hq1] at b1 m1
      rw [← hq2] at b2 m2
      rw [← hq1, ← hq2]
      cases hf : F x with
      | true =>
        rw [hf] at hcx
        rw [hf, if_pos rfl, Nat.max_zero] at m1
        rw [hf, if_pos rfl] at m2
        obtain ⟨mm, hmm⟩ : ∃ m, m = max q2 p := ⟨_, rfl⟩
        have hmi : max ((q2 : Nat) : Int) ((p : Nat) : Int) = (mm : Int) := by omega
        rw [← hmm] at m2
        have HPX := Lib.hid hpx
        have HM1 := Lib.hid m1
        have HM2 := Lib.hid m2
        clear hpx m1 m2 u1 u2 hq1 hq2 hpv hf hmm
        go_wp2_with fail
        refine HPX.out.mono ?_
        rintro e w2 ⟨rfl, rfl⟩
        go_wp2_with fail
        go_round
        case rel => exact ⟨x + 1, by omega, by go_num, by rw [HM1.out], by rw [HM2.out]; congr 1; split <;> omega⟩
        case measure => simp [intOf]; omega
      | false =>
        rw [hf] at hcx
        rw [hf, if_neg (by decide)] at m1
        rw [hf, if_neg (by decide), Nat.max_zero] at m2
        obtain ⟨mm, hmm⟩ : ∃ m, m = max q1 p := ⟨_, rfl⟩
        have hmi : max ((q1 : Nat) : Int) ((p : Nat) : Int) = (mm : Int) := by omega
        rw [← hmm] at m1
        have HPX := Lib.hid hpx
        have HM1 := Lib.hid m1
        have HM2 := Lib.hid m2
        clear hpx m1 m2 u1 u2 hq1 hq2 hpv hf hmm
        go_wp2_with fail
        refine HPX.out.mono ?_
        rintro e w2 ⟨rfl, rfl⟩
        go_wp2_with fail
        go_round
        case rel => exact ⟨x + 1, by omega, by go_num, by rw [HM1.out]; congr 1; split <;> omega, by rw [HM2.out]⟩
        case measure => simp [intOf]; omega
    · obtain rfl : x = M := by omega
      go_wp2_with fail
      go_ret3
      exact ⟨rfl, rfl⟩
set_option maxRecDepth 100000 in
theorem Proofs_bad (A : Option Addr) (n : Int) (m c : Nat) (w : World) (hm : m ≤ maxLen) (hv : tabE n m 0 ≠ 0) :
    Calls Try.prog 7 #[.int .i64 n, .slice A m c] w fun e w' => e = .returned (.tuple #[.int .i64 0, .int .i64 0, .int .i64 (tabE n m 0)]) ∧ w = w' := by
  have hw := askWrong_any n 0 A m c w hm
  obtain ⟨v, hvv⟩ : ∃ v, v = tabE n m 0 := ⟨_, rfl⟩
  rw [← hvv] at hw hv ⊢
  have q : (v != 0) = true := by rw [bne_iff_ne]; exact hv
  have HW := Lib.hid hw
  clear hw hvv hv
  go_enter Try.func7, Try.ntmps7
  go_wp2_with fail
  refine HW.out.mono ?_
  rintro e w2 ⟨rfl, rfl⟩
  go_wp2_with fail
  go_ret3
  exact ⟨rfl, rfl⟩
end Go.Proofs.Ythaabgknolahaaa
