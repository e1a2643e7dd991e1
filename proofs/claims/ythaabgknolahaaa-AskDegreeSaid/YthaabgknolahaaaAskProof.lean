/- What ask.proof, Proof and Least compute. Conditions: the table reads as a function of its index. -/
import Derived.Test.YthaabgknolahaaaAskFns
namespace Go.Proofs.Ythaabgknolahaaa
open Go.ChangeShapes Go.WideShapes Go.ChangeAt Go.RowKit
set_option linter.unusedVariables false
set_option linter.unusedSimpArgs false
def PfP (n : Nat) (F : Nat → Bool) (x p : Nat) : Prop := p ≤ n ∧ ∀ k, k < 2 ^ n → smW F (2 ^ n) k x = true → p ≤ popc k
set_option maxRecDepth 100000 in
set_option maxHeartbeats 1000000 in
theorem proof_any (A : Option Addr) (n c x : Nat) (F : Nat → Bool) (w : World) (h : Tb w A n F) (h4 : n ≤ 4) (hx : x < 2 ^ n) :
    Calls Try.prog 17 #[.int .i64 (n : Nat), .slice A (2 ^ n) c, .int .i64 (x : Nat)] w fun e w' => (∃ p : Nat, e = .returned (.int .i64 (p : Nat)) ∧ PfP n F x p) ∧ w = w' := by
  have HSA : Hid (∀ k, k < 2 ^ n → Calls Try.prog 22 #[.slice A (2 ^ n) c, .int .i64 (k : Nat), .int .i64 (x : Nat)] w fun e w' => e = .returned (.bool (smW F (2 ^ n) k x)) ∧ w = w') := Lib.hid fun k hk => same_any A n c k x F w h h4 hk hx
  have hp := p16 h4
  obtain ⟨p0, p1, _, _⟩ := tpow_bd (N := n) h4
  have hw : IntKind.i64.wrap ((2 : Int) ^ n) = 2 ^ n := IntWalk.i64_in _ (by omega)
  have hw' : wrap64 ((2 : Int) ^ n) = 2 ^ n := IntWalk.wrap64_in _ (by omega)
  have hcast : ((2 ^ n : Nat) : Int) = (2 : Int) ^ n := by simp
  have HCA := Lib.hid hcast
  clear h hcast
  go_enter Try.func17, Try.ntmps17
  go_wp2_with fail
  go_loop [7, 13] (fun s7 s13 => ∃ k p : Nat, k ≤ 2 ^ n ∧ p ≤ n ∧ s13 = .int .i64 (k : Nat) ∧ s7 = .int .i64 (p : Nat) ∧ Hid (∀ q, q < k → smW F (2 ^ n) q x = true → p ≤ popc q)) (fun _ s13 => 2 ^ n - (intOf s13).toNat)
  case atStart => exact ⟨0, n, Nat.zero_le _, Nat.le_refl _, rfl, rfl, Lib.hid (fun q hq => absurd hq (Nat.not_lt_zero _))⟩
  case round =>
    obtain ⟨k, p, hk, hpn, rfl, rfl, HALL⟩ := hrel
    by_cases hkn : k < 2 ^ n
    · have hk1 : ((k : Nat) : Int) < (2 : Int) ^ n := by rw [← HCA.out]; omega
      have hon := ones_any k (by omega) w
      have hc4 : popc k ≤ 4 := by unfold popc; omega
      obtain ⟨z, hz⟩ : ∃ z, z = popc k := ⟨_, rfl⟩
      rw [← hz] at hon hc4
      have HZ := Lib.hid hz
      have HON := Lib.hid hon
      clear hon hz
      by_cases hzp : z < p
      · have hsa := HSA.out k hkn
        cases hs : smW F (2 ^ n) k x with
        | true =>
          rw [hs] at hsa
          have HS := Lib.hid hsa
          clear hsa hs
          go_wp2_with fail
          refine HON.out.mono ?_
          rintro e w2 ⟨rfl, rfl⟩
          go_wp2_with fail
          refine HS.out.mono ?_
          rintro e w2 ⟨rfl, rfl⟩
          go_wp2_with fail
          go_round
          case rel => exact ⟨k + 1, z, by omega, by omega, by go_num, rfl, Lib.hid (fun q hq hsq => by
            by_cases e : q = k
            · rw [e, ← HZ.out]; exact Nat.le_refl _
            · have := HALL.out q (by omega) hsq; omega)⟩
          case measure => simp [intOf]; omega
        | false =>
          rw [hs] at hsa
          have HS := Lib.hid hsa
          have HS' := Lib.hid hs
          clear hsa hs
          go_wp2_with fail
          refine HON.out.mono ?_
          rintro e w2 ⟨rfl, rfl⟩
          go_wp2_with fail
          refine HS.out.mono ?_
          rintro e w2 ⟨rfl, rfl⟩
          go_wp2_with fail
          go_round
          case rel => exact ⟨k + 1, p, by omega, by omega, by go_num, rfl, Lib.hid (fun q hq hsq => by
            by_cases e : q = k
            · rw [e, HS'.out] at hsq; cases hsq
            · exact HALL.out q (by omega) hsq)⟩
          case measure => simp [intOf]; omega
      · go_wp2_with fail
        refine HON.out.mono ?_
        rintro e w2 ⟨rfl, rfl⟩
        go_wp2_with fail
        go_round
        case rel => exact ⟨k + 1, p, by omega, by omega, by go_num, rfl, Lib.hid (fun q hq hsq => by
          by_cases e : q = k
          · rw [e, ← HZ.out]; omega
          · exact HALL.out q (by omega) hsq)⟩
        case measure => simp [intOf]; omega
    · obtain rfl : k = 2 ^ n := by omega
      have hk1 : ¬ (((2 ^ n : Nat) : Nat) : Int) < (2 : Int) ^ n := by rw [← HCA.out]; omega
      go_wp2_with fail
      go_ret
      exact ⟨⟨p, rfl, hpn, HALL.out⟩, rfl⟩
set_option maxRecDepth 100000 in
theorem Proof_any (A : Option Addr) (n c x : Nat) (F : Nat → Bool) (w : World) (h : Tb w A n F) (h4 : n ≤ 4) (hx : x < 2 ^ n) :
    Calls Try.prog 14 #[.int .i64 (n : Nat), .slice A (2 ^ n) c, .int .i64 (x : Nat)] w fun e w' => (∃ p : Nat, e = .returned (.tuple #[.int .i64 (p : Nat), .int .i64 0]) ∧ PfP n F x p) ∧ w = w' := by
  have hp := p16 h4
  have hw := askWrong_any (n : Nat) (x : Nat) A (2 ^ n) c w (by unfold maxLen; omega)
  rw [show tabE ((n : Nat) : Int) (2 ^ n) ((x : Nat) : Int) = 0 by unfold tabE; rw [if_pos (by omega), if_pos (by simp), if_pos (by omega)]] at hw
  have HW := Lib.hid hw
  have HP := Lib.hid (proof_any A n c x F w h h4 hx)
  clear hw h
  go_enter Try.func14, Try.ntmps14
  go_wp2_with fail
  refine HW.out.mono ?_
  rintro e w2 ⟨rfl, rfl⟩
  go_wp2_with fail
  refine HP.out.mono ?_
  rintro e w2 ⟨⟨p, rfl, hpp⟩, rfl⟩
  go_wp2_with fail
  go_ret2
  exact ⟨⟨p, rfl, hpp⟩, rfl⟩
set_option maxRecDepth 100000 in
theorem Least_any (A : Option Addr) (n c : Nat) (F : Nat → Bool) (w : World) (h : Tb w A n F) (h4 : n ≤ 4) :
    Calls Try.prog 6 #[.int .i64 (n : Nat), .slice A (2 ^ n) c] w fun e w' => e = .returned (.tuple #[.int .i64 ((lst n F 0 0).1 : Nat), .int .i64 0]) ∧ w = w' := by
  have hp := p16 h4
  have hw := askWrong_any (n : Nat) 0 A (2 ^ n) c w (by unfold maxLen; omega)
  rw [show tabE ((n : Nat) : Int) (2 ^ n) 0 = 0 by unfold tabE; rw [if_pos (by omega), if_pos (by simp), if_pos (by omega)]] at hw
  have HW := Lib.hid hw
  have HP := Lib.hid (least_any A n c F w h h4 16 0 0 (by omega) (by omega) (by omega))
  unfold lst
  clear hw h
  go_enter Try.func6, Try.ntmps6
  go_wp2_with fail
  refine HW.out.mono ?_
  rintro e w2 ⟨rfl, rfl⟩
  go_wp2_with fail
  refine HP.out.mono ?_
  rintro e w2 ⟨rfl, rfl⟩
  go_wp2_with fail
  go_ret2
  exact ⟨rfl, rfl⟩
set_option maxRecDepth 100000 in
theorem Least_bad (A : Option Addr) (n : Int) (m c : Nat) (w : World) (hm : m ≤ maxLen) (hv : tabE n m 0 ≠ 0) :
    Calls Try.prog 6 #[.int .i64 n, .slice A m c] w fun e w' => e = .returned (.tuple #[.int .i64 0, .int .i64 (tabE n m 0)]) ∧ w = w' := by
  have hw := askWrong_any n 0 A m c w hm
  obtain ⟨v, hvv⟩ : ∃ v, v = tabE n m 0 := ⟨_, rfl⟩
  rw [← hvv] at hw hv ⊢
  have q : (v != 0) = true := by rw [bne_iff_ne]; exact hv
  have HW := Lib.hid hw
  clear hw hvv hv
  go_enter Try.func6, Try.ntmps6
  go_wp2_with fail
  refine HW.out.mono ?_
  rintro e w2 ⟨rfl, rfl⟩
  go_wp2_with fail
  go_ret2
  exact ⟨rfl, rfl⟩
end Go.Proofs.Ythaabgknolahaaa
