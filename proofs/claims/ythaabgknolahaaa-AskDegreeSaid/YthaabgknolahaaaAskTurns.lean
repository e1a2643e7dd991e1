/- What ask.Turns computes. Conditions: the table reads as a function of its index. -/
import Derived.Test.YthaabgknolahaaaAskLaw2
import Derived.Test.YthaabgknolahaaaAskFns
namespace Go.Proofs.Ythaabgknolahaaa
open Go.ChangeShapes Go.WideShapes Go.ChangeAt Go.RowKit
set_option linter.unusedVariables false
set_option linter.unusedSimpArgs false
theorem xor_P : ∀ x : Nat, x < 16 → ∀ i : Nat, i < 4 → bits .xor .i64 (x : Int) (2 ^ i) = ((x ^^^ 2 ^ i : Nat) : Int) := by decide +kernel
theorem xor_lt : ∀ n : Nat, n < 5 → ∀ x : Nat, x < 16 → ∀ i : Nat, i < 4 → x < 2 ^ n → i < n → x ^^^ 2 ^ i < 2 ^ n := by decide +kernel
theorem mx_succ (g : Nat → Nat) (k : Nat) : mxF g (k + 1) = max (mxF g k) (g k) := rfl
theorem sn_succ (F : Nat → Bool) (x i : Nat) : snF F x (i + 1) = snF F x i + if F (x ^^^ 2 ^ i) = F x then 0 else 1 := rfl
set_option maxRecDepth 100000 in
set_option maxHeartbeats 2000000 in
theorem Turns_any (A : Option Addr) (n c : Nat) (F : Nat → Bool) (w : World) (h : Tb w A n F) (h4 : n ≤ 4) :
    Calls Try.prog 8 #[.int .i64 (n : Nat), .slice A (2 ^ n) c] w fun e w' => e = .returned (.tuple #[.int .i64 (mxF (fun x => snF F x n) (2 ^ n) : Nat), .int .i64 0]) ∧ w = w' := by
  have hp := p16 h4
  have hw := askWrong_any (n : Nat) 0 A (2 ^ n) c w (by unfold maxLen; omega)
  rw [show tabE ((n : Nat) : Int) (2 ^ n) 0 = 0 by unfold tabE; rw [if_pos (by omega), if_pos (by simp), if_pos (by omega)]] at hw
  have hxl : ∀ x i, x < 2 ^ n → i < n → x ^^^ 2 ^ i < 2 ^ n := fun x i hx hi => xor_lt n (by omega) x (by omega) i (by omega) hx hi
  obtain ⟨b, o, rfl, hb, _⟩ := h.at_ (show 0 < 2 ^ n by omega)
  have hcl : ∀ q, q < 2 ^ n → w.cell? ⟨b, o + q, none⟩ = some (.bool (F q)) := fun q hq => by
    obtain ⟨b', o', e, _, hc⟩ := h.at_ hq
    cases e; exact hc
  have hsl : ∀ x, snF F x n ≤ 4 := fun x => by have := sn_le F x n; omega
  obtain ⟨M, hM⟩ : ∃ M, M = 2 ^ n := ⟨_, rfl⟩
  rw [← hM] at hp hw hxl hcl ⊢
  have HW := Lib.hid hw
  have HXL := Lib.hid hxl
  have HCL := Lib.hid hcl
  have HSL := Lib.hid hsl
  clear h hw hxl hcl hM hsl
  go_enter Try.func8, Try.ntmps8
  go_wp2_with fail
  refine HW.out.mono ?_
  rintro e w2 ⟨rfl, rfl⟩
  go_wp2_with fail
  go_loop [7, 20] (fun s7 s20 => ∃ x : Nat, x ≤ M ∧ s20 = .int .i64 (x : Nat) ∧ s7 = .int .i64 (mxF (fun x => snF F x n) x : Nat)) (fun _ s20 => M - (intOf s20).toNat)
  case atStart => exact ⟨0, Nat.zero_le _, rfl, rfl⟩
  case round =>
    obtain ⟨x, hx, rfl, rfl⟩ := hrel
    by_cases hxm : x < M
    · have hcx := HCL.out x hxm
      have hmb : mxF (fun x => snF F x n) x ≤ 4 := mx_le fun i hi => HSL.out i
      obtain ⟨mo, hmo⟩ : ∃ mo, mo = mxF (fun x => snF F x n) x := ⟨_, rfl⟩
      rw [← hmo] at hmb ⊢
      have HMO := Lib.hid hmo
      obtain ⟨p, hpv⟩ : ∃ p, p = F x := ⟨_, rfl⟩
      rw [← hpv] at hcx
      have HPV := Lib.hid hpv
      clear hmo hpv
      go_wp2_with fail
      go_loop [10, 26] (fun s10 s26 => ∃ i : Nat, i ≤ n ∧ s26 = .int .i64 (i : Nat) ∧ s10 = .int .i64 (snF F x i : Nat)) (fun _ s26 => n - (intOf s26).toNat)
      case atStart => exact ⟨0, Nat.zero_le _, rfl, rfl⟩
      case round =>
        obtain ⟨i, hi, rfl, rfl⟩ := hrel
        by_cases hin : i < n
        · have hxi := HXL.out x i hxm hin
          have e1 := xor_P x (by omega) i (by omega)
          obtain ⟨e2, e3, _⟩ := w2_P i (by omega)
          have hcy := HCL.out _ hxi
          have hsb := sn_le F x i
          have hsu := sn_succ F x i
          obtain ⟨sb, hsbe⟩ : ∃ s, s = snF F x i := ⟨_, rfl⟩
          obtain ⟨u, hu⟩ : ∃ u, u = x ^^^ 2 ^ i := ⟨_, rfl⟩
          rw [← hu] at e1 hcy hsu hxi
          rw [← hsbe] at hsb hsu ⊢
          rw [← HPV.out] at hsu
          obtain ⟨q, hqv⟩ : ∃ q, q = F u := ⟨_, rfl⟩
          rw [← hqv] at hcy hsu
          have HSU := Lib.hid hsu
          clear hu hsbe hqv hsu
          cases p <;> cases q
          · go_wp2_with fail
            go_round
            case rel => exact ⟨i + 1, by omega, by go_num, by rw [HSU.out, if_pos rfl]; go_num⟩
            case measure => simp [intOf]; omega
          · go_wp2_with fail
            go_round
            case rel => exact ⟨i + 1, by omega, by go_num, by rw [HSU.out, if_neg (by decide)]; go_num⟩
            case measure => simp [intOf]; omega
          · go_wp2_with fail
            go_round
            case rel => exact ⟨i + 1, by omega, by go_num, by rw [HSU.out, if_neg (by decide)]; go_num⟩
            case measure => simp [intOf]; omega
          · go_wp2_with fail
            go_round
            case rel => exact ⟨i + 1, by omega, by go_num, by rw [HSU.out, if_pos rfl]; go_num⟩
            case measure => simp [intOf]; omega
        · obtain rfl : i = n := by omega
          have hs4 := HSL.out x
          have hms := mx_succ (fun x => snF F x i) x
          obtain ⟨sb, hsbe⟩ : ∃ s, s = snF F x i := ⟨_, rfl⟩
          obtain ⟨mm, hmm⟩ : ∃ m, m = max mo sb := ⟨_, rfl⟩
          have hmi : max ((mo : Nat) : Int) ((sb : Nat) : Int) = (mm : Int) := by omega
          rw [← hsbe] at hs4 ⊢
          have HMS : Hid (mxF (fun x => snF F x i) (x + 1) = mm) := Lib.hid (by rw [hms, hmm, ← HMO.out, hsbe])
          clear hsbe hms hmm
          go_wp2_with fail
          go_round
          case rel => exact ⟨x + 1, by omega, by go_num, by rw [HMS.out]; congr 1; split <;> omega⟩
          case measure => simp [intOf]; omega
    · obtain rfl : x = M := by omega
      go_wp2_with fail
      go_ret2
      exact ⟨rfl, rfl⟩
set_option maxRecDepth 100000 in
theorem Turns_bad (A : Option Addr) (n : Int) (m c : Nat) (w : World) (hm : m ≤ maxLen) (hv : tabE n m 0 ≠ 0) :
    Calls Try.prog 8 #[.int .i64 n, .slice A m c] w fun e w' => e = .returned (.tuple #[.int .i64 0, .int .i64 (tabE n m 0)]) ∧ w = w' := by
  have hw := askWrong_any n 0 A m c w hm
  obtain ⟨v, hvv⟩ : ∃ v, v = tabE n m 0 := ⟨_, rfl⟩
  rw [← hvv] at hw hv ⊢
  have q : (v != 0) = true := by rw [bne_iff_ne]; exact hv
  have HW := Lib.hid hw
  clear hw hvv hv
  go_enter Try.func8, Try.ntmps8
  go_wp2_with fail
  refine HW.out.mono ?_
  rintro e w2 ⟨rfl, rfl⟩
  go_wp2_with fail
  go_ret2
  exact ⟨rfl, rfl⟩
end Go.Proofs.Ythaabgknolahaaa
