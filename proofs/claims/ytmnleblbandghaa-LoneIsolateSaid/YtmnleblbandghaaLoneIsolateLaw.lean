/- The isolation lemma: so many choices of weights as the statement says leave just one set the lightest. No condition. -/
import Derived.Test.YtmnleblbandghaaSingle
import Derived.Test.YtmnleblbandghaaLuckyLaw
import Derived.Test.YtmnleblbandghaaLoneCheck
namespace Go.Proofs.Ytmnleblbandghaa
open Go.ChangeShapes Go.WideShapes Go.ChangeAt Go.RowKit
set_option linter.unusedVariables false
theorem single_any (n : Int) (A : Option Addr) (m c : Nat) (S : Nat → Int) (k : Int) (w : World) (wn : (Lit.int .i64 n).wf = true) (wk : (Lit.int .i64 k).wf = true) (h : Rd w A m (fun i => .int .u32 (S i))) (hm : m ≤ maxLen) (hS : ∀ i, i < m → (Lit.int .u32 (S i)).wf = true) :
    Calls Try.prog 15 #[.int .i64 n, .slice A m c, .int .i64 k] w (SinR n m S k w) :=
  callsIn_wide.1 (single_in Fence.wide (Lib.hid rfl) 8 (by omega) rfl n A m c S k w wn wk h hm hS)
theorem power_any (x n : Nat) (hx : x ≤ 6) (hn : n ≤ 5) (w : World) :
    Calls Try.prog 16 #[.int .i64 (x : Nat), .int .i64 (n : Nat)] w fun e w' => e = .returned (.int .i64 (x ^ n : Nat)) ∧ w = w' := by
  go_enter Try.func16, Try.ntmps16
  go_wp2_with fail
  go_loop [5, 6] (fun s5 s6 => ∃ k p : Nat, k ≤ n ∧ s6 = .int .i64 (k : Nat) ∧ s5 = .int .i64 (p : Nat) ∧ Hid (p = x ^ k)) (fun _ s6 => n - (intOf s6).toNat)
  case atStart => exact ⟨0, 1, by omega, rfl, rfl, Lib.hid rfl⟩
  case round =>
    obtain ⟨k, p, hk, rfl, rfl, HP⟩ := hrel
    by_cases hlt : k < n
    · have hpb : p ≤ 1296 := by
        rw [HP.out]
        exact Nat.le_trans (Nat.pow_le_pow_left hx k) (Nat.pow_le_pow_right (n := 6) (i := k) (j := 4) (by omega) (by omega))
      obtain ⟨P2, hP2⟩ : ∃ P2 : Nat, p * x = P2 := ⟨_, rfl⟩
      have hi : (p : Int) * (x : Int) = (P2 : Int) := by rw [← hP2]; push_cast; rfl
      have hb2 : P2 ≤ 7776 := by rw [← hP2]; exact Nat.le_trans (Nat.mul_le_mul hpb hx) (by omega)
      have HP2 := Lib.hid hP2
      clear hP2
      go_wp2_with fail
      go_round
      case rel => exact ⟨k + 1, P2, by omega, by go_num, rfl, Lib.hid (by rw [Nat.pow_succ, ← HP.out, HP2.out])⟩
      case measure => simp [intOf]; omega
    · obtain rfl : k = n := by omega
      go_wp2_with fail
      go_ret
      exact ⟨ret_int (by rw [HP.out]; push_cast; rfl), rfl⟩
namespace loneIsolate
set_option maxRecDepth 100000 in
set_option maxHeartbeats 1000000 in
theorem walk (w : World) (n : Int) (A : Option Addr) (m c : Nat) (S : Nat → Int) (k : Int) (wn : (Lit.int .i64 n).wf = true) (h : Rd w A m (fun i => .int .u32 (S i))) (wfS : ∀ i, (Lit.int .u32 (S i)).wf = true) (hl : m ≤ c) (hm : c ≤ maxLen) (z : c * 4 ≤ 140737488351232) (wk : (Lit.int .i64 k).wf = true) :
    Calls Try.prog 6 #[.int .i64 n, .slice A m c, .int .i64 k] w fun e w' => e = .returned (.bool true) ∧ Below w.heap.size w w' := by
  have hmm : m ≤ maxLen := by omega
  have k63 : -9223372036854775808 ≤ k ∧ k ≤ 9223372036854775807 := by
    have := wk
    simp [Lit.wf, IntKind.min, IntKind.max, IntKind.signed, IntKind.bits] at this; omega
  have H := Lib.hid h
  have HS := Lib.hid wfS
  have HM := Lib.hid hmm
  clear h wfS hm hmm
  go_enter Try.func6, Try.ntmps6
  go_wp2_with fail
  refine (single_any n A m c S k w wn wk H.out HM.out (fun i _ => HS.out i)).mono ?_
  rintro e w1 ⟨one, all, x, rfl, hb1, hcase⟩
  have HB1 := Lib.hid hb1
  have HC := Lib.hid hcase
  clear hb1 hcase
  go_wp2_with fail
  refine (setted_any n A m c S w1 wn (H.out.below HB1.out) HM.out (fun i _ => HS.out i)).mono ?_
  rintro e w2 ⟨⟨v, rfl, hv⟩, hb2⟩
  have HB2 := Lib.hid (HB1.out.trans (hb2.mono HB1.out.size))
  have HV := Lib.hid hv
  clear hb2 hv
  rcases HC.out with ⟨rfl, hok, hkok, hall, hone⟩ | ⟨hx, hno⟩
  · obtain rfl : v = true := HV.out.2 hok
    have hn5 := hok.1
    have hm200 := hok.2.1
    have i1 := inB_yes (l := 1) (x := k) (h := 6) hkok.1 hkok.2
    obtain ⟨N, rfl⟩ : ∃ N : Nat, n = (N : Int) := ⟨n.toNat, by omega⟩
    obtain ⟨b, rfl⟩ : ∃ b : Nat, k = (b : Int) := ⟨k.toNat, by have := hkok.1; omega⟩
    have hb6 : 1 ≤ b ∧ b ≤ 6 := by have := hkok.1; have := hkok.2; omega
    rw [Int.toNat_natCast, Int.toNat_natCast] at hall hone
    have hlaw := isol_law (S := S) (b := b) (N := N) (m := m) hb6.1 (by omega) (fun i hi => by
      have a1 := hok.2.2.1 i hi
      rw [Int.toNat_natCast] at a1
      exact ⟨(wf_u32 (HS.out i)).1, a1⟩) (fun i j hi hj hne e => by
      rcases Nat.lt_trichotomy i j with h | h | h
      · exact hok.2.2.2 j i h hj e.symm
      · exact hne h
      · exact hok.2.2.2 i j h hi e)
    have hsum : sumN (fun d => if soloB (fun i => swt (S i) (wtD b d) N) m then 1 else 0) (b ^ N) = cntO (isoW S b N m) (b ^ N) := (cntO_sum _ _).symm
    rw [hsum] at hlaw
    obtain ⟨V, hV⟩ : ∃ V : Nat, V = cntO (isoW S b N m) (b ^ N) := ⟨_, rfl⟩
    obtain ⟨Q, hQ⟩ : ∃ Q : Nat, Q = b ^ N := ⟨_, rfl⟩
    have hVQ : V ≤ Q := by rw [hV, hQ]; exact cntO_le _ _
    rw [← hV] at hlaw hone
    rw [← hQ] at hall hlaw
    subst hall
    subst hone
    have hQ4 : Q ≤ 7776 := by rw [hQ]; exact Nat.le_trans (Nat.pow_le_pow_left hb6.2 N) (Nat.pow_le_pow_right (n := 6) (i := N) (j := 5) (by omega) (by omega))
    obtain ⟨X1, hX1⟩ : ∃ X1 : Nat, b * V = X1 := ⟨_, rfl⟩
    obtain ⟨X2, hX2⟩ : ∃ X2 : Int, ((b : Int) - (N : Int)) * (Q : Int) = X2 := ⟨_, rfl⟩
    have hx1 : (b : Int) * (V : Int) = (X1 : Int) := by rw [← hX1]; push_cast; rfl
    have hle : X2 ≤ (X1 : Int) := by
      rw [← hX2, Int.sub_mul]
      have e1 : ((b * Q : Nat) : Int) ≤ ((b * V + N * Q : Nat) : Int) := by exact_mod_cast hlaw
      push_cast at e1
      omega
    have hX1b : X1 ≤ 60000 := by rw [← hX1]; exact Nat.le_trans (Nat.mul_le_mul hb6.2 (Nat.le_trans hVQ hQ4)) (by omega)
    have hX2b : -60000 ≤ X2 := by
      rw [← hX2, Int.sub_mul]
      have e1 : N * Q ≤ 5 * 7776 := Nat.mul_le_mul (by omega) hQ4
      have e2 : ((N * Q : Nat) : Int) ≤ 38880 := by omega
      push_cast at e2
      have e3 : (0 : Int) ≤ (b : Int) * (Q : Int) := Int.mul_nonneg (by omega) (by omega)
      omega
    have q0 : ((Q : Int) == (Q : Int)) = true := by simp
    have HQ := Lib.hid hQ
    clear hok hkok HC HV hV hQ hX1 hsum hlaw
    go_wp2_with (first
      | (go_at_call 14; refine (within_any _ _ _ _).mono ?_; rintro e w' ⟨rfl, rfl⟩)
      | (go_at_call 16; refine (power_any b N (by omega) (by omega) _).mono ?_; rintro e w' ⟨rfl, rfl⟩; rw [← HQ.out]))
    go_ret
    exact ⟨rfl, HB2.out⟩
  · have hne : (x != 0) = true := by simp [hx]
    have HNO := Lib.hid hno
    clear HC hno
    cases v
    · go_wp2_with fail
      go_ret
      exact ⟨rfl, HB2.out⟩
    · have hok := HV.out.1 rfl
      have HOK := Lib.hid hok
      clear hok
      have hk : ¬ (1 ≤ k ∧ k ≤ 6) := fun h => HNO.out ⟨HOK.out, h⟩
      have i1 := inB_no (l := 1) (x := k) (h := 6) hk
      clear hk
      go_wp2_with (go_at_call 14; refine (within_any _ _ _ _).mono ?_; rintro e w' ⟨rfl, rfl⟩)
      go_ret
      exact ⟨rfl, HB2.out⟩
end loneIsolate
end Go.Proofs.Ytmnleblbandghaa
