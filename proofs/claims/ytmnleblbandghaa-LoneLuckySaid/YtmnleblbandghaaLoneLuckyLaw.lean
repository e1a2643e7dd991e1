/- Of all lists of so many checks an eighth, or more, leave just one set. No condition. -/
import Derived.Test.YtmnleblbandghaaLuckyLaw
import Derived.Test.YtmnleblbandghaaLoneCheck
namespace Go.Proofs.Ytmnleblbandghaa
open Go.ChangeShapes Go.WideShapes Go.ChangeAt Go.RowKit
set_option linter.unusedVariables false
theorem lucky_any (n : Int) (A : Option Addr) (m c : Nat) (S : Nat → Int) (k : Int) (w : World) (wn : (Lit.int .i64 n).wf = true) (wk : (Lit.int .i64 k).wf = true) (h : Rd w A m (fun i => .int .u32 (S i))) (hm : m ≤ maxLen) (hS : ∀ i, i < m → (Lit.int .u32 (S i)).wf = true) :
    Calls Try.prog 13 #[.int .i64 n, .slice A m c, .int .i64 k] w (LucR n m S k w) :=
  callsIn_wide.1 (lucky_in Fence.wide (Lib.hid rfl) 8 (by omega) rfl n A m c S k w wn wk h hm hS)
theorem w64nat {x : Nat} (h : x ≤ 2048) : wrap64 (x : Int) = (x : Int) := IntWalk.wrap64_in _ (by omega)
namespace loneLucky
set_option maxRecDepth 100000 in
set_option maxHeartbeats 1000000 in
theorem walk (w : World) (n : Int) (A : Option Addr) (m c : Nat) (S : Nat → Int) (k : Int) (wn : (Lit.int .i64 n).wf = true) (h : Rd w A m (fun i => .int .u32 (S i))) (wfS : ∀ i, (Lit.int .u32 (S i)).wf = true) (hl : m ≤ c) (hm : c ≤ maxLen) (z : c * 4 ≤ 140737488351232) (wk : (Lit.int .i64 k).wf = true) :
    Calls Try.prog 5 #[.int .i64 n, .slice A m c, .int .i64 k] w fun e w' => e = .returned (.bool true) ∧ Below w.heap.size w w' := by
  have hmm : m ≤ maxLen := by omega
  have k63 : -9223372036854775808 ≤ k ∧ k ≤ 9223372036854775807 := by
    have := wk
    simp [Lit.wf, IntKind.min, IntKind.max, IntKind.signed, IntKind.bits] at this; omega
  have H := Lib.hid h
  have HS := Lib.hid wfS
  have HM := Lib.hid hmm
  clear h wfS hm hmm
  go_enter Try.func5, Try.ntmps5
  go_wp2_with fail
  refine (lucky_any n A m c S k w wn wk H.out HM.out (fun i _ => HS.out i)).mono ?_
  rintro e w1 ⟨one, all, x, rfl, hb1, hcase⟩
  have HB1 := Lib.hid hb1
  have HC := Lib.hid hcase
  clear hb1 hcase
  go_wp2_with fail
  refine (setted_any n A m c S w1 wn (H.out.below HB1.out) HM.out (fun i _ => HS.out i)).mono ?_
  rintro e w2 ⟨⟨v, rfl, hv⟩, hb2⟩
  have HB2 := Lib.hid (HB1.out.trans (hb2.mono HB1.out.size))
  have HV := Lib.hid hv
  clear hb2 hv
  rcases HC.out with ⟨rfl, hok, hkok, hall, hone⟩ | ⟨hx, hno⟩
  · obtain rfl : v = true := HV.out.2 hok
    have hn5 := hok.1
    have hm200 := hok.2.1
    have i1 := inB_yes (l := 0) (x := k) (h := 12) hkok.1 hkok.2.1
    obtain ⟨N, rfl⟩ : ∃ N : Nat, n = (N : Int) := ⟨n.toNat, by omega⟩
    obtain ⟨K, rfl⟩ : ∃ K : Nat, k = (K : Int) := ⟨k.toNat, by have := hkok.1; omega⟩
    obtain ⟨Z, hZ⟩ : ∃ Z : Nat, K * N = Z := ⟨_, rfl⟩
    have hZi : (K : Int) * (N : Int) = (Z : Int) := by rw [← hZ]; push_cast; rfl
    have hZ12 : Z ≤ 12 := by have := hkok.2.2; omega
    have hK12 : K ≤ 12 := by have := hkok.2.1; omega
    rw [Int.toNat_natCast, Int.toNat_natCast] at hall hone
    obtain ⟨Q, hQ⟩ : ∃ Q : Nat, Q = (2 ^ N) ^ K := ⟨_, rfl⟩
    obtain ⟨V, hV⟩ : ∃ V : Nat, V = cntO (isol (tN S) (2 ^ N) K m) ((2 ^ N) ^ K) := ⟨_, rfl⟩
    rw [← hQ] at hall
    rw [← hV] at hone
    subst hall
    subst hone
    have hVQ : V ≤ Q := by rw [hV, hQ]; exact cntO_le _ _
    have hQZ : Q = 2 ^ Z := by rw [hQ, ← Nat.pow_mul, Nat.mul_comm, hZ]
    have hQ4 : Q ≤ 4096 := by rw [hQZ]; exact Nat.pow_le_pow_right (by omega) hZ12
    have hwQ : wrap64 ((2 : Int) ^ Z) = (Q : Int) := by
      have : (2 : Int) ^ Z = (Q : Int) := by rw [hQZ]; push_cast; rfl
      rw [this]; exact IntWalk.wrap64_in _ (by omega)
    have q1 : ((Q : Int) != wrap64 ((2 : Int) ^ Z)) = false := by rw [hwQ]; exact bne_self_eq_false _
    have q2 : decide ((V : Int) < 0) = false := by simp
    have q3 : decide ((Q : Int) < (V : Int)) = false := by simp; omega
    have q4 : decide ((12 : Int) < (Z : Int)) = false := by simp; omega
    have HOK := Lib.hid hok
    have HQ := Lib.hid hQ
    have HVV := Lib.hid hV
    clear hok hkok HC HV hZ hQ hV hwQ hQZ
    go_wp2_with (go_at_call 14; refine (within_any _ _ _ _).mono ?_; rintro e w' ⟨rfl, rfl⟩)
    have HQ1 := Lib.hid q1
    clear q1 q2 q3 q4
    go_loop [59] (fun s59 => ∃ i : Nat, i ≤ m ∧ s59 = .int .i64 (i : Nat) ∧ Hid (∀ j, j < i → S j ≠ 0)) (fun s59 => m - (intOf s59).toNat)
    case atStart => exact ⟨0, by omega, rfl, Lib.hid (fun j h => absurd h (Nat.not_lt_zero _))⟩
    case round =>
      obtain ⟨i, hi, rfl, HN⟩ := hrel
      by_cases hlt : i < m
      · obtain ⟨b, off, rfl, hbb, hc0⟩ := H.out.at_ hlt
        have hc := (HB2.out.cell (p := ⟨b, off + i, none⟩) hbb).trans hc0
        clear hc0
        by_cases hz : S i = 0
        · have qz : (S i == 0) = true := by simp [hz]
          have HZ := Lib.hid hz
          clear hz
          go_wp2_with fail
          go_ret
          exact ⟨rfl, HB2.out⟩
        · have qz : (S i == 0) = false := by simp [hz]
          have HZ := Lib.hid hz
          clear hz
          go_wp2_with fail
          go_round
          case rel => exact ⟨i + 1, by omega, by go_num, Lib.hid (fun j hj => by
            by_cases e : j = i
            · subst e; exact HZ.out
            · exact HN.out j (by omega))⟩
          case measure => simp [intOf]; omega
      · obtain rfl : i = m := by omega
        by_cases hk2 : K < 2
        · have q5 : decide ((K : Int) < 2) = true := by simp; omega
          go_wp2_with fail
          go_ret
          exact ⟨rfl, HB2.out⟩
        · have q5 : decide ((K : Int) < 2) = false := by simp; omega
          obtain ⟨J1, hJ1⟩ : ∃ J1, J1 = K - 1 := ⟨_, rfl⟩
          obtain ⟨J2, hJ2⟩ : ∃ J2, J2 = K - 2 := ⟨_, rfl⟩
          have e1 : (K : Int) - 1 = (J1 : Int) := by omega
          have e2 : (K : Int) - 2 = (J2 : Int) := by omega
          have p1 : (2 : Int) ^ J1 = ((2 ^ J1 : Nat) : Int) := by push_cast; rfl
          have p2 : (2 : Int) ^ J2 = ((2 ^ J2 : Nat) : Int) := by push_cast; rfl
          have b1 : 2 ^ J1 ≤ 2048 := Nat.pow_le_pow_right (n := 2) (j := 11) (by omega) (by omega)
          have b2 : 2 ^ J2 ≤ 2048 := Nat.pow_le_pow_right (n := 2) (j := 11) (by omega) (by omega)
          have v1 : wrap64 ((2 : Int) ^ J1) = ((2 ^ J1 : Nat) : Int) := by rw [p1]; exact w64nat b1
          have v2 : wrap64 ((2 : Int) ^ J2) = ((2 ^ J2 : Nat) : Int) := by rw [p2]; exact w64nat b2
          have P1 := Lib.hid v1
          have P2 := Lib.hid v2
          have D1 := Lib.hid hJ1
          have D2 := Lib.hid hJ2
          clear p1 p2 v1 v2 hJ1 hJ2
          by_cases g1 : 2 ^ J1 < i
          · have l6 : wrap64 ((2 : Int) ^ J1) < (i : Int) := by rw [P1.out]; omega
            have q6 : decide (wrap64 ((2 : Int) ^ J1) < (i : Int)) = true := decide_eq_true l6
            clear b1 b2 g1 l6
            go_wp2_with fail
            go_ret
            exact ⟨rfl, HB2.out⟩
          · have l6 : ¬ wrap64 ((2 : Int) ^ J1) < (i : Int) := by rw [P1.out]; omega
            have q6 : decide (wrap64 ((2 : Int) ^ J1) < (i : Int)) = false := decide_eq_false l6
            by_cases g2 : i < 2 ^ J2
            · have l7 : (i : Int) < wrap64 ((2 : Int) ^ J2) := by rw [P2.out]; omega
              have q7 : decide ((i : Int) < wrap64 ((2 : Int) ^ J2)) = true := decide_eq_true l7
              clear b1 b2 g1 g2 l6 l7
              go_wp2_with fail
              go_ret
              exact ⟨rfl, HB2.out⟩
            · have l7 : ¬ (i : Int) < wrap64 ((2 : Int) ^ J2) := by rw [P2.out]; omega
              have q7 : decide ((i : Int) < wrap64 ((2 : Int) ^ J2)) = false := decide_eq_false l7
              have hlaw : Q ≤ 8 * V := by
                have h1 := lucky_law (S := tN S) (n := N) (K := K) (m := i) (by omega) (fun j hj => by
                  have a1 := HOK.out.2.2.1 j hj
                  have a2 := wf_u32 (HS.out j)
                  have a3 := HN.out j hj
                  rw [Int.toNat_natCast] at a1
                  have a4 : ((2 ^ N : Nat) : Int) = (2 : Int) ^ N := by push_cast; rfl
                  exact ⟨by show (S j).toNat < _; omega, by show (S j).toNat ≠ _; omega⟩) (fun a b ha hb hab e => by
                  have a2 := wf_u32 (HS.out a)
                  have a3 := wf_u32 (HS.out b)
                  have e2 : (S a).toNat = (S b).toNat := e
                  have e3 : S a = S b := by omega
                  rcases Nat.lt_trichotomy a b with h | h | h
                  · exact HOK.out.2.2.2 b a h hb e3.symm
                  · exact hab h
                  · exact HOK.out.2.2.2 a b h ha e3) (by omega) (by rw [← D2.out]; omega) (by rw [← D1.out]; omega)
                rw [← HVV.out, ← HQ.out] at h1
                exact h1
              have l8 : (Q : Int) ≤ 8 * (V : Int) := by omega
              clear b1 b2 g1 g2 l6 l7
              go_wp2_with fail
              go_ret
              exact ⟨by first | rfl | exact ret_true (decide_eq_true l8), HB2.out⟩
  · have hne : (x != 0) = true := by simp [hx]
    have HNO := Lib.hid hno
    clear HC hno
    cases v
    · go_wp2_with fail
      go_ret
      exact ⟨rfl, HB2.out⟩
    · have hok := HV.out.1 rfl
      have hn5 := hok.1
      have HOK := Lib.hid hok
      clear hok
      by_cases hk : 0 ≤ k ∧ k ≤ 12
      · have i1 := inB_yes (l := 0) (x := k) (h := 12) hk.1 hk.2
        obtain ⟨Z, hZ⟩ : ∃ Z, k * n = Z := ⟨_, rfl⟩
        have hZ12 : 12 < Z := by
          have h1 : ¬ KOk n k := fun h => HNO.out ⟨HOK.out, h⟩
          by_cases h : 12 < Z
          · exact h
          · exact absurd (show KOk n k from ⟨hk.1, hk.2, by omega⟩) h1
        have hZb : Z ≤ 60 := by
          rw [← hZ]
          have h1 : k * n ≤ 12 * n := Int.mul_le_mul_of_nonneg_right (by omega) (by omega)
          omega
        go_wp2_with (go_at_call 14; refine (within_any _ _ _ _).mono ?_; rintro e w' ⟨rfl, rfl⟩)
        go_ret
        exact ⟨rfl, HB2.out⟩
      · have i1 := inB_no (l := 0) (x := k) (h := 12) hk
        go_wp2_with (go_at_call 14; refine (within_any _ _ _ _).mono ?_; rintro e w' ⟨rfl, rfl⟩)
        go_ret
        exact ⟨rfl, HB2.out⟩
end loneLucky
end Go.Proofs.Ytmnleblbandghaa
