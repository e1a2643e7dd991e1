/- What ask.wrong, same, least, proof compute. Conditions: the table reads as a function of its index. -/
import Derived.Test.YthaabgknolahaaaAskLaw
import Derived.Test.YthaabgknolahaaaTabled
namespace Go.Proofs.Ythaabgknolahaaa
open Go.ChangeShapes Go.WideShapes Go.ChangeAt Go.RowKit
set_option linter.unusedVariables false
set_option linter.unusedSimpArgs false
theorem xorA (a b : Nat) (ha : a < 9223372036854775808) (hb : b < 9223372036854775808) : bits .xor .i64 (a : Int) (b : Int) = ((a ^^^ b : Nat) : Int) := by
  have hx : a ^^^ b < 2 ^ 63 := Nat.xor_lt_two_pow (by omega) (by omega)
  show IntKind.i64.wrap ((BitVec.ofInt 64 (a : Int) ^^^ BitVec.ofInt 64 (b : Int)).toNat : Int) = _
  rw [BitVec.toNat_xor, ofInt64 a ha, ofInt64 b hb, IntKind.wrap_i64]
  omega
theorem tabE_zero {n : Int} {m : Nat} {x : Int} (h : tabE n m x = 0) : ∃ N : Nat, n = N ∧ N ≤ 4 ∧ m = 2 ^ N ∧ 0 ≤ x ∧ x < m := by
  unfold tabE at h
  by_cases h1 : 0 ≤ n ∧ n ≤ 4
  · rw [if_pos h1] at h
    by_cases h2 : m = 2 ^ n.toNat
    · rw [if_pos h2] at h
      by_cases h3 : 0 ≤ x ∧ x < m
      · exact ⟨n.toNat, by omega, by omega, h2, h3⟩
      · rw [if_neg h3] at h; omega
    · rw [if_neg h2] at h; omega
  · rw [if_neg h1] at h; omega
set_option maxRecDepth 100000 in
theorem askWrong_any (n x : Int) (A : Option Addr) (m c : Nat) (w : World) (hm : m ≤ maxLen) :
    Calls Try.prog 15 #[.int .i64 n, .slice A m c, .int .i64 x] w fun e w' => e = .returned (.int .i64 (tabE n m x)) ∧ w = w' := by
  unfold maxLen at hm
  unfold tabE
  by_cases hn : 0 ≤ n ∧ n ≤ 4
  · rw [if_pos hn]
    obtain ⟨n0, n4⟩ := hn
    obtain ⟨N, rfl⟩ := Int.eq_ofNat_of_zero_le n0
    obtain ⟨p0, p1, _, _⟩ := tpow_bd (N := N) (by omega)
    rw [Int.toNat_natCast]
    have hw : IntKind.i64.wrap ((2 : Int) ^ N) = 2 ^ N := IntWalk.i64_in _ (by omega)
    have hw' : wrap64 ((2 : Int) ^ N) = 2 ^ N := IntWalk.wrap64_in _ (by omega)
    have g0 : ¬ ((N : Nat) : Int) < 0 := by omega
    by_cases he : m = 2 ^ N
    · rw [if_pos he]
      have hq : ((m : Int) != 2 ^ N) = false := by rw [bne_eq_false_iff_eq, he]; simp
      have he2 : ((2 : Int) ^ N) = (m : Int) := by rw [he]; simp
      by_cases hx : 0 ≤ x ∧ x < m
      · rw [if_pos hx]
        have d1 : ¬ x < 0 := by omega
        have d2 : ¬ (2 : Int) ^ N ≤ x := by omega
        clear he hx he2
        go_enter Try.func15, Try.ntmps15
        go_wp2_with fail
        go_ret
        exact ⟨rfl, rfl⟩
      · rw [if_neg hx]
        by_cases d1 : x < 0
        · clear he hx he2
          go_enter Try.func15, Try.ntmps15
          go_wp2_with fail
          go_ret
          exact ⟨rfl, rfl⟩
        · have d2 : (2 : Int) ^ N ≤ x := by omega
          clear he hx he2
          go_enter Try.func15, Try.ntmps15
          go_wp2_with fail
          go_ret
          exact ⟨rfl, rfl⟩
    · rw [if_neg he]
      have hq : ((m : Int) != 2 ^ N) = true := by rw [bne_iff_ne]; intro hh; exact he (by exact_mod_cast hh)
      clear he
      go_enter Try.func15, Try.ntmps15
      go_wp2_with fail
      go_ret
      exact ⟨rfl, rfl⟩
  · rw [if_neg hn]
    by_cases d1 : n < 0
    · clear hn
      go_enter Try.func15, Try.ntmps15
      go_wp2_with fail
      go_ret
      exact ⟨rfl, rfl⟩
    · have d2 : 4 < n := by omega
      clear hn
      go_enter Try.func15, Try.ntmps15
      go_wp2_with fail
      go_ret
      exact ⟨rfl, rfl⟩
/-- the table is there -/
def Tb (w : World) (A : Option Addr) (n : Nat) (F : Nat → Bool) : Prop := Rd w A (2 ^ n) (fun i => .bool (F i))
theorem sm_lt {F : Nat → Bool} {m k x : Nat} (h : ∀ y, y < m → ¬ ((x ^^^ y) &&& k = 0 ∧ F y ≠ F x)) : smW F m k x = true := smW_iff.2 fun y hy e => by
  by_cases h2 : F y = F x
  · exact h2
  · exact absurd ⟨e, h2⟩ (h y hy)
set_option maxRecDepth 100000 in
theorem same_any (A : Option Addr) (n c k x : Nat) (F : Nat → Bool) (w : World) (h : Tb w A n F) (h4 : n ≤ 4) (hk : k < 2 ^ n) (hx : x < 2 ^ n) :
    Calls Try.prog 22 #[.slice A (2 ^ n) c, .int .i64 (k : Nat), .int .i64 (x : Nat)] w fun e w' => e = .returned (.bool (smW F (2 ^ n) k x)) ∧ w = w' := by
  obtain ⟨m, hm⟩ : ∃ m, m = 2 ^ n := ⟨_, rfl⟩
  have hp := (p16 h4).2
  unfold Tb at h
  rw [← hm] at h hk hx hp ⊢
  clear hm
  obtain ⟨b, o, rfl, hb, hcx⟩ := h.at_ hx
  have H := Lib.hid h
  clear h
  go_enter Try.func22, Try.ntmps22
  go_wp2_with fail
  go_loop [11] (fun s11 => ∃ y : Nat, y ≤ m ∧ s11 = .int .i64 (y : Nat) ∧ Hid (∀ q, q < y → ¬ ((x ^^^ q) &&& k = 0 ∧ F q ≠ F x))) (fun s11 => m - (intOf s11).toNat)
  case atStart => exact ⟨0, Nat.zero_le _, rfl, Lib.hid (fun q hq => absurd hq (Nat.not_lt_zero _))⟩
  case round =>
    obtain ⟨y, hy, rfl, HALL⟩ := hrel
    by_cases hym : y < m
    · have hcy : w.cell? ⟨b, o + y, none⟩ = some (.bool (F y)) := by
        obtain ⟨b', o', e, _, hc⟩ := H.out.at_ hym
        cases e; exact hc
      have e1 := xorA x y (by omega) (by omega)
      have e2 := and_nat (x ^^^ y) k (by have := Nat.xor_lt_two_pow (n := 4) (x := x) (y := y) (by omega) (by omega); omega) (by omega)
      obtain ⟨v, hv⟩ : ∃ v, v = (x ^^^ y) &&& k := ⟨_, rfl⟩
      obtain ⟨u, hu⟩ : ∃ u, u = x ^^^ y := ⟨_, rfl⟩
      rw [← hv] at e2
      rw [← hu] at e1 e2
      obtain ⟨p, hpv⟩ : ∃ p, p = F y := ⟨_, rfl⟩
      obtain ⟨q, hqv⟩ : ∃ q, q = F x := ⟨_, rfl⟩
      rw [← hpv] at hcy
      rw [← hqv] at hcx
      have HV := Lib.hid hv
      have HPV := Lib.hid hpv
      have HQV := Lib.hid hqv
      by_cases hz : v = 0
      · subst hz
        have z0 : (((0 : Nat) : Int) == 0) = true := rfl
        by_cases hpq : p = q
        · have HALL2 : Hid (∀ q, q < y + 1 → ¬ ((x ^^^ q) &&& k = 0 ∧ F q ≠ F x)) := Lib.hid (fun j hj => by
            by_cases e : j = y
            · rw [e]; exact fun h => h.2 (by rw [← HPV.out, ← HQV.out]; exact hpq)
            · exact HALL.out j (by omega))
          subst hpq
          clear hv hu hpv hqv
          rcases (by cases p <;> simp : p = true ∨ p = false) with rfl | rfl
          all_goals
            go_wp2_with fail
            go_round
            case rel => exact ⟨y + 1, by omega, by go_num, HALL2⟩
            case measure => simp [intOf]; omega
        · have hfin : smW F m k x = false := by
            cases hs : smW F m k x with
            | false => rfl
            | true => exact absurd (smW_iff.1 hs y hym (by rw [← HV.out])) (by rw [← HPV.out, ← HQV.out]; exact hpq)
          have HFIN := Lib.hid hfin
          clear hv hu hpv hqv hfin
          rcases (by cases p <;> cases q <;> simp_all : (p = true ∧ q = false) ∨ (p = false ∧ q = true)) with ⟨rfl, rfl⟩ | ⟨rfl, rfl⟩
          all_goals
            clear hpq
            go_wp2_with fail
            go_ret
            exact ⟨ret_bool HFIN.out.symm, rfl⟩
      · have z0 : ((v : Int) == 0) = false := by rw [beq_eq_false_iff_ne]; omega
        clear hv hu hpv hqv
        go_wp2_with fail
        go_round
        case rel => exact ⟨y + 1, by omega, by go_num, Lib.hid (fun j hj => by
          by_cases e : j = y
          · rw [e]; exact fun h => hz (by rw [HV.out]; exact h.1)
          · exact HALL.out j (by omega))⟩
        case measure => simp [intOf]; omega
    · obtain rfl : y = m := by omega
      go_wp2_with fail
      go_ret
      exact ⟨ret_bool (sm_lt HALL.out).symm, rfl⟩
theorem or_P : ∀ x : Nat, x < 16 → ∀ i : Nat, i < 4 → bits .or .i64 (x : Int) (2 ^ i) = ((setB x i : Nat) : Int) := by decide +kernel
theorem andn_P : ∀ x : Nat, x < 16 → ∀ i : Nat, i < 4 → bits .andNot .i64 (x : Int) (2 ^ i) = ((clrB x i : Nat) : Int) := by decide +kernel
theorem and_P : ∀ x : Nat, x < 16 → ∀ i : Nat, i < 4 → bits .and .i64 (x : Int) (2 ^ i) = if hasBit x i = true then 2 ^ i else 0 := by decide +kernel
theorem w2_P : ∀ i : Nat, i < 4 → wrap64 ((2 : Int) ^ i) = 2 ^ i ∧ IntKind.i64.wrap ((2 : Int) ^ i) = 2 ^ i ∧ (0 : Int) < 2 ^ i := by decide +kernel
set_option maxRecDepth 100000 in
set_option maxHeartbeats 2000000 in
theorem least_any (A : Option Addr) (n c : Nat) (F : Nat → Bool) (w : World) (h : Tb w A n F) (h4 : n ≤ 4) : ∀ g k x, k < 2 ^ n → x < 2 ^ n → 2 ^ n ≤ k + g →
    Calls Try.prog 16 #[.int .i64 (n : Nat), .slice A (2 ^ n) c, .int .i64 (k : Nat), .int .i64 (x : Nat)] w fun e w' => e = .returned (.tuple #[.int .i64 ((lsF n F g k x).1 : Nat), .int .i64 (lsF n F g k x).2]) ∧ w = w'
  | 0, k, x, hk, hx, hg => absurd hg (by omega)
  | g + 1, k, x, hk, hx, hg => by
    have hsa := same_any A n c k x F w h h4 hk hx
    have hp := (p16 h4).2
    by_cases hs : smW F (2 ^ n) k x = true
    · rw [show lsF n F (g + 1) k x = (0, -1) by rw [lsF, if_pos hs]]
      rw [hs] at hsa
      have HSA := Lib.hid hsa
      clear hsa hs
      go_enter Try.func16, Try.ntmps16
      go_wp2_with fail
      refine HSA.out.mono ?_
      rintro e w2 ⟨rfl, rfl⟩
      go_wp2_with fail
      go_ret2
      exact ⟨rfl, rfl⟩
    · have hs' : smW F (2 ^ n) k x = false := by simpa using hs
      rw [show lsF n F (g + 1) k x = fdL n (fun i => 1 + max (lsF n F g (setB k i) (clrB x i)).1 (lsF n F g (setB k i) (setB x i)).1) k n by rw [lsF, if_neg hs]]
      rw [hs'] at hsa
      have HSA := Lib.hid hsa
      obtain ⟨C, hC⟩ : ∃ C : Nat → Nat, C = fun i => 1 + max (lsF n F g (setB k i) (clrB x i)).1 (lsF n F g (setB k i) (setB x i)).1 := ⟨_, rfl⟩
      have hrec : ∀ i, i < n → hasBit k i = false → ∃ a b : Nat, ∃ p q : Int, a ≤ 4 ∧ b ≤ 4 ∧ C i = 1 + max a b ∧ (Calls Try.prog 16 #[.int .i64 (n : Nat), .slice A (2 ^ n) c, .int .i64 (setB k i : Nat), .int .i64 (clrB x i : Nat)] w fun e w' => e = .returned (.tuple #[.int .i64 (a : Nat), .int .i64 p]) ∧ w = w') ∧ (Calls Try.prog 16 #[.int .i64 (n : Nat), .slice A (2 ^ n) c, .int .i64 (setB k i : Nat), .int .i64 (setB x i : Nat)] w fun e w' => e = .returned (.tuple #[.int .i64 (b : Nat), .int .i64 q]) ∧ w = w') := fun i hi hb => by
        obtain ⟨a1, a2, a3⟩ := setB_gt n (by omega) k (by omega) i (by omega) hk hi hb
        obtain ⟨b1, b2⟩ := sets_lt n (by omega) x (by omega) i (by omega) hx hi
        have l1 := (ls_ok h4 F g (setB k i) (clrB x i) a2 b2 (by omega)).1
        have l2 := (ls_ok h4 F g (setB k i) (setB x i) a2 b1 (by omega)).1
        exact ⟨_, _, _, _, by omega, by omega, by rw [hC], least_any A n c F w h h4 g (setB k i) (clrB x i) a2 b2 (by omega), least_any A n c F w h h4 g (setB k i) (setB x i) a2 b1 (by omega)⟩
      have HREC := Lib.hid hrec
      rw [← hC]
      have hfd : ∀ i, i ≤ n → (fdL n C k i).1 ≤ 5 := fun i hi => by
        rcases fd_ok n C k i with ⟨_, b, _⟩ | ⟨j, a, b, _, d, _⟩
        · rw [b]; omega
        · obtain ⟨p, q, _, _, h1, h2, h3, _⟩ := hrec j (by omega) b
          rw [d, h3]; omega
      have HFD := Lib.hid hfd
      have HH := Lib.hid h
      clear hsa hs hs' hC hrec hfd h
      go_enter Try.func16, Try.ntmps16
      go_wp2_with fail
      refine HSA.out.mono ?_
      rintro e w2 ⟨rfl, rfl⟩
      clear HSA
      go_wp2_with fail
      go_loop [10, 11, 26] (fun s10 s11 s26 => ∃ i : Nat, i ≤ n ∧ s26 = .int .i64 (i : Nat) ∧ s10 = .int .i64 ((fdL n C k i).1 : Nat) ∧ s11 = .int .i64 (fdL n C k i).2) (fun _ _ s26 => n - (intOf s26).toNat)
      case atStart => exact ⟨0, Nat.zero_le _, rfl, by simp [fdL], rfl⟩
      case round =>
        obtain ⟨i, hi, rfl, rfl, rfl⟩ := hrel
        by_cases hin : i < n
        · have h5 := HFD.out i (by omega)
          obtain ⟨e1, e2, e3⟩ := w2_P i (by omega)
          have e4 := and_P k (by omega) i (by omega)
          have hsucc : fdL n C k (i + 1) = if hasBit k i = true then fdL n C k i else if C i < (fdL n C k i).1 then (C i, (i : Int)) else fdL n C k i := rfl
          obtain ⟨be, hbe⟩ : ∃ be, be = (fdL n C k i).1 := ⟨_, rfl⟩
          obtain ⟨wh, hwh⟩ : ∃ wh, wh = (fdL n C k i).2 := ⟨_, rfl⟩
          rw [← hbe] at h5 hsucc ⊢
          rw [← hwh]
          cases hb : hasBit k i with
          | true =>
            rw [hb, if_pos rfl] at e4 hsucc
            have z0 : ((2 : Int) ^ i != 0) = true := by rw [bne_iff_ne]; omega
            have HS := Lib.hid hsucc
            have HBE := Lib.hid hbe
            have HWH := Lib.hid hwh
            clear hb hsucc hbe hwh
            go_wp2_with fail
            go_round
            case rel => exact ⟨i + 1, by omega, by go_num, by rw [HS.out, HBE.out], by rw [HS.out, HWH.out]⟩
            case measure => simp [intOf]; omega
          | false =>
            obtain ⟨p, q, p', q', h1, h2, h3, hc1, hc2⟩ := HREC.out i hin hb
            rw [hb, if_neg (by decide)] at e4 hsucc
            rw [h3] at hsucc
            have e5 := or_P k (by omega) i (by omega)
            have e6 := andn_P x (by omega) i (by omega)
            have e7 := or_P x (by omega) i (by omega)
            obtain ⟨u1, hu1⟩ : ∃ u, u = setB k i := ⟨_, rfl⟩
            obtain ⟨u2, hu2⟩ : ∃ u, u = clrB x i := ⟨_, rfl⟩
            obtain ⟨u3, hu3⟩ : ∃ u, u = setB x i := ⟨_, rfl⟩
            rw [← hu1] at e5 hc1 hc2
            rw [← hu2] at e6 hc1
            rw [← hu3] at e7 hc2
            obtain ⟨M, hM⟩ : ∃ M, M = max p q := ⟨_, rfl⟩
            have hM2 : max ((p : Nat) : Int) ((q : Nat) : Int) = (M : Int) := by omega
            have hM3 : M ≤ 4 := by omega
            rw [← hM] at hsucc
            have HC1 := Lib.hid hc1
            have HC2 := Lib.hid hc2
            have HS := Lib.hid hsucc
            have HBE := Lib.hid hbe
            have HWH := Lib.hid hwh
            by_cases hlt : 1 + M < be
            · clear hb hsucc hbe hwh hc1 hc2 hu1 hu2 hu3 h3 hM
              go_wp2_with fail
              refine HC1.out.mono ?_
              rintro e w2 ⟨rfl, rfl⟩
              go_wp2_with fail
              refine HC2.out.mono ?_
              rintro e w2 ⟨rfl, rfl⟩
              go_wp2_with fail
              go_round
              case rel => exact ⟨i + 1, by omega, by go_num, by rw [HS.out, if_pos hlt]; go_num, by rw [HS.out, if_pos hlt]⟩
              case measure => simp [intOf]; omega
            · clear hb hsucc hbe hwh hc1 hc2 hu1 hu2 hu3 h3 hM
              go_wp2_with fail
              refine HC1.out.mono ?_
              rintro e w2 ⟨rfl, rfl⟩
              go_wp2_with fail
              refine HC2.out.mono ?_
              rintro e w2 ⟨rfl, rfl⟩
              go_wp2_with fail
              go_round
              case rel => exact ⟨i + 1, by omega, by go_num, by rw [HS.out, if_neg hlt, HBE.out], by rw [HS.out, if_neg hlt, HWH.out]⟩
              case measure => simp [intOf]; omega
        · obtain rfl : i = n := by omega
          go_wp2_with fail
          go_ret2
          exact ⟨rfl, rfl⟩
end Go.Proofs.Ythaabgknolahaaa
