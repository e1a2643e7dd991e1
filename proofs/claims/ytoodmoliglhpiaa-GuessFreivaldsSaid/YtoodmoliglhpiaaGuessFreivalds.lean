/- GuessFreivalds: a product that is another one is told by at least half of all lists, else by none. No condition. -/
import Derived.Test.YtoodmoliglhpiaaFreiRef
namespace Go.Proofs.Ytoodmoliglhpiaa
open Go.ChangeShapes Go.WideShapes Go.ChangeAt Go.RowKit
set_option linter.unusedVariables false
set_option linter.unusedSimpArgs false
namespace guessFreivalds
set_option maxRecDepth 100000 in
set_option maxHeartbeats 2000000 in
theorem walk (w : World) (aA : Option Addr) (n ac : Nat) (aR : Nat → SI) (bA : Option Addr) (bn bc : Nat) (bR : Nat → SI) (cA : Option Addr) (cn cc : Nat) (cR : Nat → SI)
    (r0 : Rd w aA n (fun i => (aR i).val)) (g0 : ∀ i, (aR i).good w) (l0 : n ≤ ac) (m0 : ac ≤ maxLen) (z0 : ac * 24 ≤ 140737488351232)
    (r1 : Rd w bA bn (fun i => (bR i).val)) (g1 : ∀ i, (bR i).good w) (l1 : bn ≤ bc) (m1 : bc ≤ maxLen) (z1 : bc * 24 ≤ 140737488351232)
    (r2 : Rd w cA cn (fun i => (cR i).val)) (g2 : ∀ i, (cR i).good w) (l2 : cn ≤ cc) (m2 : cc ≤ maxLen) (z2 : cc * 24 ≤ 140737488351232) :
    Calls Try.prog 5 #[.slice aA n ac, .slice bA bn bc, .slice cA cn cc] w fun e w' => e = .returned (.bool true) ∧ Below w.heap.size w w' := by
  obtain ⟨a, hae⟩ : ∃ a : MX, a = ⟨aA, n, ac, aR⟩ := ⟨_, rfl⟩
  obtain ⟨b, hbe⟩ : ∃ b : MX, b = ⟨bA, bn, bc, bR⟩ := ⟨_, rfl⟩
  obtain ⟨c, hce⟩ : ∃ c : MX, c = ⟨cA, cn, cc, cR⟩ := ⟨_, rfl⟩
  have ha : a.good w := by rw [hae]; exact ⟨r0, fun i _ => g0 i, l0, m0⟩
  have hb : b.good w := by rw [hbe]; exact ⟨r1, fun i _ => g1 i, l1, m1⟩
  have hc : c.good w := by rw [hce]; exact ⟨r2, fun i _ => g2 i, l2, m2⟩
  have hnm : n ≤ 9223372036854775807 := by unfold maxLen at m0; omega
  have hwr := Wrong_any a b c w ha hb hc
  have hsq := fun (W : World) (hW : Below w.heap.size w W) => squares_any a b c W (ha.below hW) (hb.below hW) (hc.below hW)
  have hpr := fun (W : World) (hW : Below w.heap.size w W) (hok : okM (L3 a b c)) (x : Nat) (hx : x < a.n) => by
    obtain ⟨hn, s1, s2, s3⟩ := okM_sq hok ha hb hc
    exact refProduct_any a b c a.n x W hn.2 hx (s1.below hW) (s2.below hW) (s3.below hW)
  have han : a.n = n := by rw [hae]
  have va : a.val = .slice aA n ac := by rw [hae]; rfl
  have vb' : b.val = .slice bA bn bc := by rw [hbe]; rfl
  have vc : c.val = .slice cA cn cc := by rw [hce]; rfl
  rw [va, vb', vc] at hwr hsq hpr
  rw [han] at hpr
  have HWR := Lib.hid hwr
  have HSQ := Lib.hid hsq
  have HPR := Lib.hid hpr
  have HAN := Lib.hid han
  clear r0 g0 l0 m0 z0 r1 g1 l1 m1 z1 r2 g2 l2 m2 z2 ha hb hc hwr hsq hpr han va vb' vc hae hbe hce
  go_enter Try.func5, Try.ntmps5
  go_wp2_with fail
  refine HWR.out.mono ?_
  rintro e w1 ⟨hw, hb1⟩
  have HB1 := Lib.hid hb1
  clear hb1 HWR
  rcases hw with ⟨hno, x, hxb, rfl⟩ | ⟨hok, rfl⟩
  · have HNO := Lib.hid hno
    clear hno
    go_wp2_with fail
    refine (HSQ.out w1 HB1.out).mono ?_
    rintro e w2 ⟨⟨y, rfl, hy⟩, hb2⟩
    have hyb : (y != 0) = true := by rw [bne_iff_ne]; exact fun h => HNO.out (hy.1 h)
    have HB2 := Lib.hid (HB1.out.trans (hb2.mono HB1.out.size))
    clear hy hb2
    go_wp2_with fail
    go_ret
    exact ⟨rfl, HB2.out⟩
  · have HOK := Lib.hid hok
    have hn := hok.1
    rw [show (L3 a b c 0).n = n from HAN.out] at hn
    obtain ⟨n1, n4⟩ := hn
    obtain ⟨MA, hMA⟩ : ∃ M, M = mE a := ⟨_, rfl⟩
    obtain ⟨MB, hMB⟩ : ∃ M, M = mE b := ⟨_, rfl⟩
    obtain ⟨MC, hMC⟩ : ∃ M, M = mE c := ⟨_, rfl⟩
    rw [HAN.out, ← hMA, ← hMB, ← hMC]
    obtain ⟨N, hN⟩ : ∃ N : Nat, N = 2 ^ n := ⟨_, rfl⟩
    have hN16 : N ≤ 16 := by rw [hN]; exact Nat.pow_le_pow_right (n := 2) (i := n) (j := 4) (by omega) n4
    have hN0 : 0 < N := by rw [hN]; exact Nat.pow_pos (by omega)
    have hpi : (2 : Int) ^ n = (N : Int) := by rw [hN]; push_cast; rfl
    have wN2 : wrap64 ((2 : Int) ^ n) = (N : Int) := by rw [hpi]; exact IntWalk.wrap64_in _ (by omega)
    rw [← hN]
    obtain ⟨k, hk⟩ : ∃ k, k = cntF (badF n MA MB MC) N := ⟨_, rfl⟩
    rw [← hk]
    have hk16 : k < N := by rw [hk]; exact bad_lt n MA MB MC N hN0
    have HK := Lib.hid hk
    have HN := Lib.hid hN
    have HP : Hid (∀ W, Below w.heap.size w W → ∀ x, x < n → Calls Try.prog 14 #[.slice aA n ac, .slice bA bn bc, .slice cA cn cc, .int .i64 ((2 ^ x : Nat) : Int)] W fun e w' => e = .returned (.bool (colOk n MA MB MC x)) ∧ Below W.heap.size W w') := Lib.hid (fun W hW x hx => by rw [hMA, hMB, hMC]; exact HPR.out W hW HOK.out x hx)
    clear hok HPR hMA hMB hMC hk hN hpi
    go_wp2_with fail
    refine (HSQ.out w1 HB1.out).mono ?_
    rintro e w2 ⟨⟨y, rfl, hy⟩, hb2⟩
    have hy0 : y = 0 := hy.2 HOK.out
    subst hy0
    have HB2 := Lib.hid (HB1.out.trans (hb2.mono HB1.out.size))
    clear hy hb2
    go_wp2_with fail
    go_loopw [10, 11] (fun s10 s11 wr => ∃ (i : Nat) (S : Bool), i ≤ n ∧ s11 = .int .i64 (i : Nat) ∧ s10 = .bool S ∧ Hid (S = true ↔ ∀ x, x < i → colOk n MA MB MC x = true) ∧ Hid (Below w.heap.size w wr)) (fun _ s11 _ => n - (intOf s11).toNat)
    case atStart => exact ⟨0, true, Nat.zero_le _, rfl, rfl, Lib.hid ⟨fun _ x h => absurd h (Nat.not_lt_zero _), fun _ => rfl⟩, HB2⟩
    case round =>
      clear HB2
      obtain ⟨wo, rfl⟩ : ∃ wo : World, wo = wr := ⟨_, rfl⟩
      obtain ⟨i, S, hi, rfl, rfl, HS, HB⟩ := hrel
      by_cases hlt : i < n
      · cases S
        · go_wp2_with fail
          go_roundw
          case rel => exact ⟨i + 1, false, by omega, by go_num, rfl, Lib.hid ⟨(fun h => by cases h), fun h => HS.out.2 fun x hx => h x (by omega)⟩, HB⟩
          case measure => simp [intOf]; omega
        · obtain ⟨p, hp⟩ : ∃ p : Nat, p = 2 ^ i := ⟨_, rfl⟩
          have hp16 : p ≤ 16 := by rw [hp]; exact Nat.pow_le_pow_right (n := 2) (i := i) (j := 4) (by omega) (by omega)
          have hpp : (2 : Int) ^ i = (p : Int) := by rw [hp]; push_cast; rfl
          have wp2 : wrap64 ((2 : Int) ^ i) = (p : Int) := by rw [hpp]; exact IntWalk.wrap64_in _ (by omega)
          have hcall := HP.out wo HB.out i hlt
          rw [← hp] at hcall
          obtain ⟨r, hr⟩ : ∃ r, r = colOk n MA MB MC i := ⟨_, rfl⟩
          rw [← hr] at hcall
          have HCALL := Lib.hid hcall
          have HR := Lib.hid hr
          clear hcall hr hp hpp
          go_wp2_with fail
          refine HCALL.out.mono ?_
          rintro e w5 ⟨rfl, hb5⟩
          have HB5 := Lib.hid (HB.out.trans (hb5.mono HB.out.size))
          clear hb5 HCALL
          go_wp2_with fail
          go_roundw
          case rel => exact ⟨i + 1, r, by omega, by go_num, rfl, Lib.hid ⟨fun h x hx => by
            by_cases e : x = i
            · rw [e, ← HR.out]; exact h
            · exact HS.out.1 (by simp) x (by omega), fun h => by rw [HR.out]; exact h i (by omega)⟩, HB5⟩
          case measure => simp [intOf]; omega
      · obtain rfl : i = n := by omega
        cases S
        · have hhalf : N ≤ 2 * k := by
            obtain ⟨x, hx, hcx⟩ : ∃ x, x < i ∧ colOk i MA MB MC x = false := by
              refine Classical.byContradiction fun hc => ?_
              have := HS.out.2 fun x hx => by
                cases e : colOk i MA MB MC x
                · exact absurd ⟨x, hx, e⟩ hc
                · rfl
              cases this
            rw [HK.out, HN.out]
            exact bad_half i MA MB MC n4 hx hcx
          have w2k : IntKind.i64.wrap (2 * (k : Int)) = 2 * (k : Int) := IntWalk.i64_in _ (by omega)
          have q1 : decide ((N : Int) ≤ 2 * (k : Int)) = true := decide_eq_true (by omega)
          have q2 : decide ((k : Int) < (N : Int)) = true := decide_eq_true (by omega)
          have h1 : (N : Int) ≤ 2 * (k : Int) := by omega
          have h2 : (k : Int) < (N : Int) := by omega
          go_wp2_with fail
          go_ret
          exact ⟨rfl, HB.out⟩
        · have hk0 : k = 0 := by rw [HK.out]; exact bad_none i MA MB MC (HS.out.1 (by simp)) N
          subst hk0
          go_wp2_with fail
          go_ret
          exact ⟨rfl, HB.out⟩
end guessFreivalds
end Go.Proofs.Ytoodmoliglhpiaa
