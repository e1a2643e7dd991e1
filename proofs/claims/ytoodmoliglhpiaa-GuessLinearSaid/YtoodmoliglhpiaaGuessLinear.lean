/- The fraction of pairs that fail the linearity test is at least the relative distance from the nearest linear function. No condition. -/
import Derived.Test.YtoodmoliglhpiaaGuessFns
namespace Go.Proofs.Ytoodmoliglhpiaa.guessLinear
open WaveM Go.ChangeShapes Go.WideShapes Go.ChangeAt Go.RowKit
set_option linter.unusedVariables false
set_option maxRecDepth 100000 in
theorem apart_bad (n : Int) (A : Option Addr) (m c : Nat) (w : World) (hm : m ≤ maxLen) (hv : tabE n m 0 ≠ 0) :
    Calls Try.prog 10 #[.int .i64 n, .slice A m c] w fun e w' => e = .returned (.tuple #[.int .i64 0, .int .i64 0, .int .i64 (tabE n m 0)]) ∧ w = w' := by
  have hq : (tabE n m 0 != 0) = true := by rw [bne_iff_ne]; exact hv
  clear hv
  go_enter Try.func10, Try.ntmps10
  go_wp2_with (go_at_call 22; refine (table_any n A m c _ hm).mono ?_; rintro e w' ⟨rfl, rfl⟩)
  go_ret3
  exact ⟨rfl, rfl⟩
/-- what guess.Apart tells of a table -/
def ApRes (f : Nat → Bool) (m : Nat) (w : World) (e : Ending) (w' : World) : Prop :=
  w = w' ∧ ∃ d s : Nat, e = .returned (.tuple #[.int .i64 d, .int .i64 s, .int .i64 0]) ∧ s < m ∧ d = dS f s m ∧ ∀ t, t < m → d ≤ dS f t m
theorem dS_le (f : Nat → Bool) (s m : Nat) : dS f s m ≤ m := cnI_le _ _
set_option maxRecDepth 100000 in
set_option maxHeartbeats 1000000 in
theorem apart_good (N : Nat) (A : Option Addr) (m c : Nat) (f : Nat → Bool) (w : World) (h : Rd w A m (fun i => .bool (f i))) (hN : N ≤ 4) (hm : m = 2 ^ N) :
    Calls Try.prog 10 #[.int .i64 N, .slice A m c] w (ApRes f m w) := by
  obtain ⟨_, _, p2, p3⟩ := tpow_bd hN
  have hm1 : 1 ≤ m := by omega
  have hm16 : m ≤ 16 := by omega
  have hv : tabE N m 0 = 0 := by unfold tabE; rw [if_pos (by omega), Int.toNat_natCast, if_pos hm, if_pos (by omega)]
  have H := Lib.hid h
  have HM := Lib.hid hm
  clear h hm p2 p3
  go_enter Try.func10, Try.ntmps10
  go_wp2_with (go_at_call 22; refine (table_any N A m c _ (by unfold maxLen; omega)).mono ?_; rintro e w' ⟨rfl, rfl⟩)
  clear hv
  go_loop [8, 9, 25] (fun s8 s9 s25 => ∃ s b h : Nat, s ≤ m ∧ s25 = .int .i64 s ∧ s8 = .int .i64 b ∧ s9 = .int .i64 h ∧ b ≤ m + 1 ∧ (s = 0 → b = m + 1 ∧ h = 0) ∧ (0 < s → h < s ∧ b = dS f h m) ∧ ∀ t, t < s → b ≤ dS f t m) (fun _ _ s25 => m - (intOf s25).toNat)
  case atStart => exact ⟨0, m + 1, 0, Nat.zero_le _, rfl, by go_num, rfl, Nat.le_refl _, fun _ => ⟨rfl, rfl⟩, fun h => absurd h (Nat.lt_irrefl _), fun t ht => absurd ht (Nat.not_lt_zero _)⟩
  case round =>
    obtain ⟨s, b, h, hs, rfl, rfl, rfl, hb, g0, g1, g2⟩ := hrel
    have G0 := Lib.hid g0
    have G1 := Lib.hid g1
    have G2 := Lib.hid g2
    clear g0 g1 g2
    by_cases hls : s < m
    · go_wp2_with fail
      go_loop [11, 30] (fun s11 s30 => ∃ x : Nat, x ≤ m ∧ s30 = .int .i64 x ∧ s11 = .int .i64 (cnI (fun x => f x != (pc (x &&& s) % 2 == 1)) x : Nat)) (fun _ s30 => m - (intOf s30).toNat)
      case atStart => exact ⟨0, Nat.zero_le _, rfl, rfl⟩
      case round =>
        obtain ⟨x, hx, rfl, rfl⟩ := hrel
        by_cases hlx : x < m
        · obtain ⟨b1, o1, rfl, _, cx⟩ := H.out.at_ hlx
          have hand := and_nat x s (by omega) (by omega)
          have hu16 : x &&& s < 16 := Nat.lt_of_le_of_lt Nat.and_le_left (by omega)
          have hcl := cnI_le (fun x => f x != (pc (x &&& s) % 2 == 1)) x
          have hcn : cnI (fun x => f x != (pc (x &&& s) % 2 == 1)) (x + 1) = cnI (fun x => f x != (pc (x &&& s) % 2 == 1)) x + (f x != (popc (x &&& s) % 2 == 1)).toNat := rfl
          have hpc : ∀ u, popc u ≤ 4 := fun u => by unfold popc; omega
          obtain ⟨S, hS⟩ : ∃ S, S = cnI (fun x => f x != (pc (x &&& s) % 2 == 1)) x := ⟨_, rfl⟩
          rw [← hS] at hcl hcn ⊢
          obtain ⟨u, hu⟩ : ∃ u, u = x &&& s := ⟨_, rfl⟩
          rw [← hu] at hand hu16 hcn
          obtain ⟨p, hp⟩ : ∃ p, p = popc u := ⟨_, rfl⟩
          have hp4 : p ≤ 4 := by rw [hp]; exact hpc u
          rw [← hp] at hcn
          obtain ⟨a, ha⟩ : ∃ a, a = f x := ⟨_, rfl⟩
          rw [← ha] at cx hcn
          have HP := Lib.hid hp
          have HCN := Lib.hid hcn
          clear hp hcn ha hu hS hpc
          have hp2 : p % 2 = 0 ∨ p % 2 = 1 := by omega
          rcases hp2 with e | e
          · have hb2 : (p % 2 == 1) = false := by rw [beq_eq_false_iff_ne]; omega
            have hq : ((p : Int) % 2 == 1) = false := by rw [beq_eq_false_iff_ne]; omega
            have HB2 := Lib.hid hb2
            clear hb2 e
            cases a
            all_goals
              go_wp2_with (go_at_call 23; refine (ones_any u hu16 _).mono ?_; rintro e w' ⟨rfl, rfl⟩; rw [← HP.out])
              go_round
              case rel => exact ⟨x + 1, by omega, by go_num, by rw [HCN.out, HB2.out]; first | rfl | go_num⟩
              case measure => simp [intOf]; omega
          · have hb2 : (p % 2 == 1) = true := by rw [beq_iff_eq]; omega
            have hq : ((p : Int) % 2 == 1) = true := by rw [beq_iff_eq]; omega
            have HB2 := Lib.hid hb2
            clear hb2 e
            cases a
            all_goals
              go_wp2_with (go_at_call 23; refine (ones_any u hu16 _).mono ?_; rintro e w' ⟨rfl, rfl⟩; rw [← HP.out])
              go_round
              case rel => exact ⟨x + 1, by omega, by go_num, by rw [HCN.out, HB2.out]; first | rfl | go_num⟩
              case measure => simp [intOf]; omega
        · obtain rfl : x = m := by omega
          obtain ⟨D, hD⟩ : ∃ D, D = dS f s x := ⟨_, rfl⟩
          have hD2 : cnI (fun x => f x != (pc (x &&& s) % 2 == 1)) x = D := hD.symm
          have hDl := dS_le f s x
          rw [← hD] at hDl
          rw [hD2]
          have HD := Lib.hid hD
          clear hD hD2
          by_cases hlt : D < b
          · go_wp2_with fail
            go_round
            case rel => exact ⟨s + 1, D, s, by omega, by go_num, rfl, rfl, by omega, fun h => by omega, fun _ => ⟨by omega, HD.out⟩, fun t ht => by
              by_cases e : t = s
              · subst e; rw [← HD.out]; exact Nat.le_refl _
              · have := G2.out t (by omega); omega⟩
            case measure => simp [intOf]; omega
          · have hge : b ≤ D := by omega
            go_wp2_with fail
            go_round
            case rel => exact ⟨s + 1, b, h, by omega, by go_num, rfl, rfl, by omega, fun h => by omega, fun _ => by
              by_cases e : s = 0
              · have := (G0.out e).1; omega
              · have := G1.out (by omega); exact ⟨by omega, this.2⟩, fun t ht => by
              by_cases e : t = s
              · subst e; rw [← HD.out]; exact hge
              · exact G2.out t (by omega)⟩
            case measure => simp [intOf]; omega
    · obtain rfl : s = m := by omega
      go_wp2_with fail
      go_ret3
      have := G1.out (by omega)
      exact ⟨rfl, b, h, rfl, this.1, this.2, G2.out⟩
set_option maxRecDepth 100000 in
set_option maxHeartbeats 1000000 in
theorem walk (w : World) (n : Int) (A : Option Addr) (m c : Nat) (f : Nat → Bool) (wn : (Lit.int .i64 n).wf = true) (h : Rd w A m (fun i => .bool (f i))) (hl : m ≤ c) (hm : c ≤ maxLen) (z : c * 1 ≤ 140737488351232) :
    Calls Try.prog 4 #[.int .i64 n, .slice A m c] w fun e w' => e = .returned (.bool true) ∧ Below w.heap.size w w' := by
  have hml : m ≤ maxLen := by omega
  clear wn hl hm z
  by_cases hv : tabE n m 0 = 0
  · obtain ⟨N, rfl, hN, hm2⟩ := tab_zero hv
    obtain ⟨p0, p1, p2, p3⟩ := tpow_bd hN
    have H := Lib.hid h
    have HM := Lib.hid hm2
    have hzb : zeroB (tabE N m 0) = true := by rw [hv]; rfl
    have hml' := Lib.hid hml
    have hm1 : 1 ≤ m := by omega
    have hm16 : m ≤ 16 := by omega
    have hpI : (2 : Int) ^ N = (m : Int) := by rw [hm2]; simp
    clear h hm2 hv p2 p3 hml
    rw [hpI] at p0 p1
    go_enter Try.func4, Try.ntmps4
    go_wp2_with fail
    refine (sums_good N A m c f w H.out hN HM.out).mono ?_
    rintro e w1 ⟨rfl, rfl⟩
    go_wp2_with fail
    refine (apart_good N A m c f _ H.out hN HM.out).mono ?_
    rintro e w1 ⟨rfl, d, s, rfl, hs, hd, hmin⟩
    have hblr : d * m ≤ rowT f m m := by have := blr hN f d (by rw [← HM.out]; exact hmin); rw [← HM.out] at this; exact this
    have hnear : 1 ≤ N → 2 * d ≤ m := fun h1 => by have := near hN h1 f d (by rw [← HM.out]; exact hmin); rw [← HM.out] at this; exact this
    have hnone : d = 0 → rowT f m m = 0 := fun e => by
      have := none_tells hN f (s := s) (by rw [← HM.out]; exact hs) (by rw [← HM.out, ← hd]; exact e)
      rw [← HM.out] at this; exact this
    have hrl := rowT_le f m m
    have hmm : m * m ≤ 16 * 16 := Nat.mul_le_mul hm16 hm16
    have hdl : d ≤ m := by rw [hd]; exact dS_le _ _ _
    obtain ⟨k, hk⟩ : ∃ k, k = rowT f m m := ⟨_, rfl⟩
    rw [← hk] at hblr hnone hrl ⊢
    have hkz : k = 0 → d = 0 := fun e => by
      rw [e] at hblr
      rcases Nat.eq_zero_or_pos d with h0 | h0
      · exact h0
      · have := Nat.mul_pos h0 hm1; omega
    have hk256 : k ≤ 256 := by omega
    have hdm : d * m ≤ 256 := by omega
    have hcast : ((d : Int) * (m : Int)) = ((d * m : Nat) : Int) := by simp
    have HBLR := Lib.hid hblr
    have HNEAR := Lib.hid hnear
    have HNONE := Lib.hid hnone
    have HKZ := Lib.hid hkz
    obtain ⟨X, hX⟩ : ∃ X : Int, (d : Int) * (m : Int) = X := ⟨_, rfl⟩
    have hX0 : 0 ≤ X := by rw [← hX, hcast]; omega
    have hX1 : X ≤ k := by rw [← hX, hcast]; omega
    clear hblr hnear hnone hkz hk hmin hd hrl hmm hdm hcast
    go_wp2_with fail
    refine (tabled_any N A m c _ hml'.out).mono ?_
    rintro e w2 ⟨rfl, hb2⟩
    rw [hzb]
    clear hzb
    by_cases h0 : d = 0
    · have hk0 := HNONE.out h0
      subst h0
      subst hk0
      obtain rfl : X = 0 := by omega
      clear hX
      by_cases hN0 : N = 0
      · subst hN0
        go_wp2_with fail
        go_ret
        exact ⟨rfl, hb2⟩
      · have hN1 : (0 : Int) < N := by omega
        have hNq : ((N : Int) == 0) = false := by rw [beq_eq_false_iff_ne]; omega
        clear hN0
        go_wp2_with fail
        go_ret
        exact ⟨rfl, hb2⟩
    · have hk0 : k ≠ 0 := fun e => h0 (HKZ.out e)
      have hdq : ((d : Int) == 0) = false := by rw [beq_eq_false_iff_ne]; omega
      have hkq : ((k : Int) == 0) = false := by rw [beq_eq_false_iff_ne]; omega
      clear h0 hk0
      by_cases hN0 : N = 0
      · subst hN0
        go_wp2_with fail
        go_ret
        exact ⟨rfl, hb2⟩
      · have hN1 : (0 : Int) < N := by omega
        have hNq : ((N : Int) == 0) = false := by rw [beq_eq_false_iff_ne]; omega
        have h2d := HNEAR.out (by omega)
        clear hN0
        go_wp2_with fail
        go_ret
        exact ⟨rfl, hb2⟩
  · have hzb : zeroB (tabE n m 0) = false := by unfold zeroB; rw [beq_eq_false_iff_ne]; exact hv
    have HV := Lib.hid hv
    have hq : (tabE n m 0 != 0) = true := by rw [bne_iff_ne]; exact hv
    clear hv h
    go_enter Try.func4, Try.ntmps4
    go_wp2_with fail
    refine (sums_bad n A m c w hml HV.out).mono ?_
    rintro e w1 ⟨rfl, rfl⟩
    go_wp2_with fail
    refine (apart_bad n A m c _ hml HV.out).mono ?_
    rintro e w1 ⟨rfl, rfl⟩
    go_wp2_with fail
    refine (tabled_any n A m c _ hml).mono ?_
    rintro e w2 ⟨rfl, hb2⟩
    rw [hzb]
    clear hzb
    go_wp2_with fail
    go_ret
    exact ⟨rfl, hb2⟩
end Go.Proofs.Ytoodmoliglhpiaa.guessLinear
