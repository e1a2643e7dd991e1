/- What wave.each with the blur's closure computes, and wave.Blur. Conditions: as each theorem states. -/
import Derived.Test.YtjaakdjkacnfkaaWaveTurn
import Derived.Test.YtjaakdjkacnfkaaWaveBlurLaw
namespace Go.Proofs.Ytjaakdjkacnfkaa
open WaveM Go.ChangeShapes Go.WideShapes Go.ChangeAt Go.RowKit
set_option linter.unusedVariables false
set_option maxRecDepth 100000 in
theorem blur1_any (a b q : Int) (K : Nat) (w : World) (ha : -1000000000000 ≤ a ∧ a ≤ 1000000000000) (hb : -1000000000000 ≤ b ∧ b ≤ 1000000000000) (hq : 0 ≤ q ∧ q ≤ 3) (hK : w.cell? ⟨K, 0, none⟩ = some (.int .i64 q)) :
    Calls Try.prog 19 #[.int .i64 a, .int .i64 b, .pointer (some ⟨K, 0, none⟩)] w fun e w' => e = .returned (.tuple #[.int .i64 (tB q a b), .int .i64 (tC q a b)]) ∧ ∃ n, w' = w.drewN n := by
  have m1 := mul_bd (X := 3) (x := q) ⟨by omega, hq.2⟩ ha
  have m2 := mul_bd (X := 3) (x := q) ⟨by omega, hq.2⟩ hb
  have w1 : IntKind.i64.wrap (q * b) = q * b := IntWalk.i64_in _ (by omega)
  have w2 : IntKind.i64.wrap (a + q * b) = a + q * b := IntWalk.i64_in _ (by omega)
  have w3 : IntKind.i64.wrap (q * a) = q * a := IntWalk.i64_in _ (by omega)
  have w4 : IntKind.i64.wrap (q * a + b) = q * a + b := IntWalk.i64_in _ (by omega)
  clear m1 m2 ha hb hq
  go_enter Try.func19, Try.ntmps19
  go_wp2_with fail
  go_quiet (fail)
  go_wp2_with fail
  go_ret2
  exact ⟨rfl, _, rfl⟩
set_option maxRecDepth 100000 in
theorem eachB_row (n K : Nat) (q : Int) (A : Option Addr) (m c : Nat) (f : Nat → Int) (w : World) (h : Rd w A m (fun i => .int .i64 (f i))) (hK : w.cell? ⟨K, 0, none⟩ = some (.int .i64 q)) (hKB : K < w.heap.size) (hq : 0 ≤ q ∧ q ≤ 3) (hn : n ≤ 4) (hm : m = 2 ^ n)
    (hB : ∀ i, i ≤ n → ∀ z, z < m → -1000000000000 ≤ E (tB q) (tC q) f i z ∧ E (tB q) (tC q) f i z ≤ 1000000000000) :
    Calls Try.prog 16 #[.int .i64 n, .slice A m c, .func (.func 19) #[] #[.pointer (some ⟨K, 0, none⟩)]] w fun e w' => ∃ g c' G, e = .returned (.slice (some ⟨g, 0, none⟩) m c') ∧ w.heap.size ≤ g ∧ w'.rowIs g 3 c' G ∧ (∀ z, z < m → G z = .int .i64 (E (tB q) (tC q) f n z)) ∧ m ≤ c' ∧ c' ≤ maxLen ∧ Below w.heap.size w w' := by
  have hp := pow_bd hn
  have hm1 : 1 ≤ m := by omega
  have hm16 : m ≤ 16 := by omega
  have HMM := Lib.hid hm
  have HB := Lib.hid hB
  have HKK := Lib.hid hK
  clear hm hB hp hK
  go_enter Try.func16, Try.ntmps16
  go_wp2_with fail
  refine (clone_any A m c f w h (by omega)).mono ?_
  rintro e w1 ⟨A1, c1, rfl, hown, hb1⟩
  obtain ⟨g, F, rfl, hg, hrow, hmc, hF⟩ := hown.row (by omega)
  have hcm := hown.le.2
  have HF := Lib.hid hF
  clear hown hF
  go_wp2_with fail
  go_loopw [14] (fun i wr => ∃ (k : Nat) (G : Nat → Value), k ≤ n ∧ i = .int .i64 k ∧ wr.rowIs g 3 c1 G ∧ (∀ z, z < m → G z = .int .i64 (E (tB q) (tC q) f k z)) ∧ Below w.heap.size w wr) (fun i _ => n - (intOf i).toNat)
  case atStart => exact ⟨0, F, Nat.zero_le _, rfl, hrow, HF.out, hb1⟩
  case round =>
    obtain ⟨wo, rfl⟩ : ∃ wo : World, wo = wr := ⟨_, rfl⟩
    obtain ⟨k, G, hk, rfl, hr, hG0, hbel⟩ := hrel
    have HG := Lib.hid hG0
    clear hG0
    by_cases hlt : k < n
    · have hk4 : k < 4 := by omega
      have p2 := pow_bd (N := k) (by omega)
      obtain ⟨p0, p1, _, _⟩ := p2
      obtain ⟨gg, hgg⟩ : ∃ gg, gg = E (tB q) (tC q) f k := ⟨_, rfl⟩
      have HGG := Lib.hid hgg
      clear hgg
      go_wp2_with fail
      go_loopw [19] (fun i wr => ∃ (x : Nat) (G : Nat → Value), x ≤ m ∧ i = .int .i64 x ∧ wr.rowIs g 3 c1 G ∧ (∀ z, z < m → G z = .int .i64 (prt (tB q) (tC q) k gg x z)) ∧ Below w.heap.size w wr) (fun i _ => m - (intOf i).toNat)
      case atStart => exact ⟨0, G, Nat.zero_le _, rfl, hr, fun z hz => by rw [HG.out z hz, prt_zero, HGG.out], hbel⟩
      case round =>
        obtain ⟨x, G', hx, rfl, hr', hG0', hbel'⟩ := hrel
        have HG' := Lib.hid hG0'
        clear hG0'
        by_cases hlx : x < m
        · have hor : bits BinOp.or IntKind.i64 (x : Int) (2 ^ k) = ((x ||| 2 ^ k : Nat) : Int) := by
            have := or_nat x (2 ^ k) (by omega) (by omega)
            rw [← this]; simp
          have hos := or_small k hk4 x (by omega)
          obtain ⟨y, hy⟩ : ∃ y, y = x ||| 2 ^ k := ⟨_, rfl⟩
          rw [← hy] at hor hos
          clear hy
          by_cases hbit : x / 2 ^ k % 2 = 0
          · rw [if_pos hbit] at hos
            have hyl : y < m := by rw [hos, HMM.out]; exact or_lt n hn k hlt x (by rw [← HMM.out]; exact hlx) hbit
            have hne : ((y : Int) != x) = true := by rw [bne_iff_ne]; omega
            have hat := prt_at (tB q) (tC q) gg hk4 hbit (by omega)
            have cx : wr.cell? ⟨g, x, none⟩ = some (.int .i64 (gg x)) := by rw [hr'.cell (by omega), HG'.out x hlx, hat.1]
            have cy : wr.cell? ⟨g, y, none⟩ = some (.int .i64 (gg y)) := by rw [hr'.cell (by omega), HG'.out y hyl, hos, hat.2]
            have zx := hr'.frozen x
            have zy := hr'.frozen y
            have bx := HB.out k (by omega) x hlx
            have byy := HB.out k (by omega) y hyl
            rw [← HGG.out] at bx byy
            have sg := hr'.lt
            have hxy : ¬ x = y := by omega
            have HOS := Lib.hid hos
            have HBIT := Lib.hid hbit
            clear hos hbit hat
            go_wp2_with fail
            go_region_law (first | (go_simp; go_at_call 19; refine (blur1_any _ _ q K _ bx byy hq (((below_drewN hbel' _).cell (p := ⟨K, 0, none⟩) hKB).trans HKK.out)).mono ?_; rintro e w' ⟨rfl, qq, rfl⟩))
            all_goals go_wp2_with fail
            all_goals go_roundw
            all_goals first
              | (case rel => exact ⟨x + 1, _, by omega, by go_num, (((row_drewN hr' _).set x _).set y _), fun z hz => by
                  rw [prt_do (tB q) (tC q) gg hk4 (by omega) HBIT.out (by omega), ← HOS.out]
                  by_cases e1 : z = y
                  · rw [if_pos e1, if_pos e1]
                  · rw [if_neg e1, if_neg e1]
                    by_cases e2 : z = x
                    · rw [if_pos e2, if_pos e2]
                    · rw [if_neg e2, if_neg e2]; exact HG'.out z hz, (((below_drewN hbel' _).setCell (by simp; omega) _).setCell (by simp; omega) _)⟩)
              | (case measure => simp [intOf]; omega)
          · rw [if_neg hbit] at hos
            subst hos
            have hne : ((y : Int) != y) = false := by simp
            have HBIT := Lib.hid hbit
            clear hbit
            go_wp2_with fail
            go_roundw
            case rel => exact ⟨y + 1, G', by omega, by go_num, hr', fun z hz => by rw [HG'.out z hz, prt_skip (tB q) (tC q) gg hk4 (by omega) HBIT.out], hbel'⟩
            case measure => simp [intOf]; omega
        · obtain rfl : x = m := by omega
          go_wp2_with fail
          go_roundw
          case rel => exact ⟨k + 1, G', by omega, by go_num, hr', fun z hz => by rw [HG'.out z hz, prt_all _ _ _ _ hz, HGG.out]; rfl, hbel'⟩
          case measure => simp [intOf]; omega
    · obtain rfl : k = n := by omega
      go_wp2_with fail
      go_ret
      exact ⟨g, c1, G, rfl, hg, hr, HG.out, hmc, hcm, hbel⟩
set_option maxRecDepth 100000 in
theorem blur_bad (n : Int) (q : Int) (A : Option Addr) (m c : Nat) (f : Nat → Int) (w : World) (h : Rd w A m (fun i => .int .i64 (f i))) (hm : m ≤ maxLen) (hv : wvE n m f ≠ 0) :
    Calls Try.prog 9 #[.int .i64 n, .slice A m c, .int .i64 q] w fun e w' => e = .returned (.tuple #[.slice none 0 0, .int .i64 (wvE n m f)]) ∧ Below w.heap.size w w' := by
  have hq : (wvE n m f != 0) = true := by rw [bne_iff_ne]; exact hv
  have H := Lib.hid (fun v t z => h.alloc (.cells #[v] t z))
  clear h hv
  go_enter Try.func9, Try.ntmps9
  go_wp2_with (go_at_call 15; refine (wrong_any n A m c f _ (H.out _ _ _) hm).mono ?_; rintro e w' ⟨rfl, rfl⟩)
  go_ret2
  exact ⟨rfl, (Below.refl _ _).alloc (Nat.le_refl _) _⟩
set_option maxRecDepth 100000 in
theorem blur_good (N : Nat) (q : Int) (A : Option Addr) (m c : Nat) (f : Nat → Int) (w : World) (h : Rd w A m (fun i => .int .i64 (f i))) (hN : N ≤ 4) (hm : m = 2 ^ N) (ho : okR m f) (h0 : 0 ≤ q ∧ q ≤ 3) :
    Calls Try.prog 9 #[.int .i64 N, .slice A m c, .int .i64 q] w fun e w' => ∃ A' c', e = .returned (.tuple #[.slice A' m c', .int .i64 0]) ∧ Rd w' A' m (fun i => .int .i64 (E (tB q) (tC q) f N i)) ∧ m ≤ c' ∧ c' ≤ maxLen ∧ Below w.heap.size w w' := by
  have hv := wvE_is hN hm ho
  have p := pow_bd hN
  have hml : m ≤ maxLen := by unfold maxLen; omega
  have hB : ∀ i, i ≤ N → ∀ z, z < m → -1000000000000 ≤ E (tB q) (tC q) f i z ∧ E (tB q) (tC q) f i z ≤ 1000000000000 := fun i hi z hz => by
    have := B_bd hN h0.1 h0.2 (f := f) (B := 1000000000) (by omega) (fun z hz => by have := ho z (by omega); omega) i hi z (by omega)
    omega
  have hr := h.alloc (.cells #[.int .i64 q] 3 (0, 0))
  have hb := (Below.refl w.heap.size w).alloc (Nat.le_refl _) (.cells #[.int .i64 q] 3 (0, 0))
  have hc : (w.alloc (.cells #[.int .i64 q] 3 (0, 0))).cell? ⟨w.heap.size, 0, none⟩ = some (.int .i64 q) := by simp [go_sem]
  have hs : w.heap.size < (w.alloc (.cells #[.int .i64 q] 3 (0, 0))).heap.size := by simp
  have HR := Lib.hid hr
  have HBL := Lib.hid hb
  have HM := Lib.hid hm
  have HB := Lib.hid hB
  have hq0 := h0.1
  have hq3 := h0.2
  clear h hm hB ho p hr hb
  go_enter Try.func9, Try.ntmps9
  go_wp2_with fail
  refine (wrong_any N A m c f _ HR.out hml).mono ?_
  rintro e w' ⟨rfl, rfl⟩
  go_wp2_with fail
  refine (eachB_row N w.heap.size q A m c f _ HR.out hc hs ⟨hq0, hq3⟩ hN HM.out HB.out).mono ?_
  rintro e w' ⟨g, c', G, rfl, hg, hrow, hG, hle, hmx, hb2⟩
  go_wp2_with fail
  go_ret2
  exact ⟨_, _, rfl, (Rd.of_row hrow hle).congr hG, hle, hmx, HBL.out.trans (hb2.mono (by simp))⟩
end Go.Proofs.Ytjaakdjkacnfkaa
