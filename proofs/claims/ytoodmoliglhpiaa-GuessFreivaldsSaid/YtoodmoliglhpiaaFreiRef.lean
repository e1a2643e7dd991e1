/- The reference's product, of a list with one bit. Condition: squares that may be. -/
import Derived.Test.YtoodmoliglhpiaaFreiWr
import Derived.Test.YtoodmoliglhpiaaBit
namespace Go.Proofs.Ytoodmoliglhpiaa
open Go.ChangeShapes Go.WideShapes Go.ChangeAt Go.RowKit
set_option linter.unusedVariables false
set_option linter.unusedSimpArgs false
theorem bit_two : ∀ x, x < 4 → ∀ j, j < 4 → bitB (2 ^ x) j = decide (j = x) := by decide +kernel
theorem SqM.rowAt {w : World} {m : MX} {n : Nat} (h : SqM w m n) {i : Nat} (hi : i < n) :
    ∃ b off ya yc yf, m.A = some ⟨b, off, none⟩ ∧ w.cell? ⟨b, off + i, none⟩ = some (.slice ya n yc) ∧ Rd w ya n (fun q => .int .i64 (yf q)) ∧ In7 yf n ∧ ∀ q, yf q = mE m i q := by
  have hl := h.len
  obtain ⟨b, off, e, _, hc⟩ := h.good.1.at_ (show i < m.n by omega)
  have hg := (h.good.2.1 i (by omega)).1
  have hr := h.row i hi
  have h7 := h.rng i hi
  rw [hr] at hg
  refine ⟨b, off, (m.R i).A, (m.R i).c, (m.R i).f, e, ?_, hg, h7, fun q => rfl⟩
  have e2 : (m.R i).val = .slice (m.R i).A (m.R i).n (m.R i).c := rfl
  rw [hr] at e2
  rw [← e2]; exact hc
set_option maxRecDepth 100000 in
set_option maxHeartbeats 2000000 in
theorem refProduct_any (a b c : MX) (n x : Nat) (w : World) (n4 : n ≤ 4) (hx : x < n) (ha : SqM w a n) (hb : SqM w b n) (hc : SqM w c n) :
    Calls Try.prog 14 #[a.val, b.val, c.val, .int .i64 ((2 ^ x : Nat) : Int)] w fun e w' => e = .returned (.bool (colOk n (mE a) (mE b) (mE c) x)) ∧ Below w.heap.size w w' := by
  have HA := Lib.hid ha
  have HB' := Lib.hid hb
  have HC := Lib.hid hc
  have hal := ha.len
  obtain ⟨p2, hp2⟩ : ∃ p, p = 2 ^ x := ⟨_, rfl⟩
  have hp16 : p2 ≤ 16 := by rw [hp2]; exact Nat.pow_le_pow_right (n := 2) (i := x) (j := 4) (by omega) (by omega)
  rw [← hp2]
  have HBIT : Hid (∀ j W, j < n → Calls Try.prog 27 #[.int .i64 (p2 : Nat), .int .i64 (j : Nat)] W fun e w' => e = .returned (.bool (decide (j = x))) ∧ W = w') := Lib.hid (fun j W hj => by
    have := bit_any p2 j W (by omega) (by omega)
    rw [show bitB p2 j = decide (j = x) by rw [hp2]; exact bit_two x (by omega) j (by omega)] at this
    exact this)
  obtain ⟨MA, hMA⟩ : ∃ M, M = mE a := ⟨_, rfl⟩
  obtain ⟨MB, hMB⟩ : ∃ M, M = mE b := ⟨_, rfl⟩
  obtain ⟨MC, hMC⟩ : ∃ M, M = mE c := ⟨_, rfl⟩
  rw [← hMA, ← hMB, ← hMC]
  have HRA : Hid (∀ W, Below w.heap.size w W → ∀ i, i < n → ∃ b' off ya yc yf, a.A = some ⟨b', off, none⟩ ∧ W.cell? ⟨b', off + i, none⟩ = some (.slice ya n yc) ∧ Rd W ya n (fun q => .int .i64 (yf q)) ∧ In7 yf n ∧ ∀ q, yf q = MA i q) := Lib.hid (fun W hW i hi => by rw [hMA]; exact (HA.out.below hW).rowAt hi)
  have HRB : Hid (∀ W, Below w.heap.size w W → ∀ i, i < n → ∃ b' off ya yc yf, b.A = some ⟨b', off, none⟩ ∧ W.cell? ⟨b', off + i, none⟩ = some (.slice ya n yc) ∧ Rd W ya n (fun q => .int .i64 (yf q)) ∧ In7 yf n ∧ ∀ q, yf q = MB i q) := Lib.hid (fun W hW i hi => by rw [hMB]; exact (HB'.out.below hW).rowAt hi)
  have HRC : Hid (∀ W, Below w.heap.size w W → ∀ i, i < n → ∃ b' off ya yc yf, c.A = some ⟨b', off, none⟩ ∧ W.cell? ⟨b', off + i, none⟩ = some (.slice ya n yc) ∧ Rd W ya n (fun q => .int .i64 (yf q)) ∧ In7 yf n ∧ ∀ q, yf q = MC i q) := Lib.hid (fun W hW i hi => by rw [hMC]; exact (HC.out.below hW).rowAt hi)
  have hbl := hb.len
  have hcl := hc.len
  obtain ⟨aA, an, ac, aR⟩ := a
  obtain ⟨bA, bn, bc, bR⟩ := b
  obtain ⟨cA, cn, cc, cR⟩ := c
  obtain rfl : an = n := hal
  obtain rfl : bn = an := hbl
  obtain rfl : cn = bn := hcl
  clear ha hb hc hMA hMB hMC hp2 HA HB' HC
  show Calls Try.prog 14 #[.slice aA cn ac, .slice bA cn bc, .slice cA cn cc, .int .i64 (p2 : Nat)] w _
  go_enter Try.func14, Try.ntmps14
  go_wp2_with fail
  go_loopw [10] (fun s10 wr => ∃ i : Nat, i ≤ cn ∧ s10 = .int .i64 (i : Nat) ∧ Hid (∀ i', i' < i → (sI (fun k => MA i' k * MB k x) cn + 7 - MC i' x) % 7 = 0) ∧ Hid (Below w.heap.size w wr)) (fun s10 _ => cn - (intOf s10).toNat)
  case atStart => exact ⟨0, Nat.zero_le _, rfl, Lib.hid (fun j h => absurd h (Nat.not_lt_zero _)), Lib.hid (Below.refl _ _)⟩
  case round =>
    obtain ⟨wo, rfl⟩ : ∃ wo : World, wo = wr := ⟨_, rfl⟩
    obtain ⟨i, hi, rfl, HALL, HB⟩ := hrel
    by_cases hlt : i < cn
    · go_wp2_with fail
      go_loopw [11, 12] (fun s11 s12 wr => ∃ (j : Nat) (S : Int), j ≤ cn ∧ s12 = .int .i64 (j : Nat) ∧ s11 = .int .i64 S ∧ (0 ≤ S ∧ S ≤ 160) ∧ Hid (S = if x < j then sI (fun k => MA i k * MB k x) cn + 7 - MC i x else 0) ∧ Hid (Below w.heap.size w wr)) (fun _ s12 _ => cn - (intOf s12).toNat)
      case atStart => exact ⟨0, 0, Nat.zero_le _, rfl, rfl, ⟨by omega, by omega⟩, Lib.hid (by rw [if_neg (Nat.not_lt_zero _)]), HB⟩
      case round =>
        clear HB
        obtain ⟨wo, rfl⟩ : ∃ wo : World, wo = wr := ⟨_, rfl⟩
        obtain ⟨j, S, hj, rfl, rfl, hS, HS, HB⟩ := hrel
        by_cases hlt2 : j < cn
        · by_cases hjx : j = x
          · subst hjx
            have hS0 : S = 0 := by rw [HS.out, if_neg (Nat.lt_irrefl _)]
            subst hS0
            clear HS hS
            have hbt := HBIT.out j wo hlt2
            rw [decide_eq_true rfl] at hbt
            have HBT := Lib.hid hbt
            clear hbt
            go_wp2_with fail
            refine HBT.out.mono ?_
            rintro e w5 ⟨rfl, rfl⟩
            go_wp2_with fail
            go_loopw [11, 13] (fun s11 s13 wr => ∃ (k : Nat) (S : Int), k ≤ cn ∧ s13 = .int .i64 (k : Nat) ∧ s11 = .int .i64 S ∧ (0 ≤ S ∧ S ≤ k * 36) ∧ Hid (S = sI (fun k => MA i k * MB k j) k) ∧ Hid (Below w.heap.size w wr)) (fun _ s13 _ => cn - (intOf s13).toNat)
            case atStart => exact ⟨0, 0, Nat.zero_le _, rfl, rfl, ⟨by omega, by omega⟩, Lib.hid rfl, HB⟩
            case round =>
              clear HB
              obtain ⟨wo, rfl⟩ : ∃ wo : World, wo = wr := ⟨_, rfl⟩
              obtain ⟨k, S, hk, rfl, rfl, hS, HS, HB⟩ := hrel
              by_cases hlt3 : k < cn
              · obtain ⟨b1, o1, ya, yc, yf, e1, h1, r1, i1, m1⟩ := HRA.out wo HB.out i hlt
                obtain ⟨b2, o2, za, zc, zf, e2, h2, r2, i2, m2⟩ := HRB.out wo HB.out k hlt3
                have e1' : aA = some ⟨b1, o1, none⟩ := e1
                have e2' : bA = some ⟨b2, o2, none⟩ := e2
                subst e1'; subst e2'
                obtain ⟨b3, o3, rfl, _, h3⟩ := r1.at_ hlt3
                obtain ⟨b4, o4, rfl, _, h4⟩ := r2.at_ hlt2
                have hm := mul36 (i1 k hlt3) (i2 j hlt2)
                have e3 := m1 k
                have e4 := m2 j
                obtain ⟨u, hu⟩ : ∃ u, u = yf k := ⟨_, rfl⟩
                obtain ⟨v, hv⟩ : ∃ v, v = zf j := ⟨_, rfl⟩
                rw [← hu] at h3 hm e3
                rw [← hv] at h4 hm e4
                have E3 := Lib.hid e3
                have E4 := Lib.hid e4
                have w1 : IntKind.i64.wrap (u * v) = u * v := IntWalk.i64_in _ (by omega)
                have w2 : IntKind.i64.wrap (S + u * v) = S + u * v := IntWalk.i64_in _ (by omega)
                clear r1 r2 i1 i2 m1 m2 hu hv e1 e2 e3 e4
                go_wp2_with fail
                go_quiet (fail)
                go_wp2_with fail
                go_roundw
                case rel => exact ⟨k + 1, S + u * v, by omega, by go_num, rfl, ⟨by omega, by omega⟩, Lib.hid (by simp only [sI]; rw [HS.out, E3.out, E4.out]), Lib.hid (below_drewN HB.out _)⟩
                case measure => simp [intOf]; omega
              · obtain rfl : k = cn := by omega
                obtain ⟨b1, o1, ya, yc, yf, e1, h1, r1, i1, m1⟩ := HRC.out wo HB.out i hlt
                have e1' : cA = some ⟨b1, o1, none⟩ := e1
                subst e1'
                obtain ⟨b3, o3, rfl, _, h3⟩ := r1.at_ hlt2
                have hm := i1 j hlt2
                have e3 := m1 j
                obtain ⟨u, hu⟩ : ∃ u, u = yf j := ⟨_, rfl⟩
                rw [← hu] at h3 hm e3
                have E3 := Lib.hid e3
                have w1 : IntKind.i64.wrap (S + 7) = S + 7 := IntWalk.i64_in _ (by omega)
                have w2 : IntKind.i64.wrap (S + 7 - u) = S + 7 - u := IntWalk.i64_in _ (by omega)
                clear r1 i1 m1 hu e1 e3
                go_wp2_with fail
                go_roundw
                case rel => exact ⟨j + 1, S + 7 - u, by omega, by go_num, rfl, ⟨by omega, by omega⟩, Lib.hid (by rw [if_pos (by omega), HS.out, E3.out]), HB⟩
                case measure => simp [intOf]; omega
          · have hbt := HBIT.out j wo hlt2
            rw [decide_eq_false hjx] at hbt
            have HBT := Lib.hid hbt
            clear hbt
            go_wp2_with fail
            refine HBT.out.mono ?_
            rintro e w5 ⟨rfl, rfl⟩
            go_wp2_with fail
            go_roundw
            case rel => exact ⟨j + 1, S, by omega, by go_num, rfl, hS, Lib.hid (by
              rw [HS.out]
              by_cases h : x < j
              · rw [if_pos h, if_pos (by omega)]
              · rw [if_neg h, if_neg (by omega)]), HB⟩
            case measure => simp [intOf]; omega
        · obtain rfl : j = cn := by omega
          have hSv : S = sI (fun k => MA i k * MB k x) j + 7 - MC i x := by rw [HS.out, if_pos hx]
          have HSV := Lib.hid hSv
          clear hSv
          have htm : S.tmod 7 = S % 7 := Int.tmod_eq_emod_of_nonneg hS.1
          by_cases h0 : S % 7 = 0
          · have q1 : (S % 7 != 0) = false := by rw [h0]; rfl
            have H0 := Lib.hid h0
            clear h0
            go_wp2_with fail
            go_roundw
            case rel => exact ⟨i + 1, by omega, by go_num, Lib.hid (fun i' h => by
              by_cases e : i' = i
              · subst e; rw [← HSV.out]; exact H0.out
              · exact HALL.out i' (by omega)), HB⟩
            case measure => simp [intOf]; omega
          · have q1 : (S % 7 != 0) = true := by rw [bne_iff_ne]; exact h0
            have HR : Hid (colOk j MA MB MC x = false) := Lib.hid (decide_eq_false fun h => h0 (by rw [HSV.out]; exact h i hlt))
            clear h0
            go_wp2_with fail
            go_ret
            exact ⟨ret_bool HR.out.symm, HB.out⟩
    · obtain rfl : i = cn := by omega
      have HR : Hid (colOk i MA MB MC x = true) := Lib.hid (decide_eq_true HALL.out)
      go_wp2_with fail
      go_ret
      exact ⟨ret_bool HR.out.symm, HB.out⟩
end Go.Proofs.Ytoodmoliglhpiaa
