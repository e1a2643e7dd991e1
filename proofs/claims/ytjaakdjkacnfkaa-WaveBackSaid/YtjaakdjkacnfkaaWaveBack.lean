/- Transform and inverse transform are inverse to each other, and transforming twice multiplies by the number of words. No condition. -/
import Derived.Test.YtjaakdjkacnfkaaWaveTurn
import Derived.Test.YtjaakdjkacnfkaaInts
namespace Go.Proofs.Ytjaakdjkacnfkaa.waveBack
open WaveM Go.ChangeShapes Go.WideShapes Go.ChangeAt Go.RowKit
set_option linter.unusedVariables false
set_option maxRecDepth 100000 in
theorem back_good (N : Nat) (A : Option Addr) (m c : Nat) (f h0 : Nat → Int) (w : World) (h : Rd w A m (fun i => .int .i64 (f i))) (hN : N ≤ 4) (hm : m = 2 ^ N) (ho : okR m f)
    (hE : ∀ z, z < m → E tA tS f N z = (m : Int) * h0 z) (hb0 : ∀ z, z < m → -1000000000000 ≤ h0 z ∧ h0 z ≤ 1000000000000) :
    Calls Try.prog 11 #[.int .i64 N, .slice A m c] w fun e w' => ∃ A' c', e = .returned (.tuple #[.slice A' m c', .int .i64 0]) ∧ Rd w' A' m (fun i => .int .i64 (h0 i)) ∧ Below w.heap.size w w' := by
  have hv := wvE_is hN hm ho
  have p := pow_bd hN
  have hm1 : 1 ≤ m := by omega
  have hm16 : m ≤ 16 := by omega
  have hml : m ≤ maxLen := by unfold maxLen; omega
  have hB : ∀ i, i ≤ N → ∀ z, z < m → -1000000000000 ≤ E tA tS f i z ∧ E tA tS f i z ≤ 1000000000000 := fun i hi z hz => by
    have := E_bd' hN (f := f) (B := 1000000000) (by omega) (fun z hz => by have := ho z (by omega); omega) i hi z (by omega)
    omega
  have H := Lib.hid h
  have HM := Lib.hid hm
  have HB := Lib.hid hB
  have HE := Lib.hid hE
  have HH := Lib.hid hb0
  clear h hm hB ho p hE hb0
  go_enter Try.func11, Try.ntmps11
  go_wp2_with (first
    | (go_at_call 15; refine (wrong_any N A m c f w H.out hml).mono ?_; rintro e w' ⟨rfl, rfl⟩)
    | (go_at_call 16; refine (each_row N A m c f w H.out hN HM.out HB.out).mono ?_; rintro e w' ⟨g, c', G, rfl, hg, hrow, hG, hle, hmx, hb⟩))
  have HG := Lib.hid hG
  clear hG
  go_loopw [20] (fun i wr => ∃ (x : Nat) (G : Nat → Value), x ≤ m ∧ i = .int .i64 x ∧ wr.rowIs g 3 c' G ∧ (∀ z, z < m → G z = .int .i64 (if z < x then h0 z else E tA tS f N z)) ∧ Below w.heap.size w wr) (fun i _ => m - (intOf i).toNat)
  case atStart => exact ⟨0, G, Nat.zero_le _, rfl, hrow, fun z hz => by rw [if_neg (by omega)]; exact HG.out z hz, hb⟩
  case round =>
    obtain ⟨x, G', hx, rfl, hr, hG0, hbel⟩ := hrel
    have HG' := Lib.hid hG0
    clear hG0
    by_cases hlt : x < m
    · obtain ⟨V, hV⟩ : ∃ V, V = E tA tS f N x := ⟨_, rfl⟩
      have hVe : V = (m : Int) * h0 x := by rw [hV]; exact HE.out x hlt
      have e1 : V.tmod (m : Int) = 0 := by rw [hVe]; exact Int.mul_tmod_right _ _
      have e2 : V.tdiv (m : Int) = h0 x := by rw [hVe]; exact Int.mul_tdiv_cancel_left _ (by omega)
      have cx : wr.cell? ⟨g, x, none⟩ = some (.int .i64 V) := by rw [hr.cell (by omega), HG'.out x hlt, if_neg (by omega), hV]
      have zx := hr.frozen x
      have hhb := HH.out x hlt
      obtain ⟨hh0, hh1⟩ := hhb
      have sg := hr.lt
      clear hV hVe
      go_wp2_with fail
      go_roundw
      case rel => exact ⟨x + 1, _, by omega, by go_num, hr.set x _, fun z hz => by
        by_cases e : z = x
        · subst e; rw [if_pos rfl, if_pos (by omega)]
        · rw [if_neg e, HG'.out z hz]
          by_cases e2 : z < x
          · rw [if_pos e2, if_pos (by omega)]
          · rw [if_neg e2, if_neg (by omega)], hbel.setCell (by simp; omega) _⟩
      case measure => simp [intOf]; omega
    · obtain rfl : x = m := by omega
      go_wp2_with fail
      go_ret2
      exact ⟨_, _, rfl, (Rd.of_row hr hle).congr (fun z hz => by rw [HG'.out z hz, if_pos hz]), hbel⟩
set_option maxRecDepth 100000 in
theorem walk (w : World) (n : Int) (A : Option Addr) (m c : Nat) (f : Nat → Int) (wn : (Lit.int .i64 n).wf = true) (h : Rd w A m (fun i => .int .i64 (f i))) (wf : ∀ i, (Lit.int .i64 (f i)).wf = true) (hl : m ≤ c) (hm : c ≤ maxLen) (z : c * 8 ≤ 140737488351232) :
    Calls Try.prog 5 #[.int .i64 n, .slice A m c] w fun e w' => e = .returned (.bool true) ∧ Below w.heap.size w w' := by
  have hml : m ≤ maxLen := by omega
  have hml2 : m ≤ 9223372036854775807 := by omega
  have H := Lib.hid h
  clear wn wf hm z hl h
  go_enter Try.func5, Try.ntmps5
  go_wp2_with fail
  refine (turn_all n A m c f w H.out hml).mono ?_
  rintro e w2 (⟨hv, rfl, rfl⟩ | ⟨N, A2, c2, rfl, hN, hk2, ho, hv, rfl, hrd2, hle2, hmx2, hb2⟩)
  · have hq : (wvE n m f != 0) = true := by rw [bne_iff_ne]; exact hv
    have hz : isZ (wvE n m f) = false := by simp [isZ, hv]
    clear hv
    go_wp2_with (go_at_call 8; refine (waved_any n A m c f w H.out hml).mono ?_; rintro e w' ⟨rfl, rfl⟩)
    go_ret
    exact ⟨rfl, Below.refl _ _⟩
  · have hz : isZ (wvE (N : Int) m f) = true := by rw [hv]; rfl
    have hrd1 := H.out.below hb2
    have HRD1 := Lib.hid hrd1
    have HRD2 := Lib.hid hrd2
    have HK2 := Lib.hid hk2
    have HO := Lib.hid ho
    have hm16 : m ≤ 16 := by have := pow_bd hN; omega
    clear hv hrd1 hrd2 hk2 ho
    by_cases hv2 : wvE (N : Int) m (E tA tS f N) = 0
    · obtain ⟨N', hNN, hxa, hxb, ho2⟩ := wvE_zero hv2
      have hz2 : isZ (wvE (N : Int) m (E tA tS f N)) = true := by rw [hv2]; rfl
      have HO2 := Lib.hid ho2
      have htw : ∀ z, z < m → E tA tS (E tA tS f N) N z = (m : Int) * f z := fun z hz => by
        rw [twice hN f z (by rw [← HK2.out]; exact hz), HK2.out]; simp
      have HTW := Lib.hid htw
      clear hv2 ho2 htw hNN hxa hxb
      go_wp2_with fail
      refine (waved_any (N : Int) A m c f w2 HRD1.out hml).mono ?_
      rintro e w' ⟨rfl, rfl⟩
      go_wp2_with fail
      refine (waved_any (N : Int) A2 m c2 (E tA tS f N) w2 HRD2.out hml).mono ?_
      rintro e w' ⟨rfl, rfl⟩
      go_wp2_with fail
      refine (back_good N A2 m c2 (E tA tS f N) f w2 HRD2.out hN HK2.out HO2.out HTW.out (fun z hz => by have := HO.out z hz; omega)).mono ?_
      rintro e w3 ⟨A3, c3, rfl, hrd3, hb3⟩
      go_wp2_with fail
      refine (turn_good N A2 m c2 (E tA tS f N) w3 (HRD2.out.below hb3) hN HK2.out HO2.out).mono ?_
      rintro e w4 ⟨A4, c4, rfl, hrd4, hle4, hmx4, hb4⟩
      have hb24 : Below w2.heap.size w2 w4 := hb3.trans (hb4.mono hb3.size)
      have hb14 : Below w.heap.size w w4 := hb2.trans (hb24.mono hb2.size)
      have hs : sameI m m f f = true := sameI_iff.2 ⟨rfl, fun i _ => rfl⟩
      have HRD4 := Lib.hid hrd4
      have HRD3 := Lib.hid hrd3
      clear hrd3 hrd4
      go_wp2_with fail
      refine (ints_any A3 A m c3 m c f f w4 (HRD3.out.below hb4) (H.out.below hb14) hml hml).mono ?_
      rintro e w5 ⟨rfl, hb5⟩
      have hb15 : Below w.heap.size w w5 := hb14.trans (hb5.mono hb14.size)
      go_wp2_with fail
      go_loopw [70] (fun i wr => ∃ j : Nat, j ≤ m ∧ i = .int .i64 j ∧ Below w5.heap.size w5 wr) (fun i _ => m - (intOf i).toNat)
      case atStart => exact ⟨0, Nat.zero_le _, rfl, Below.refl _ _⟩
      case round =>
        obtain ⟨j, hj, rfl, hbr⟩ := hrel
        by_cases hlt : j < m
        · obtain ⟨b1, o1, rfl, _, cc1⟩ := ((HRD4.out.below hb5).below hbr).at_ hlt
          obtain ⟨b2, o2, rfl, _, cc2⟩ := (H.out.below (hb15.trans (hbr.mono hb15.size))).at_ hlt
          have hoj := HO.out j hlt
          have hmul0 : -16000000000 ≤ (m : Int) * f j ∧ (m : Int) * f j ≤ 16000000000 := by
            obtain ⟨M, hM, hM16⟩ : ∃ M : Int, M = m ∧ M ≤ 16 := ⟨m, rfl, by omega⟩
            have hM0 : 0 ≤ M := by omega
            rw [← hM]
            have a1 := Int.mul_le_mul_of_nonneg_left hoj.1 hM0
            have a2 := Int.mul_le_mul_of_nonneg_left hoj.2 hM0
            omega
          have ew : IntKind.i64.wrap ((m : Int) * f j) = (m : Int) * f j := IntWalk.i64_in _ (by omega)
          rw [HTW.out j hlt] at cc1
          have hq : ((m : Int) * f j != (m : Int) * f j) = false := by simp
          clear hmul0 hoj
          go_wp2_with fail
          go_quiet (fail)
          go_wp2_with fail
          go_roundw
          case rel => exact ⟨j + 1, by omega, by go_num, below_drewN hbr nq⟩
          case measure => simp [intOf]; omega
        · obtain rfl : j = m := by omega
          go_wp2_with fail
          go_ret
          exact ⟨rfl, hb15.trans (hbr.mono hb15.size)⟩
    · have hz2 : isZ (wvE (N : Int) m (E tA tS f N)) = false := by simp [isZ, hv2]
      clear hv2
      go_wp2_with fail
      refine (waved_any (N : Int) A m c f w2 HRD1.out hml).mono ?_; rintro e w' ⟨rfl, rfl⟩
      go_wp2_with fail
      refine (waved_any (N : Int) A2 m c2 (E tA tS f N) w2 HRD2.out hml).mono ?_; rintro e w' ⟨rfl, rfl⟩
      go_wp2_with fail
      go_ret
      exact ⟨rfl, hb2⟩
end Go.Proofs.Ytjaakdjkacnfkaa.waveBack
