/- The noise operator is diagonal in the transform. Condition: that of the second form, that what comes in is of bulk at most 1048576. -/
import Derived.Test.YtjaakdjkacnfkaaWaveBlurEach
import Derived.Test.YtjaakdjkacnfkaaBit
namespace Go.Proofs.Ytjaakdjkacnfkaa.waveBlur
open WaveM Go.ChangeShapes Go.WideShapes Go.ChangeAt Go.RowKit
set_option linter.unusedVariables false
set_option maxRecDepth 100000 in
theorem walk (w : World) (n : Int) (A : Option Addr) (m c : Nat) (f : Nat → Int) (k : Int) (wn : (Lit.int .i64 n).wf = true) (h : Rd w A m (fun i => .int .i16 (f i))) (wf : ∀ i, (Lit.int .i16 (f i)).wf = true) (hl : m ≤ c) (hm : c ≤ maxLen) (z : c ≤ 1048576) (wk : (Lit.int .u8 k).wf = true) :
    Calls Try.prog 4 #[.int .i64 n, .slice A m c, .int .u8 k] w fun e w' => e = .returned (.bool true) ∧ Below w.heap.size w w' := by
  have hm2 : m ≤ 1048576 := by omega
  have hml : m ≤ maxLen := by unfold maxLen; omega
  have HWF := Lib.hid wf
  obtain ⟨k0, k1⟩ := bounds_u8 wk
  have htm : k.tmod 4 = k % 4 := Int.tmod_eq_emod_of_nonneg k0
  have q0 : 0 ≤ k % 4 := by omega
  have q3 : k % 4 ≤ 3 := by omega
  obtain ⟨q, hq⟩ : ∃ q, q = k % 4 := ⟨_, rfl⟩
  rw [← hq] at htm q0 q3
  clear wn hm z hl wf wk hq
  go_enter Try.func4, Try.ntmps4
  go_wp2_with fail
  go_loopw [7, 22] (fun o i wr => ∃ (k : Nat) (A' : Option Addr) (c' : Nat), k ≤ m ∧ i = .int .i64 k ∧ o = .slice A' k c' ∧ Own wr w.heap.size 3 1 A' k c' k (fun i => .int .i64 (f i)) ∧ Below w.heap.size w wr) (fun _ i _ => m - (intOf i).toNat)
  case atStart => exact ⟨0, none, 0, Nat.zero_le _, rfl, rfl, Own.nil _ _ _ _ _, Below.refl _ _⟩
  case round =>
    obtain ⟨j, A', c', hk, rfl, rfl, hown, hbel⟩ := hrel
    by_cases hlt : j < m
    · obtain ⟨b, off, rfl, hb, hc0⟩ := h.at_ hlt
      have hc : wr.cell? ⟨b, off + j, none⟩ = some (.int .i16 (f j)) := (hbel.cell (p := ⟨b, off + j, none⟩) hb).trans hc0
      have hfb := bounds_i16 (HWF.out j)
      obtain ⟨f0, f1⟩ := hfb
      have hsz := hbel.size
      have H := Lib.hid h
      clear h hc0
      go_wp2_with (at_builtin; refine wpList_app _ rfl (.tmp 26) (.tmp 29) 23 rfl EI rfl (hown.alloc _) rfl (l := 1) (by omega) (Rd.one _ _ _) (fun _ _ => rfl) (by unfold maxLen; omega) (by omega) (by simp; omega) (j + 1) (j + 1) rfl rfl ?_; intro A2 c2 w3 hown2 hg2 hat2 hbl2)
      go_roundw
      case rel => exact ⟨j + 1, A2, c2, by omega, by go_num, rfl, hown2.congr (fun i hi => by
        by_cases hik : i < j
        · rw [cat_lt hik]
        · obtain rfl : i = j := by omega
          rw [cat_ge (by omega)]), ((hbel.alloc (by omega) _)).trans hbl2⟩
      case measure => simp [intOf]; omega
    · obtain rfl : j = m := by omega
      have hrd := hown.rd
      clear hown h
      by_cases hv : wvE n j f = 0
      · obtain ⟨N, rfl, hN, hk2, ho⟩ := wvE_zero hv
        have hz : isZ (wvE (N : Int) j f) = true := by rw [hv]; rfl
        have hk16 : j ≤ 16 := by have := pow_bd hN; omega
        have HRD := Lib.hid hrd
        have HK2 := Lib.hid hk2
        have HO := Lib.hid ho
        have fb : ∀ z, -32768 ≤ f z ∧ f z ≤ 32768 := fun z => by have := bounds_i16 (HWF.out z); omega
        have hoB : okR j (E (tB q) (tC q) f N) := fun z hz => by
          have := B_bd hN q0 q3 (f := f) (B := 32768) (by omega) (fun z _ => fb z) N (Nat.le_refl _) z (by rw [← HK2.out]; exact hz)
          omega
        have HOB := Lib.hid hoB
        have FB := Lib.hid fb
        clear hv hrd hk2 ho hoB fb
        go_wp2_with fail
        refine (blur_good N q A' j c' f wr HRD.out hN HK2.out HO.out ⟨q0, q3⟩).mono ?_
        rintro e w1 ⟨A1, c1, rfl, hrd1, hle1, hmx1, hb1⟩
        have HRD1 := Lib.hid hrd1
        clear hrd1
        go_wp2_with fail
        refine (waved_any (N : Int) A' j c' f w1 (HRD.out.below hb1) hml).mono ?_
        rintro e w' ⟨rfl, rfl⟩
        go_wp2_with fail
        refine (turn_good N A' j c' f w1 (HRD.out.below hb1) hN HK2.out HO.out).mono ?_
        rintro e w2 ⟨A2, c2, rfl, hrd2, hle2, hmx2, hb2⟩
        have HRD2 := Lib.hid hrd2
        clear hrd2
        go_wp2_with fail
        refine (turn_good N A1 j c1 _ w2 (HRD1.out.below hb2) hN HK2.out HOB.out).mono ?_
        rintro e w3 ⟨A3, c3, rfl, hrd3, hle3, hmx3, hb3⟩
        have HRD3 := Lib.hid hrd3
        have hb : Below w.heap.size w w3 := hbel.trans ((hb1.trans ((hb2.trans (hb3.mono hb2.size)).mono hb1.size)).mono hbel.size)
        clear hrd3
        go_wp2_with fail
        go_loopw [86] (fun i wr => ∃ t : Nat, t ≤ j ∧ i = .int .i64 t ∧ Below w3.heap.size w3 wr) (fun i _ => j - (intOf i).toNat)
        case atStart => exact ⟨0, Nat.zero_le _, rfl, Below.refl _ _⟩
        case round =>
          obtain ⟨wo, rfl⟩ : ∃ wo : World, wo = wr := ⟨_, rfl⟩
          obtain ⟨t, ht, rfl, hbr⟩ := hrel
          by_cases hlt : t < j
          · obtain ⟨b2, o2, rfl, _, cc2⟩ := ((HRD2.out.below hb3).below hbr).at_ hlt
            obtain ⟨b3, o3, rfl, _, cc3⟩ := (HRD3.out.below hbr).at_ hlt
            have eb : -524288 ≤ E tA tS f N t ∧ E tA tS f N t ≤ 524288 := by
              have := E_bd' hN (f := f) (B := 32768) (by omega) (fun z _ => FB.out z) N (Nat.le_refl _) t (by rw [← HK2.out]; exact hlt)
              omega
            have hbl := blur hN q f t (by rw [← HK2.out]; exact hlt)
            rw [hbl] at cc3
            obtain ⟨x, hx⟩ : ∃ x, x = E tA tS f N t := ⟨_, rfl⟩
            rw [← hx] at cc2 cc3 eb hbl
            have HBL := Lib.hid hbl
            have EB := Lib.hid eb
            clear hbl hx eb
            go_wp2_with fail
            go_loopw [18, 19] (fun s i wr => ∃ r : Nat, r ≤ N ∧ i = .int .i64 r ∧ s = .int .i64 (lam q t r * x) ∧ Below w3.heap.size w3 wr) (fun _ i _ => N - (intOf i).toNat)
            case atStart => exact ⟨0, Nat.zero_le _, rfl, by simp [lam], hbr⟩
            case round =>
              obtain ⟨r, hr, rfl, rfl, hbr'⟩ := hrel
              by_cases hlr : r < N
              · have lb := lam_bd q0 q3 t r (by omega)
                have lb2 := lam_bd q0 q3 t (r + 1) (by omega)
                have m1 := mul_bd lb EB.out
                have m2 := mul_bd lb2 EB.out
                have el : lam q t (r + 1) = lam q t r * (if t / 2 ^ r % 2 = 0 then 1 + q else 1 - q) := rfl
                by_cases hbit : t / 2 ^ r % 2 = 0
                · have hbb := bitB_no hbit
                  rw [if_pos hbit] at el
                  have e2 : lam q t r * x * (1 + q) = lam q t (r + 1) * x := by rw [el, Int.mul_right_comm]
                  have ew : IntKind.i64.wrap (lam q t r * x * (1 + q)) = lam q t (r + 1) * x := by rw [e2]; exact IntWalk.i64_in _ (by omega)
                  have E2 := Lib.hid e2
                  clear hbit el e2 lb lb2
                  go_wp2_with (go_at_call 10; refine (bit_any t r _ (by omega) (by omega)).mono ?_; rintro e w' ⟨rfl, rfl⟩)
                  go_roundw
                  case rel => exact ⟨r + 1, by omega, by go_num, by first | rfl | rw [E2.out], hbr'⟩
                  case measure => simp [intOf]; omega
                · have hbb := bitB_yes hbit
                  rw [if_neg hbit] at el
                  have e2 : lam q t r * x * (1 - q) = lam q t (r + 1) * x := by rw [el, Int.mul_right_comm]
                  have ew : IntKind.i64.wrap (lam q t r * x * (1 - q)) = lam q t (r + 1) * x := by rw [e2]; exact IntWalk.i64_in _ (by omega)
                  have E2 := Lib.hid e2
                  clear hbit el e2 lb lb2
                  go_wp2_with (go_at_call 10; refine (bit_any t r _ (by omega) (by omega)).mono ?_; rintro e w' ⟨rfl, rfl⟩)
                  go_roundw
                  case rel => exact ⟨r + 1, by omega, by go_num, by first | rfl | rw [E2.out], hbr'⟩
                  case measure => simp [intOf]; omega
              · obtain rfl : r = N := by omega
                obtain ⟨b3', o3', e3, _, cc3'⟩ := (HRD3.out.below hbr').at_ hlt
                have hne : (lam q t r * x != lam q t r * x) = false := by simp
                rw [HBL.out] at cc3'
                go_wp2_with fail
                go_roundw
                case rel => exact ⟨t + 1, by omega, by go_num, hbr'⟩
                case measure => simp [intOf]; omega
          · obtain rfl : t = j := by omega
            go_wp2_with fail
            go_ret
            exact ⟨rfl, hb.trans (hbr.mono hb.size)⟩
      · have hq2 : (wvE n j f != 0) = true := by rw [bne_iff_ne]; exact hv
        have hz : isZ (wvE n j f) = false := by simp [isZ, hv]
        have HV := Lib.hid hv
        clear hv
        go_wp2_with fail
        refine (blur_bad n q A' j c' f wr hrd hml HV.out).mono ?_
        rintro e w1 ⟨rfl, hb1⟩
        go_wp2_with (go_at_call 8; refine (waved_any n A' j c' f w1 (hrd.below hb1) hml).mono ?_; rintro e w' ⟨rfl, rfl⟩)
        go_ret
        exact ⟨rfl, hbel.trans (hb1.mono hbel.size)⟩
end Go.Proofs.Ytjaakdjkacnfkaa.waveBlur
