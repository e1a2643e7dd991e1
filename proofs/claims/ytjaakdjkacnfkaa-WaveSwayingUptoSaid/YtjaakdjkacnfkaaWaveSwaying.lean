/- The total influence is bounded below by the variance, and a bit without influence does not occur in the transform. Condition: that of the second form, that what comes in is of bulk at most 1048576. -/
import Derived.Test.YtjaakdjkacnfkaaSways
import Derived.Test.YtjaakdjkacnfkaaBit
import Derived.Test.YtjaakdjkacnfkaaWaveBlurLaw
namespace Go.Proofs.Ytjaakdjkacnfkaa.waveSwaying
open WaveM Go.ChangeShapes Go.WideShapes Go.ChangeAt Go.RowKit
set_option linter.unusedVariables false
def sgn (f : Nat → Bool) (z : Nat) : Int := cond (f z) (-1) 1
theorem sgn_yes {f : Nat → Bool} {z : Nat} (h : f z = true) : sgn f z = -1 := by simp [sgn, h]
theorem sgn_no {f : Nat → Bool} {z : Nat} (h : f z = false) : sgn f z = 1 := by simp [sgn, h]
theorem sgn_bd (f : Nat → Bool) (z : Nat) : -1 ≤ sgn f z ∧ sgn f z ≤ 1 := by cases h : f z <;> simp [sgn, h]
theorem swAll_le (f : Nat → Bool) (m : Nat) (i : Nat) : swAll f m i ≤ m * i := by
  induction i with
  | zero => exact Nat.zero_le _
  | succ i ih =>
    have : sw f i m ≤ m := cn_le _ _
    simp only [swAll]; rw [Nat.mul_succ]; omega
theorem still {N m i t : Nat} {f : Nat → Bool} (hN : N ≤ 4) (hm : m = 2 ^ N) (hi : i < N) (h : sw f i m = 0) (ht : t < m) (hb : ¬ t / 2 ^ i % 2 = 0) : E tA tS (sgn f) N t = 0 := by
  subst hm
  refine no_sway hN hi (f := sgn f) (fun z hz => ?_) N hi (Nat.le_refl _) t ht hb
  have := cn_zero h z hz
  have e : f (WaveM.flip i z) = f z := by simpa using this
  unfold sgn; rw [e]
set_option maxRecDepth 100000 in
theorem walk (w : World) (n : Int) (A : Option Addr) (m c : Nat) (f : Nat → Bool) (wn : (Lit.int .i64 n).wf = true) (h : Rd w A m (fun i => .bool (f i))) (hl : m ≤ c) (hm : c ≤ maxLen) (z : c ≤ 1048576) :
    Calls Try.prog 6 #[.int .i64 n, .slice A m c] w fun e w' => e = .returned (.bool true) ∧ Below w.heap.size w w' := by
  have hm2 : m ≤ 1048576 := by omega
  have hml : m ≤ maxLen := by unfold maxLen; omega
  clear wn hm z hl
  by_cases hv : tabE n m 0 = 0
  · obtain ⟨N, rfl, hN, hk2⟩ := tab_zero hv
    have hz : zeroB (tabE (N : Int) m 0) = true := by rw [hv]; rfl
    have p := tpow_bd hN
    have hk16 : m ≤ 16 := by omega
    have hm1 : 1 ≤ m := by omega
    have H := Lib.hid h
    have HK2 := Lib.hid hk2
    clear hv h hk2 p
    go_enter Try.func6, Try.ntmps6
    go_wp2_with fail
    refine (sways_good N A m c f w H.out hN HK2.out).mono ?_
    rintro e w1 ⟨A1, c1, rfl, hrd1, hb1⟩
    have HRD1 := Lib.hid hrd1
    clear hrd1
    go_wp2_with fail
    refine (tabled_any N A m c w1 hml).mono ?_
    rintro e w2 ⟨rfl, hb2⟩
    have hb02 : Below w.heap.size w w2 := hb1.trans (hb2.mono hb1.size)
    go_wp2_with fail
    go_loopw [7, 8, 32] (fun o y i wr => ∃ (k : Nat) (A' : Option Addr) (c' : Nat), k ≤ m ∧ i = .int .i64 k ∧ y = .int .i64 (cn f k : Nat) ∧ o = .slice A' k c' ∧ Own wr w2.heap.size 3 1 A' k c' k (fun i => .int .i64 (sgn f i)) ∧ Below w2.heap.size w2 wr) (fun _ _ i _ => m - (intOf i).toNat)
    case atStart => exact ⟨0, none, 0, Nat.zero_le _, rfl, rfl, rfl, Own.nil _ _ _ _ _, Below.refl _ _⟩
    case round =>
      obtain ⟨j, A', c', hk, rfl, rfl, rfl, hown, hbel⟩ := hrel
      by_cases hlt : j < m
      · obtain ⟨b, off, rfl, hb, hc⟩ := (H.out.below (hb02.trans (hbel.mono hb02.size))).at_ hlt
        have hsz := hbel.size
        have hcl := cn_le f j
        have hce : cn f (j + 1) = cn f j + (f j).toNat := rfl
        obtain ⟨Y, hY⟩ : ∃ Y, Y = cn f j := ⟨_, rfl⟩
        rw [← hY] at hcl hce ⊢
        clear hY
        cases hfj : f j with
        | true =>
          rw [hfj] at hc hce
          have hsg := sgn_yes hfj
          have HSG := Lib.hid hsg
          have HCE := Lib.hid hce
          clear hfj hsg hce
          go_wp2_with (at_builtin; refine wpList_app _ rfl (.tmp 39) (.tmp 41) 23 rfl EI rfl (hown.alloc _) rfl (l := 1) (by omega) (Rd.one _ _ _) (fun _ _ => rfl) (by unfold maxLen; omega) (by omega) (by simp; omega) (j + 1) (j + 1) rfl rfl ?_; intro A2 c2 w3 hown2 hg2 hat2 hbl2)
          go_roundw
          case rel => exact ⟨j + 1, A2, c2, by omega, by go_num, by rw [HCE.out]; go_num, rfl, hown2.congr (fun i hi => by
            by_cases hik : i < j
            · rw [cat_lt hik]
            · obtain rfl : i = j := by omega
              rw [cat_ge (by omega), HSG.out]), ((hbel.alloc (by omega) _)).trans hbl2⟩
          case measure => simp [intOf]; omega
        | false =>
          rw [hfj] at hc hce
          have hsg := sgn_no hfj
          have HSG := Lib.hid hsg
          have HCE := Lib.hid hce
          clear hfj hsg hce
          go_wp2_with (at_builtin; refine wpList_app _ rfl (.tmp 39) (.tmp 41) 23 rfl EI rfl (hown.alloc _) rfl (l := 1) (by omega) (Rd.one _ _ _) (fun _ _ => rfl) (by unfold maxLen; omega) (by omega) (by simp; omega) (j + 1) (j + 1) rfl rfl ?_; intro A2 c2 w3 hown2 hg2 hat2 hbl2)
          go_roundw
          case rel => exact ⟨j + 1, A2, c2, by omega, by go_num, by rw [HCE.out]; go_num, rfl, hown2.congr (fun i hi => by
            by_cases hik : i < j
            · rw [cat_lt hik]
            · obtain rfl : i = j := by omega
              rw [cat_ge (by omega), HSG.out]), ((hbel.alloc (by omega) _)).trans hbl2⟩
          case measure => simp [intOf]; omega
      · obtain rfl : j = m := by omega
        have hrd := hown.rd
        have HRD := Lib.hid hrd
        have hb0 : Below w.heap.size w wr := hb02.trans (hbel.mono hb02.size)
        have hb1r : Below w1.heap.size w1 wr := hb2.trans (hbel.mono hb2.size)
        have hokr : okR j (sgn f) := fun i _ => by have := sgn_bd f i; omega
        have HOK := Lib.hid hokr
        clear hown hrd hokr
        go_wp2_with fail
        refine (turn_good N A' j c' (sgn f) wr HRD.out hN HK2.out HOK.out).mono ?_
        rintro e w3 ⟨A3, c3, rfl, hrd3, hle3, hmx3, hb3⟩
        have HRD3 := Lib.hid hrd3
        have hb03 : Below w.heap.size w w3 := hb0.trans (hb3.mono hb0.size)
        have hb13 : Below w1.heap.size w1 w3 := hb1r.trans (hb3.mono hb1r.size)
        have hpoin := poincare hN f
        rw [← HK2.out] at hpoin
        have hcl := cn_le f j
        obtain ⟨Y, hY⟩ : ∃ Y, Y = cn f j := ⟨_, rfl⟩
        rw [← hY] at hpoin hcl ⊢
        have HP := Lib.hid hpoin
        clear hrd3 hpoin hY
        go_wp2_with fail
        go_loopw [14, 71] (fun s i wr => ∃ r : Nat, r ≤ N ∧ i = .int .i64 r ∧ s = .int .i64 (swAll f j r : Nat) ∧ Below w3.heap.size w3 wr) (fun _ i _ => N - (intOf i).toNat)
        case atStart => exact ⟨0, Nat.zero_le _, rfl, rfl, Below.refl _ _⟩
        case round =>
          obtain ⟨wo, rfl⟩ : ∃ wo : World, wo = wr := ⟨_, rfl⟩
          obtain ⟨r, hr, rfl, rfl, hbr⟩ := hrel
          have hsl := swAll_le f j r
          have hsb : swAll f j r ≤ 64 := Nat.le_trans hsl (Nat.mul_le_mul hk16 (by omega : r ≤ 4))
          have hse : swAll f j (r + 1) = swAll f j r + sw f r j := rfl
          have hsw : sw f r j ≤ j := cn_le _ _
          by_cases hlr : r < N
          · obtain ⟨b1, o1, rfl, _, cc1⟩ := ((HRD1.out.below hb13).below hbr).at_ hlr
            have HST : ∀ t, t < j → ¬ t / 2 ^ r % 2 = 0 → sw f r j = 0 → E tA tS (sgn f) N t = 0 := fun t ht hb hs => still hN HK2.out hlr hs ht hb
            obtain ⟨S, hS⟩ : ∃ S, S = sw f r j := ⟨_, rfl⟩
            obtain ⟨T, hT⟩ : ∃ T, T = swAll f j r := ⟨_, rfl⟩
            rw [← hS] at cc1 hse hsw HST
            rw [← hT] at hse hsb ⊢
            have HSE := Lib.hid hse
            have HSTT := Lib.hid HST
            clear hse HST hS hT hsl
            go_wp2_with fail
            go_loopw [81] (fun i wr => ∃ t : Nat, t ≤ j ∧ i = .int .i64 t ∧ Below w3.heap.size w3 wr) (fun i _ => j - (intOf i).toNat)
            case atStart => exact ⟨0, Nat.zero_le _, rfl, hbr⟩
            case round =>
              obtain ⟨t, ht, rfl, hbr'⟩ := hrel
              by_cases hlt : t < j
              · obtain ⟨b3, o3, rfl, _, cc3⟩ := (HRD3.out.below hbr').at_ hlt
                by_cases hs0 : S = 0
                · have hq : ((S : Int) == 0) = true := by rw [hs0]; rfl
                  by_cases hbit : t / 2 ^ r % 2 = 0
                  · have hbb := bitB_no hbit
                    clear hbit hs0
                    go_wp2_with (go_at_call 10; refine (bit_any t r _ (by omega) (by omega)).mono ?_; rintro e w' ⟨rfl, rfl⟩)
                    go_roundw
                    case rel => exact ⟨t + 1, by omega, by go_num, hbr'⟩
                    case measure => simp [intOf]; omega
                  · have hbb := bitB_yes hbit
                    rw [HSTT.out t hlt hbit hs0] at cc3
                    clear hbit hs0
                    go_wp2_with (go_at_call 10; refine (bit_any t r _ (by omega) (by omega)).mono ?_; rintro e w' ⟨rfl, rfl⟩)
                    go_roundw
                    case rel => exact ⟨t + 1, by omega, by go_num, hbr'⟩
                    case measure => simp [intOf]; omega
                · have hq : ((S : Int) == 0) = false := by rw [beq_eq_false_iff_ne]; omega
                  go_wp2_with fail
                  go_roundw
                  case rel => exact ⟨t + 1, by omega, by go_num, hbr'⟩
                  case measure => simp [intOf]; omega
              · obtain rfl : t = j := by omega
                go_wp2_with fail
                go_roundw
                case rel => exact ⟨r + 1, by omega, by go_num, by rw [HSE.out]; go_num, hbr'⟩
                case measure => simp [intOf]; omega
          · obtain rfl : r = N := by omega
            obtain ⟨T, hT⟩ : ∃ T, T = swAll f j r := ⟨_, rfl⟩
            have hpp := HP.out
            rw [← hT] at hpp hsb ⊢
            have m1 := mul_bd (x := (T : Int)) (X := 64) (y := (j : Int)) (Y := 16) (by omega) (by omega)
            have m2 := mul_bd (x := 4 * (Y : Int)) (X := 64) (y := (j : Int) - Y) (Y := 16) (by omega) (by omega)
            have hd : decide (4 * (Y : Int) * ((j : Int) - Y) ≤ (T : Int) * j) = true := decide_eq_true hpp
            clear hsl hse hsw hT hpp
            go_wp2_with fail
            go_ret
            exact ⟨rfl, hb03.trans (hbr.mono hb03.size)⟩
  · have hz : zeroB (tabE n m 0) = false := by simp [zeroB, hv]
    have HV := Lib.hid hv
    have H := Lib.hid h
    clear hv h
    go_enter Try.func6, Try.ntmps6
    go_wp2_with fail
    refine (sways_bad n A m c w hm2 HV.out).mono ?_
    rintro e w1 ⟨⟨r, rfl, hr⟩, hb1⟩
    go_wp2_with fail
    refine (tabled_any n A m c w1 hml).mono ?_
    rintro e w2 ⟨rfl, hb2⟩
    go_wp2_with fail
    go_ret
    exact ⟨rfl, hb1.trans (hb2.mono hb1.size)⟩
end Go.Proofs.Ytjaakdjkacnfkaa.waveSwaying
