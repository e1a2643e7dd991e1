/- The circuit built for a table has the values of the table. No condition. -/
import Derived.Test.YtcpcamblnkcefaaBuild
import Derived.Test.YtcpcamblnkcefaaGateRef
import Derived.Test.YtcpcamblnkcefaaRefBits
import Derived.Test.YtcpcamblnkcefaaRefGates
import Derived.Test.YtcpcamblnkcefaaGateTwiceLaw
import Derived.IntWalk
import Derived.Deep.RegionLaw
import Derived.Deep.RegionHeld3
namespace Go.Proofs.Ytcpcamblnkcefaa
open Go.ChangeShapes Go.WideShapes Go.ChangeAt Go.RowKit
set_option linter.unusedVariables false
set_option linter.unusedSimpArgs false
theorem wd_bit {x : Nat} : ∀ {k : Nat}, x < 2 ^ k → wd (bitB x) k = x := fun {k} => by
  have key : ∀ k, wd (bitB x) k = x % 2 ^ k := fun k => by
    induction k with
    | zero => show 0 = x % 1; omega
    | succ k ih =>
      show wd (bitB x) k + (if bitB x k then 2 ^ k else 0) = _
      rw [ih, Nat.mod_pow_succ]
      unfold bitB
      have : x / 2 ^ k % 2 = 0 ∨ x / 2 ^ k % 2 = 1 := by omega
      rcases this with e | e <;> rw [e] <;> simp
  intro h
  rw [key, Nat.mod_eq_of_lt h]
namespace gateShannon
set_option maxRecDepth 100000 in
set_option maxHeartbeats 1000000 in
theorem walk (w : World) (inn : Int) (A : Option Addr) (n c : Nat) (tb : Nat → Bool) (a : Int) (wn : (Lit.int .i64 inn).wf = true) (h : Rd w A n (fun q => .bool (tb q))) (hl : n ≤ c) (hm : c ≤ maxLen) (z : c * 1 ≤ 140737488351232) (wa : (Lit.int .u8 a).wf = true) :
    Calls Try.prog 5 #[.int .i64 inn, .slice A n c, .int .u8 a] w fun e w' => e = .returned (.bool true) ∧ Below w.heap.size w w' := by
  have ha : 0 ≤ a ∧ a ≤ 255 := by simp [Lit.wf, IntKind.min, IntKind.max, IntKind.signed, IntKind.bits] at wa; omega
  have H := Lib.hid h
  have HM := Lib.hid hm
  have WN := Lib.hid wn
  clear h hm wa wn
  go_enter Try.func5, Try.ntmps5
  go_wp2_with fail
  refine (build_any inn A n c tb w WN.out H.out hl HM.out).mono ?_
  rintro e w1 ⟨A', m, c', F', x, rfl, hb1, hcase⟩
  have HC := Lib.hid hcase
  have HB1 := Lib.hid hb1
  clear hcase hb1
  rcases HC.out with ⟨hx, rfl⟩ | ⟨rfl, h1, h5, hn, hrd, m1, m300, hgw, hval⟩
  · have q1 : (x != 0) = true := by rw [bne_iff_ne]; exact hx
    clear HC hx
    go_wp2_with fail
    go_ret
    exact ⟨rfl, HB1.out⟩
  · obtain ⟨N, rfl⟩ : ∃ N : Nat, inn = (N : Int) := ⟨inn.toNat, by omega⟩
    rw [Int.toNat_natCast] at hn hval
    have hn32 : 1 ≤ n ∧ n ≤ 32 := by
      rw [hn]
      exact ⟨Nat.pow_pos (by omega), Nat.pow_le_pow_right (n := 2) (i := N) (j := 5) (by omega) (by omega)⟩
    have hpi : (2 : Int) ^ N = (n : Int) := by rw [hn]; push_cast; rfl
    have q1 : ((n : Int) != wrap64 ((2 : Int) ^ N)) = false := by rw [hpi, w64G (by omega)]; exact bne_self_eq_false _
    obtain ⟨K, hK⟩ : ∃ K : Nat, a % (n : Int) = (K : Int) := ⟨(a % (n : Int)).toNat, by have := Int.emod_nonneg a (b := (n : Int)) (by omega); omega⟩
    have hKn : K < n := by have := Int.emod_lt_of_pos a (b := (n : Int)) (by omega); omega
    have hvk : val F' (bitB K) (m - 1) = tb K := by rw [hval, wd_bit (by rw [← hn]; exact hKn)]
    have hcellw : ∃ b off, A = some ⟨b, off, none⟩ ∧ b < w.heap.size ∧ w.cell? ⟨b, off + K, none⟩ = some (.bool (tb K)) := H.out.at_ hKn
    obtain ⟨tbb, tof, rfl, ltb, hck⟩ := hcellw
    have hm0 : ((m : Int) == 0) = false := by rw [beq_eq_false_iff_ne]; omega
    have HGW := Lib.hid hgw
    have HVK := Lib.hid hvk
    have HRD := Lib.hid hrd
    have HN := Lib.hid hn
    have HQ1 := Lib.hid q1
    have hnz : (n : Int) ≠ 0 := by omega
    clear HC hgw hvk hrd hn hpi hval
    obtain ⟨tk, htk⟩ : ∃ tk, tk = tb K := ⟨_, rfl⟩
    rw [← htk] at hck HVK
    clear htk
    have hc1 := (HB1.out.cell (p := ⟨tbb, tof + K, none⟩) ltb).trans hck
    obtain ⟨J, hJ⟩ : ∃ J, J = m - 1 := ⟨_, rfl⟩
    have hJ1 : (m : Int) - 1 = (J : Int) := by omega
    have hJm : J < m := by omega
    have HJ := Lib.hid hJ
    clear hJ
    by_cases h40 : m ≤ 40
    · go_upto_region 7 with fail
      rw [hK]
      have HC1 := Lib.hid hc1
      have HCK := Lib.hid hck
      clear hK hnz q1 hc1 hck hJ1
      go_wp2_with fail
      refine (refBits_any N K (by omega) (by omega) w1).mono ?_
      rintro e w5 ⟨⟨S5, sc5, rfl, hr5⟩, hb5⟩
      have HB5 := Lib.hid (HB1.out.trans (hb5.mono HB1.out.size))
      have hck2 : ckE (N : Int) F' m = 0 := by
        unfold ckE
        rw [if_neg (by omega)]
        exact gw_of HGW.out
      have hv2 := value_any (N : Int) A' S5 m c' N sc5 F' (bitB K) w5 (HRD.out.below hb5) hr5 (by unfold maxLen; omega) (by unfold maxLen; omega)
      rw [(v_ok (g := bitB K) hck2 rfl).1, (v_ok (g := bitB K) hck2 rfl).2, HVK.out] at hv2
      have HV2 := Lib.hid hv2
      clear hr5 hb5 hv2 hck2
      go_wp2_with fail
      refine HV2.out.mono ?_
      rintro e w6 ⟨rfl, hb6⟩
      have HB6 := Lib.hid (HB5.out.trans (hb6.mono HB5.out.size))
      have hc6 := (HB6.out.cell (p := ⟨tbb, tof + K, none⟩) ltb).trans HCK.out
      clear hb6 HV2
      have hvv : (tk == tk) = true := by simp
      go_wp2_with fail
      go_ret
      exact ⟨by first | rfl | (cases tk <;> rfl), HB6.out⟩
    · go_upto_region 7 with fail
      rw [hK]
      have HC1 := Lib.hid hc1
      have hgc : ∀ W : World, W.heap = w1.heap → Calls Try.prog 11 #[.int .i64 (N : Nat), .slice A' m c'] W fun e w' => e = .returned (.int .i64 0) ∧ Below W.heap.size W w' := fun W hW => by
        have := gatesCheck_any (N : Int) A' m c' F' W (HRD.out.heap hW) (by unfold maxLen; omega)
        rw [gw_of HGW.out] at this
        exact this
      have HGC := Lib.hid hgc
      clear hK hnz q1 hck hgc
      go_wp2_with fail
      have lt1 : tbb < w1.drew.heap.size := Nat.lt_of_lt_of_le ltb HB1.out.size
      have n1000 : m ≤ 1000 := by omega
      have N1000 : K < 1000000 := by omega
      have i5 : (N : Int) ≤ 5 := h5
      have hj5 : IntKind.i64.wrap (J : Int) = (J : Int) := IntWalk.i64_in _ (by omega)
      have hvj : (val F' (bitB K) J == tk) = true := by rw [HJ.out, HVK.out]; simp
      have hwj : wrap64 ((m : Int) - 1) = (J : Int) := by rw [hJ1]; exact w64G (by omega)
      have hj0 : ¬ ((J : Int) < 0) := by omega
      have hj1 : ¬ ((m : Int) ≤ (J : Int)) := by omega
      have hj2 : (0 : Int) ≤ (J : Int) ∧ (J : Int) < (m : Int) := by omega
      have hj3 : J < m := hJm
      have hj4 : wrap64 (J : Int) = (J : Int) := w64G (by omega)
      have kp0 : w1.drew.cell? ⟨tbb, tof + K, none⟩ = some (.bool tk) := hc1
      refine wp_region_any (by kernel_rfl) ?_
      change wpAny _ _ _ _ _ _ _ (World.drew _)
      refine wpAny_take (i := 0) (v := ?_) rfl (by kernel_rfl) (by kernel_rfl) (by kernel_rfl) (fun _ _ _ h => h) (Or.inl ⟨by rfl, ?_⟩) ?_
      rotate_left 1
      · intro w; go_simp; with_reducible rfl
      simp only [Act.put, List.getElem_toArray, List.getElem_cons_zero, List.getElem_cons_succ, List.setIfInBounds_toArray, List.set_cons_zero, List.set_cons_succ]
      refine wpAny_take (i := 1) (v := ?_) rfl (by kernel_rfl) (by kernel_rfl) (by kernel_rfl) (fun _ _ _ h => h) (Or.inl ⟨by rfl, ?_⟩) ?_
      rotate_left 1
      · intro w; go_simp; with_reducible rfl
      simp only [Act.put, List.getElem_toArray, List.getElem_cons_zero, List.getElem_cons_succ, List.setIfInBounds_toArray, List.set_cons_zero, List.set_cons_succ]
      refine wpAny_ready (rs := [2]) (by kernel_rfl) (by simp) ?_
      refine AllReady.cons rfl (fun KK hK => ?_) AllReady.nil
      · go_simp
        go_at_call 11; refine (HGC.out w1.drew rfl).mono ?_; rintro e w3 ⟨rfl, hb3⟩; have kp1 := (hb3.cell (p := ⟨tbb, tof + K, none⟩) lt1).trans kp0
        try go_simp
        refine hK _ _ ?_
        clear hK KK
        try simp only [Act.put, List.getElem_toArray, List.getElem_cons_zero, List.getElem_cons_succ, List.setIfInBounds_toArray, List.set_cons_zero, List.set_cons_succ]
        refine wpAny_take (i := 3) (v := ?_) rfl (by kernel_rfl) (by kernel_rfl) (by kernel_rfl) (fun _ _ _ h => h) (Or.inl ⟨by rfl, ?_⟩) ?_
        rotate_left 1
        · intro w; go_simp; with_reducible rfl
        simp only [Act.put, List.getElem_toArray, List.getElem_cons_zero, List.getElem_cons_succ, List.setIfInBounds_toArray, List.set_cons_zero, List.set_cons_succ]
        refine wpAny_take (i := 4) (v := ?_) rfl (by kernel_rfl) (by kernel_rfl) (by kernel_rfl) (fun _ _ _ h => h) (Or.inl ⟨by rfl, ?_⟩) ?_
        rotate_left 1
        · intro w; go_simp; with_reducible rfl
        simp only [Act.put, List.getElem_toArray, List.getElem_cons_zero, List.getElem_cons_succ, List.setIfInBounds_toArray, List.set_cons_zero, List.set_cons_succ]
        refine wpAny_take (i := 5) (v := ?_) rfl (by kernel_rfl) (by kernel_rfl) (by kernel_rfl) (fun _ _ _ h => h) (Or.inl ⟨by rfl, ?_⟩) ?_
        rotate_left 1
        · intro w; go_simp; with_reducible rfl
        simp only [Act.put, List.getElem_toArray, List.getElem_cons_zero, List.getElem_cons_succ, List.setIfInBounds_toArray, List.set_cons_zero, List.set_cons_succ]
        refine wpAny_take (i := 6) (v := ?_) rfl (by kernel_rfl) (by kernel_rfl) (by kernel_rfl) (fun _ _ _ h => h) (Or.inl ⟨by rfl, ?_⟩) ?_
        rotate_left 1
        · intro w; go_simp; with_reducible rfl
        simp only [Act.put, List.getElem_toArray, List.getElem_cons_zero, List.getElem_cons_succ, List.setIfInBounds_toArray, List.set_cons_zero, List.set_cons_succ]
        refine wpAny_take (i := 8) (v := ?_) rfl (by kernel_rfl) (by kernel_rfl) (by kernel_rfl) (fun _ _ _ h => h) (Or.inl ⟨by rfl, ?_⟩) ?_
        rotate_left 1
        · intro w; go_simp; with_reducible rfl
        simp only [Act.put, List.getElem_toArray, List.getElem_cons_zero, List.getElem_cons_succ, List.setIfInBounds_toArray, List.set_cons_zero, List.set_cons_succ]
        refine wpAny_take (i := 9) (v := ?_) rfl (by kernel_rfl) (by kernel_rfl) (by kernel_rfl) (fun _ _ _ h => h) (Or.inl ⟨by rfl, ?_⟩) ?_
        rotate_left 1
        · intro w; go_simp; with_reducible rfl
        simp only [Act.put, List.getElem_toArray, List.getElem_cons_zero, List.getElem_cons_succ, List.setIfInBounds_toArray, List.set_cons_zero, List.set_cons_succ]
        refine wpAny_take (i := 10) (v := ?_) rfl (by kernel_rfl) (by kernel_rfl) (by kernel_rfl) (fun _ _ _ h => h) (Or.inl ⟨by rfl, ?_⟩) ?_
        rotate_left 1
        · intro w; go_simp; with_reducible rfl
        simp only [Act.put, List.getElem_toArray, List.getElem_cons_zero, List.getElem_cons_succ, List.setIfInBounds_toArray, List.set_cons_zero, List.set_cons_succ]
        refine wpAny_take (i := 13) (v := ?_) rfl (by kernel_rfl) (by kernel_rfl) (by kernel_rfl) (fun _ _ _ h => h) (Or.inl ⟨by rfl, ?_⟩) ?_
        rotate_left 1
        · intro w; go_simp; with_reducible rfl
        simp only [Act.put, List.getElem_toArray, List.getElem_cons_zero, List.getElem_cons_succ, List.setIfInBounds_toArray, List.set_cons_zero, List.set_cons_succ]
        refine wpAny_take (i := 14) (v := ?_) rfl (by kernel_rfl) (by kernel_rfl) (by kernel_rfl) (fun _ _ _ h => h) (Or.inl ⟨by rfl, ?_⟩) ?_
        rotate_left 1
        · intro w; go_simp; with_reducible rfl
        simp only [Act.put, List.getElem_toArray, List.getElem_cons_zero, List.getElem_cons_succ, List.setIfInBounds_toArray, List.set_cons_zero, List.set_cons_succ]
        refine wpAny_take (i := 15) (v := ?_) rfl (by kernel_rfl) (by kernel_rfl) (by kernel_rfl) (fun _ _ _ h => h) (Or.inl ⟨by rfl, ?_⟩) ?_
        rotate_left 1
        · intro w; go_simp; with_reducible rfl
        simp only [Act.put, List.getElem_toArray, List.getElem_cons_zero, List.getElem_cons_succ, List.setIfInBounds_toArray, List.set_cons_zero, List.set_cons_succ]
        refine wpAny_ready (rs := [7, 16]) (by kernel_rfl) (by simp) ?_
        refine AllReady.cons rfl (fun KK hK => ?_) (AllReady.cons rfl (fun KK hK => ?_) AllReady.nil)
        · go_simp
          go_at_call 12; refine (refGates_any (N : Int) A' m c' K F' w3 (HRD.out.drew.below hb3) n1000 N1000 i5 HGW.out).mono ?_; rintro e w4 ⟨A5, c5, rfl, hr5, hb4⟩; obtain ⟨b5, o5, rfl, _, hcv⟩ := hr5.at_ hJm; have kp2 := (hb4.cell (p := ⟨tbb, tof + K, none⟩) (Nat.lt_of_lt_of_le lt1 hb3.size)).trans kp1
          try go_simp
          refine hK _ _ ?_
          clear hK KK
          try simp only [Act.put, List.getElem_toArray, List.getElem_cons_zero, List.getElem_cons_succ, List.setIfInBounds_toArray, List.set_cons_zero, List.set_cons_succ]
          refine wpAny_take (i := 11) (v := ?_) rfl (by kernel_rfl) (by kernel_rfl) (by kernel_rfl) (fun _ _ _ h => h) (Or.inl ⟨by rfl, ?_⟩) ?_
          rotate_left 1
          · intro w; go_simp; with_reducible rfl
          simp only [Act.put, List.getElem_toArray, List.getElem_cons_zero, List.getElem_cons_succ, List.setIfInBounds_toArray, List.set_cons_zero, List.set_cons_succ]
          refine wpAny_ready (rs := [12, 16]) (by kernel_rfl) (by simp) ?_
          refine AllReady.cons rfl (fun KK hK => ?_) (AllReady.cons rfl (fun KK hK => ?_) AllReady.nil)
          · go_simp
            refine hK _ _ ?_
            clear hK KK
            try simp only [Act.put, List.getElem_toArray, List.getElem_cons_zero, List.getElem_cons_succ, List.setIfInBounds_toArray, List.set_cons_zero, List.set_cons_succ]
            refine wpAny_ready (rs := [16]) (by kernel_rfl) (by simp) ?_
            refine AllReady.cons rfl (fun KK hK => ?_) AllReady.nil
            · go_simp
              refine hK _ _ ?_
              clear hK KK
              try simp only [Act.put, List.getElem_toArray, List.getElem_cons_zero, List.getElem_cons_succ, List.setIfInBounds_toArray, List.set_cons_zero, List.set_cons_succ]
              refine wpAny_take (i := 17) (v := ?_) rfl (by kernel_rfl) (by kernel_rfl) (by kernel_rfl) (fun _ _ _ h => h) (Or.inl ⟨by rfl, ?_⟩) ?_
              rotate_left 1
              · intro w; go_simp; with_reducible rfl
              simp only [Act.put, List.getElem_toArray, List.getElem_cons_zero, List.getElem_cons_succ, List.setIfInBounds_toArray, List.set_cons_zero, List.set_cons_succ]
              refine wpAny_take (i := 18) (v := ?_) rfl (by kernel_rfl) (by kernel_rfl) (by kernel_rfl) (fun _ _ _ h => h) (Or.inl ⟨by rfl, ?_⟩) ?_
              rotate_left 1
              · intro w; go_simp; with_reducible rfl
              simp only [Act.put, List.getElem_toArray, List.getElem_cons_zero, List.getElem_cons_succ, List.setIfInBounds_toArray, List.set_cons_zero, List.set_cons_succ]
              refine wpAny_take (i := 19) (v := ?_) rfl (by kernel_rfl) (by kernel_rfl) (by kernel_rfl) (fun _ _ _ h => h) (Or.inl ⟨by rfl, ?_⟩) ?_
              rotate_left 1
              · intro w; go_simp; with_reducible rfl
              simp only [Act.put, List.getElem_toArray, List.getElem_cons_zero, List.getElem_cons_succ, List.setIfInBounds_toArray, List.set_cons_zero, List.set_cons_succ]
              refine wpAny_done (by kernel_rfl) ?_ _
              have HBF := Lib.hid (HB1.out.trans ((((Below.refl w1.heap.size w1).drew).trans (hb3.trans (hb4.mono hb3.size))).mono HB1.out.size))
              clear hj5 hj4 hwj hvj
              go_wp2_with fail
              go_ret
              exact ⟨rfl, HBF.out⟩
          · go_simp
            refine hK _ _ ?_
            clear hK KK
            try simp only [Act.put, List.getElem_toArray, List.getElem_cons_zero, List.getElem_cons_succ, List.setIfInBounds_toArray, List.set_cons_zero, List.set_cons_succ]
            refine wpAny_ready (rs := [12]) (by kernel_rfl) (by simp) ?_
            refine AllReady.cons rfl (fun KK hK => ?_) AllReady.nil
            · go_simp
              refine hK _ _ ?_
              clear hK KK
              try simp only [Act.put, List.getElem_toArray, List.getElem_cons_zero, List.getElem_cons_succ, List.setIfInBounds_toArray, List.set_cons_zero, List.set_cons_succ]
              refine wpAny_take (i := 17) (v := ?_) rfl (by kernel_rfl) (by kernel_rfl) (by kernel_rfl) (fun _ _ _ h => h) (Or.inl ⟨by rfl, ?_⟩) ?_
              rotate_left 1
              · intro w; go_simp; with_reducible rfl
              simp only [Act.put, List.getElem_toArray, List.getElem_cons_zero, List.getElem_cons_succ, List.setIfInBounds_toArray, List.set_cons_zero, List.set_cons_succ]
              refine wpAny_take (i := 18) (v := ?_) rfl (by kernel_rfl) (by kernel_rfl) (by kernel_rfl) (fun _ _ _ h => h) (Or.inl ⟨by rfl, ?_⟩) ?_
              rotate_left 1
              · intro w; go_simp; with_reducible rfl
              simp only [Act.put, List.getElem_toArray, List.getElem_cons_zero, List.getElem_cons_succ, List.setIfInBounds_toArray, List.set_cons_zero, List.set_cons_succ]
              refine wpAny_take (i := 19) (v := ?_) rfl (by kernel_rfl) (by kernel_rfl) (by kernel_rfl) (fun _ _ _ h => h) (Or.inl ⟨by rfl, ?_⟩) ?_
              rotate_left 1
              · intro w; go_simp; with_reducible rfl
              simp only [Act.put, List.getElem_toArray, List.getElem_cons_zero, List.getElem_cons_succ, List.setIfInBounds_toArray, List.set_cons_zero, List.set_cons_succ]
              refine wpAny_done (by kernel_rfl) ?_ _
              have HBF := Lib.hid (HB1.out.trans ((((Below.refl w1.heap.size w1).drew).trans (hb3.trans (hb4.mono hb3.size))).mono HB1.out.size))
              clear hj5 hj4 hwj hvj
              go_wp2_with fail
              go_ret
              exact ⟨rfl, HBF.out⟩
        · go_simp
          refine hK _ _ ?_
          clear hK KK
          try simp only [Act.put, List.getElem_toArray, List.getElem_cons_zero, List.getElem_cons_succ, List.setIfInBounds_toArray, List.set_cons_zero, List.set_cons_succ]
          refine wpAny_ready (rs := [7]) (by kernel_rfl) (by simp) ?_
          refine AllReady.cons rfl (fun KK hK => ?_) AllReady.nil
          · go_simp
            go_at_call 12; refine (refGates_any (N : Int) A' m c' K F' w3 (HRD.out.drew.below hb3) n1000 N1000 i5 HGW.out).mono ?_; rintro e w4 ⟨A5, c5, rfl, hr5, hb4⟩; obtain ⟨b5, o5, rfl, _, hcv⟩ := hr5.at_ hJm; have kp2 := (hb4.cell (p := ⟨tbb, tof + K, none⟩) (Nat.lt_of_lt_of_le lt1 hb3.size)).trans kp1
            try go_simp
            refine hK _ _ ?_
            clear hK KK
            try simp only [Act.put, List.getElem_toArray, List.getElem_cons_zero, List.getElem_cons_succ, List.setIfInBounds_toArray, List.set_cons_zero, List.set_cons_succ]
            refine wpAny_take (i := 11) (v := ?_) rfl (by kernel_rfl) (by kernel_rfl) (by kernel_rfl) (fun _ _ _ h => h) (Or.inl ⟨by rfl, ?_⟩) ?_
            rotate_left 1
            · intro w; go_simp; with_reducible rfl
            simp only [Act.put, List.getElem_toArray, List.getElem_cons_zero, List.getElem_cons_succ, List.setIfInBounds_toArray, List.set_cons_zero, List.set_cons_succ]
            refine wpAny_ready (rs := [12]) (by kernel_rfl) (by simp) ?_
            refine AllReady.cons rfl (fun KK hK => ?_) AllReady.nil
            · go_simp
              refine hK _ _ ?_
              clear hK KK
              try simp only [Act.put, List.getElem_toArray, List.getElem_cons_zero, List.getElem_cons_succ, List.setIfInBounds_toArray, List.set_cons_zero, List.set_cons_succ]
              refine wpAny_take (i := 17) (v := ?_) rfl (by kernel_rfl) (by kernel_rfl) (by kernel_rfl) (fun _ _ _ h => h) (Or.inl ⟨by rfl, ?_⟩) ?_
              rotate_left 1
              · intro w; go_simp; with_reducible rfl
              simp only [Act.put, List.getElem_toArray, List.getElem_cons_zero, List.getElem_cons_succ, List.setIfInBounds_toArray, List.set_cons_zero, List.set_cons_succ]
              refine wpAny_take (i := 18) (v := ?_) rfl (by kernel_rfl) (by kernel_rfl) (by kernel_rfl) (fun _ _ _ h => h) (Or.inl ⟨by rfl, ?_⟩) ?_
              rotate_left 1
              · intro w; go_simp; with_reducible rfl
              simp only [Act.put, List.getElem_toArray, List.getElem_cons_zero, List.getElem_cons_succ, List.setIfInBounds_toArray, List.set_cons_zero, List.set_cons_succ]
              refine wpAny_take (i := 19) (v := ?_) rfl (by kernel_rfl) (by kernel_rfl) (by kernel_rfl) (fun _ _ _ h => h) (Or.inl ⟨by rfl, ?_⟩) ?_
              rotate_left 1
              · intro w; go_simp; with_reducible rfl
              simp only [Act.put, List.getElem_toArray, List.getElem_cons_zero, List.getElem_cons_succ, List.setIfInBounds_toArray, List.set_cons_zero, List.set_cons_succ]
              refine wpAny_done (by kernel_rfl) ?_ _
              have HBF := Lib.hid (HB1.out.trans ((((Below.refl w1.heap.size w1).drew).trans (hb3.trans (hb4.mono hb3.size))).mono HB1.out.size))
              clear hj5 hj4 hwj hvj
              go_wp2_with fail
              go_ret
              exact ⟨rfl, HBF.out⟩
end gateShannon
end Go.Proofs.Ytcpcamblnkcefaa
