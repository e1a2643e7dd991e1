/- wide.build: orders of a gate. Conditions: the circuit is one, and the gate is no deeper than four. -/
import Derived.Test.YtmhicimjoidonaaWideMk
namespace Go.Proofs.Ytmhicimjoidonaa
open Go.ChangeShapes Go.WideShapes Go.ChangeAt Go.RowKit
set_option linter.unusedVariables false
set_option linter.unusedSimpArgs false
theorem OrdP.mono {inn : Int} {v : (Nat → Bool) → Bool} {r M M' m : Nat} {F : Nat → Int} (h : OrdP inn v r M m F) (hM : M ≤ M') : OrdP inn v r M' m F := ⟨h.1, Nat.le_trans h.2.1 hM, h.2.2⟩
theorem OrdP.val {inn : Int} {v v' : (Nat → Bool) → Bool} {r M m : Nat} {F : Nat → Int} (h : OrdP inn v r M m F) (hv : ∀ g, v g = v' g) : OrdP inn v' r M m F := ⟨h.1, h.2.1, h.2.2.1, h.2.2.2.1, fun g x hx => by rw [h.2.2.2.2 g x hx, hv g]⟩
def GB (W : World) (x : Nat) (kd a b : Int) (r : Nat) : Prop := XC W x (eF r) ∧ W.cell? ⟨x + 1, 0, none⟩ = some (.int .i64 kd) ∧ W.cell? ⟨x + 1, 1, none⟩ = some (.int .i64 a) ∧ W.cell? ⟨x + 1, 2, none⟩ = some (.int .i64 b)
theorem GB.below {W W' : World} {x r : Nat} {kd a b : Int} (h : GB W x kd a b r) (hb : Below W.heap.size W W') (hx : x + 1 < W.heap.size) : GB W' x kd a b r := by
  have k : ∀ o, W'.cell? ⟨x + 1, o, none⟩ = W.cell? ⟨x + 1, o, none⟩ := fun o => hb.cell (p := ⟨x + 1, o, none⟩) hx
  obtain ⟨h1, h2⟩ := h
  refine ⟨h1.below hb (by omega), ?_⟩
  simp only [k]
  exact h2
/-- one order: a round just if the input is so -/
def oneF (a : Int) (r : Nat) : Nat → Int := fun q => if q = 0 then a else if q < 6 then ((q - 1 : Nat) : Int) else eF r (q - 6)
theorem perm_id : perm idF := ⟨fun i hi => by unfold idF; omega, fun j hj i hi h => by unfold idF at h; omega⟩
theorem OrdP.one {inn a : Int} {r : Nat} (hr : cyc r = true) (h0 : 0 ≤ a) (h1 : a < inn) : OrdP inn (fun g => g a.toNat) r 1 1 (oneF a r) := by
  have hn : ∀ j, j < 5 → noF (oneF a r) 0 j = (j : Int) := fun j hj => by
    show oneF a r (11 * 0 + 1 + j) = _
    unfold oneF
    rw [if_neg (by omega), if_pos (by omega)]
    omega
  have hy : ∀ j, j < 5 → yesF (oneF a r) 0 j = eF r j := fun j hj => by
    show oneF a r (11 * 0 + 6 + j) = _
    unfold oneF
    rw [if_neg (by omega), if_neg (by omega), show 11 * 0 + 6 + j - 6 = j by omega]
  refine ⟨Nat.le_refl _, Nat.le_refl _, fun k hk => ?_, fun k hk => ?_, fun g x hx => ?_⟩
  · obtain rfl : k = 0 := by omega
    exact ⟨perm_congr (fun i hi => (hn i hi).symm) perm_id, perm_congr (fun i hi => (hy i hi).symm) (cyc_perm hr)⟩
  · obtain rfl : k = 0 := by omega
    exact ⟨h0, h1⟩
  · show (if g (oneF a r (11 * 0)).toNat then yesF (oneF a r) 0 else noF (oneF a r) 0) (idF x).toNat = if g a.toNat = true then eF r x else (x : Int)
    have e0 : oneF a r (11 * 0) = a := rfl
    have e1 : (idF x).toNat = x := Int.toNat_natCast x
    rw [e0, e1]
    split
    · exact hy x hx
    · exact hn x hx
theorem GB.new (w : World) (X : Nat → Int) (kd a b : Int) (r : Nat) (o : Obj) (hX : X = eF r) : GB (((w.alloc (.cells #[.int .i64 (X 0), .int .i64 (X 1), .int .i64 (X 2), .int .i64 (X 3), .int .i64 (X 4)] 22)).alloc (.cells #[.int .i64 kd, .int .i64 a, .int .i64 b] 51)).alloc o) w.heap.size kd a b r := by
  subst hX
  have h0 := newrow5 w (eF r)
  have h1 := (h0.alloc (.cells #[.int .i64 kd, .int .i64 a, .int .i64 b] 51)).alloc o
  refine ⟨XC.row h1, ?_, ?_, ?_⟩ <;> simp [go_sem] <;> rfl
theorem own_one {w : World} {base : Nat} (r : Nat) (a : Int) (K : Nat) (hb : base ≤ K) (hK : w.heap.size = K) : Own (w.alloc (.cells #[.int .i64 a, .int .i64 0, .int .i64 1, .int .i64 2, .int .i64 3, .int .i64 4, .int .i64 (eF r 0), .int .i64 (eF r 1), .int .i64 (eF r 2), .int .i64 (eF r 3), .int .i64 (eF r 4)] 43)) base 43 11 (some ⟨K, 0, none⟩) 1 1 (1 * 11) (fun q => .int .i64 (oneF a r q)) := by
  subst hK
  refine Own.made w base _ _ _ hb rfl (by unfold maxLen; omega) fun i hi => ?_
  match i, hi with
  | 0, _ => rfl
  | 1, _ => rfl
  | 2, _ => rfl
  | 3, _ => rfl
  | 4, _ => rfl
  | 5, _ => rfl
  | 6, _ => rfl
  | 7, _ => rfl
  | 8, _ => rfl
  | 9, _ => rfl
  | 10, _ => rfl
set_option maxRecDepth 100000 in
set_option maxHeartbeats 4000000 in
theorem build_all {inn : Int} {A : Option Addr} {n c : Nat} {F : Nat → Int} (hg : GW inn F n) (hn : n ≤ 40) : ∀ i, i < n → dep F i ≤ 4 → BuildAt inn A n c F i := by
  intro i
  induction i using Nat.strongRecOn with
  | _ i ih =>
    intro hi hd r hr w h
    have hdp := dep_eq hg hi
    have hz := gE_zero (hg i hi)
    have hva := fun g => val_of hg hi g
    obtain ⟨bk, off, rfl, hc0, hc1, hc2⟩ := h.at3 hi
    have hbk : bk < w.heap.size := by
      obtain ⟨b', o', e', l', _⟩ := h (show 0 < n * 3 by omega)
      cases e'
      exact l'
    obtain ⟨kd, hkd⟩ : ∃ kd, kd = F (3 * i) := ⟨_, rfl⟩
    obtain ⟨ga, hga⟩ : ∃ ga, ga = F (3 * i + 1) := ⟨_, rfl⟩
    obtain ⟨gb, hgb⟩ : ∃ gb, gb = F (3 * i + 2) := ⟨_, rfl⟩
    unfold dg at hdp
    simp only [← hkd, ← hga, ← hgb] at hc0 hc1 hc2 hdp hz hva
    obtain ⟨k1, k4, z1, z2, z3⟩ := hz
    clear hkd hga hgb
    obtain ⟨x, hx⟩ : ∃ x, x = w.heap.size := ⟨_, rfl⟩
    obtain ⟨W1, hW1⟩ : ∃ W1, W1 = ((w.alloc (.cells #[.int .i64 (eF r 0), .int .i64 (eF r 1), .int .i64 (eF r 2), .int .i64 (eF r 3), .int .i64 (eF r 4)] 22)).alloc (.cells #[.int .i64 kd, .int .i64 ga, .int .i64 gb] 51)).alloc (.cells #[.int .i64 0, .int .i64 1, .int .i64 2, .int .i64 3, .int .i64 4] 22) := ⟨_, rfl⟩
    have hbw : Below w.heap.size w W1 := by rw [hW1]; exact (((Below.refl _ _).alloc (Nat.le_refl _) _).alloc (by simp) _).alloc (by simp; omega) _
    have hs1 : W1.heap.size = x + 3 := by rw [hW1, hx]; simp
    have hd1 : GB W1 x kd ga gb r := by rw [hW1, hx]; exact GB.new w (eF r) kd ga gb r _ rfl
    have h1 := ((h.alloc (.cells #[.int .i64 (eF r 0), .int .i64 (eF r 1), .int .i64 (eF r 2), .int .i64 (eF r 3), .int .i64 (eF r 4)] 22)).alloc (.cells #[.int .i64 kd, .int .i64 ga, .int .i64 gb] 51)).alloc (.cells #[.int .i64 0, .int .i64 1, .int .i64 2, .int .i64 3, .int .i64 4] 22)
    rw [← hW1] at h1
    have h4 : (4 : Nat) ^ dep F i ≤ 256 := Nat.pow_le_pow_right (by omega) hd
    have HM4 := Lib.hid h4
    have HR := Lib.hid hr
    have HBW := Lib.hid hbw
    have HX := Lib.hid hx
    have HW1 := Lib.hid hW1
    have HS := Lib.hid hs1
    have HD := Lib.hid hd1
    have H1 := Lib.hid h1
    have HDP := Lib.hid hdp
    have HVA := Lib.hid hva
    have IH := Lib.hid ih
    have HI := Lib.hid hd
    have HG := Lib.hid hg
    clear h4 hr hbw hx hW1 hs1 hd1 h1 hdp hva ih hg h hd
    by_cases e1 : kd = 1
    · subst e1
      obtain ⟨a0, a1⟩ := z1 rfl
      clear z1 z2 z3 k1 k4
      go_enter Try.func17, Try.ntmps17
      go_wp2_with fail
      have HVA1 := Lib.hid (fun g => ((HVA.out g).1 (by simp)).symm)
      exact bodyPost_ret (v := .slice (some ⟨w.heap.size + 1 + 1 + 1, 0, none⟩) 1 1) (by simp [results, Try.results17, go_sem]) rfl ⟨⟨_, 1, 1, oneF ga r, rfl, own_one r ga (w.heap.size + 1 + 1 + 1) (by omega) (by simp), ((OrdP.one HR.out a0 a1).mono (Nat.pos_of_ne_zero (by simp))).val HVA1.out⟩, by rw [← HW1.out]; exact HBW.out.alloc HBW.out.size _⟩
    have z2' := z2 (by omega)
    obtain ⟨a, ha⟩ : ∃ a : Nat, ga = a := Int.eq_ofNat_of_zero_le z2'.1
    subst ha
    have hai : a < i := by omega
    clear z1 z2 z2'
    by_cases e2 : kd = 2
    · subst e2
      have hd2 : dep F i = dep F a + 1 := by rw [HDP.out, if_neg (by omega), if_pos (by omega), Int.toNat_natCast]
      have hp2 : 4 ^ dep F a ≤ 4 ^ dep F i := Nat.pow_le_pow_right (by omega) (by omega)
      have HMM := Lib.hid hp2
      have HBa := Lib.hid (IH.out a hai (by omega) (by have := HI.out; omega))
      have hv2 : ∀ g, (!(val F g a)) = val F g i := fun g => by rw [(HVA.out g).2.1 (by simp), Int.toNat_natCast]
      have HV := Lib.hid hv2
      clear hd2 hp2 hv2 HDP IH HVA z3 k1 k4 e1
      go_enter Try.func17, Try.ntmps17
      go_upto_region 7 with (fail)
      rw [← HW1.out, ← HX.out]
      obtain ⟨kd, hkd⟩ : ∃ kd : Int, kd = 2 := ⟨_, rfl⟩
      obtain ⟨b, hb⟩ : ∃ b : Int, b = gb := ⟨_, rfl⟩
      rw [← hkd, ← hb] at HD
      clear hkd hb hc0 hc1 hc2 hbk
      refine wp_region_any (by kernel_rfl) ?_
      change wpAny _ _ _ _ _ _ _ (World.drew _)
      have HD1 : Hid (GB W1.drew x kd a b r) := Lib.hid HD.out
      refine any_of_T (S := fun W => GB W x kd a b r) (c := 7) _ _ _ _ ?_
      refine anyT_takeY (i := 0) (v := ?_) rfl (by decide +kernel) (by decide +kernel) (by decide +kernel) (by decide +kernel) (fun _ _ _ h => h) (Or.inl ⟨by rfl, ?_⟩) HD1.out ?_
      rotate_left 1
      · intro w _; go_simp; with_reducible rfl
      simp only [Act.put, List.getElem_toArray, List.getElem_cons_zero, List.getElem_cons_succ, List.setIfInBounds_toArray, List.set_cons_zero, List.set_cons_succ]
      refine anyT_takeY (i := 1) (v := ?_) rfl (by decide +kernel) (by decide +kernel) (by decide +kernel) (by decide +kernel) (fun _ _ _ h => h) (Or.inl ⟨by rfl, ?_⟩) HD1.out ?_
      rotate_left 1
      · intro w _; go_simp; with_reducible rfl
      simp only [Act.put, List.getElem_toArray, List.getElem_cons_zero, List.getElem_cons_succ, List.setIfInBounds_toArray, List.set_cons_zero, List.set_cons_succ]
      refine anyT_takeL [5, 7] (i := 2) (v := ?_) rfl (by decide +kernel) (by decide +kernel) (by decide +kernel) (by decide +kernel) (by decide +kernel) (by decide +kernel) (fun _ _ _ h => h) (Or.inl ⟨by rfl, ?_⟩) HD1.out ?_
      rotate_left 1
      · intro w hS; obtain ⟨⟨s0, s1, s2, s3, s4⟩, k0, k1, k2⟩ := hS; go_simp; with_reducible rfl
      simp only [Act.put, List.getElem_toArray, List.getElem_cons_zero, List.getElem_cons_succ, List.setIfInBounds_toArray, List.set_cons_zero, List.set_cons_succ]
      refine anyT_takeL [4, 5, 7] (i := 3) (v := ?_) rfl (by decide +kernel) (by decide +kernel) (by decide +kernel) (by decide +kernel) (by decide +kernel) (by decide +kernel) (fun _ _ _ h => h) (Or.inl ⟨by rfl, ?_⟩) HD1.out ?_
      rotate_left 1
      · intro w hS; obtain ⟨⟨s0, s1, s2, s3, s4⟩, k0, k1, k2⟩ := hS; go_simp; with_reducible rfl
      simp only [Act.put, List.getElem_toArray, List.getElem_cons_zero, List.getElem_cons_succ, List.setIfInBounds_toArray, List.set_cons_zero, List.set_cons_succ]
      refine anyT_takeL [7] (i := 6) (v := ?_) rfl (by decide +kernel) (by decide +kernel) (by decide +kernel) (by decide +kernel) (by decide +kernel) (by decide +kernel) (fun _ _ _ h => h) (Or.inl ⟨by rfl, ?_⟩) HD1.out ?_
      rotate_left 1
      · intro w hS; obtain ⟨⟨s0, s1, s2, s3, s4⟩, k0, k1, k2⟩ := hS; go_simp; with_reducible rfl
      simp only [Act.put, List.getElem_toArray, List.getElem_cons_zero, List.getElem_cons_succ, List.setIfInBounds_toArray, List.set_cons_zero, List.set_cons_succ]
      refine anyT_one (i := 4) (by decide +kernel) rfl (fun KK hK => ?_)
      go_simp
      go_at_call 21
      refine (back_any r W1.drew).mono ?_
      rintro e w3 ⟨rfl, hb3⟩
      have HD3 := Lib.hid (HD1.out.below hb3 (by show x + 1 < W1.heap.size; have := HS.out; omega))
      have H3 := Lib.hid (H1.out.drew.below hb3)
      have s3 : x + 3 ≤ w3.heap.size := by have := hb3.size; have e : W1.drew.heap.size = x + 3 := HS.out; omega
      have HB3 := Lib.hid (HBW.out.trans (((Below.refl W1.heap.size W1).drew.trans hb3).mono HBW.out.size))
      clear hb3
      try go_simp
      refine hK.out _ _ (fun _ => HD3.out) ?_
      clear hK KK
      try simp only [Act.put, List.getElem_toArray, List.getElem_cons_zero, List.getElem_cons_succ, List.setIfInBounds_toArray, List.set_cons_zero, List.set_cons_succ]
      refine anyT_one (i := 5) (by decide +kernel) rfl (fun KK hK => ?_)
      go_simp
      go_at_call 17
      refine (HBa.out (backC r) (facts_of HR.out).1 w3 H3.out).mono ?_
      rintro e w4 ⟨hm, hb4⟩
      obtain ⟨A2, m, c2, G, rfl, ho, hp⟩ := hm
      obtain ⟨J, rfl⟩ : ∃ J, m = J + 1 := ⟨m - 1, by have := hp.1; omega⟩
      have hp' := hp.mono HMM.out
      have hJ : J ≤ 1000 := by have := hp'.2.1; have := HM4.out; omega
      have HD4 := Lib.hid (HD3.out.below hb4 (by omega))
      have sw : w.heap.size ≤ w3.heap.size := by rw [← HX.out]; omega
      have HO := Lib.hid (ho.base_le sw)
      have HP := Lib.hid hp'
      have HB5 := Lib.hid (HB3.out.trans (hb4.mono sw))
      clear ho hp hp' hb4
      try go_simp
      refine hK.out _ _ (fun _ => HD4.out) ?_
      clear hK KK
      try simp only [Act.put, List.getElem_toArray, List.getElem_cons_zero, List.getElem_cons_succ, List.setIfInBounds_toArray, List.set_cons_zero, List.set_cons_succ]
      refine anyT_one (i := 7) (by decide +kernel) rfl (fun KK hK => ?_)
      go_simp
      go_at_call 20
      refine (behind_any (r := r) w4 HO.out hJ ?hNo ?hYes).mono ?_
      case hNo => exact fun i hi => by have := (HP.out.2.2.1 J (by omega)).1.1 i hi; unfold noF at this; rw [Nat.mul_comm J 11]; exact this
      case hYes => exact fun i hi => by have := (HP.out.2.2.1 J (by omega)).2.1 i hi; unfold yesF at this; rw [Nat.mul_comm J 11]; exact this
      rintro e w6 ⟨rfl, ho6, hb6⟩
      have HO6 := Lib.hid ho6
      have HPB := Lib.hid ((HP.out.beh HR.out).val HV.out)
      clear ho6
      try go_simp
      refine hK.out _ _ (fun h => absurd h (by decide +kernel)) ?_
      clear hK KK
      try simp only [Act.put, List.getElem_toArray, List.getElem_cons_zero, List.getElem_cons_succ, List.setIfInBounds_toArray, List.set_cons_zero, List.set_cons_succ]
      refine T_of_any _ _ _ _ (by decide +kernel) ?_
      refine wpAny_ready (rs := [8]) (by decide +kernel) (by simp) ?_
      refine AllReady.cons rfl (fun KK hK => ?_) AllReady.nil
      go_simp
      refine hK _ _ ?_
      clear hK KK
      try simp only [Act.put, List.getElem_toArray, List.getElem_cons_zero, List.getElem_cons_succ, List.setIfInBounds_toArray, List.set_cons_zero, List.set_cons_succ]
      refine wpAny_done (by decide +kernel) ?_ _
      have HBF := Lib.hid (HB5.out.trans hb6)
      clear hb6
      go_wp2_with fail
      exact bodyPost_ret (v := .slice A2 (J + 1) c2) (by simp [results, Try.results17, go_sem]) rfl ⟨⟨A2, J + 1, c2, behF G J r, rfl, HO6.out, HPB.out⟩, HBF.out⟩
    have z3' := z3 (by omega)
    obtain ⟨b, hb⟩ : ∃ b : Nat, gb = b := Int.eq_ofNat_of_zero_le z3'.1
    subst hb
    have hbi : b < i := by omega
    clear z3 z3'
    have hd2 : dep F i = max (dep F a + 1) (dep F b + 1) := by rw [HDP.out, if_pos (by omega), Int.toNat_natCast, Int.toNat_natCast]
    have hda : dep F a + 1 ≤ dep F i := by rw [hd2]; exact Nat.le_max_left _ _
    have hdb : dep F b + 1 ≤ dep F i := by rw [hd2]; exact Nat.le_max_right _ _
    have hpa : 4 ^ dep F a * 4 ≤ 4 ^ dep F i := by rw [← Nat.pow_succ]; exact Nat.pow_le_pow_right (by omega) hda
    have hpb : 4 ^ dep F b * 4 ≤ 4 ^ dep F i := by rw [← Nat.pow_succ]; exact Nat.pow_le_pow_right (by omega) hdb
    have hmm : 2 * 4 ^ dep F a + 2 * 4 ^ dep F b ≤ 4 ^ dep F i := by omega
    have HMM := Lib.hid hmm
    have HMa : Hid (4 ^ dep F a ≤ 1000) := Lib.hid (by have := HM4.out; omega)
    have HMb : Hid (4 ^ dep F b ≤ 1000) := Lib.hid (by have := HM4.out; omega)
    have HBa := Lib.hid (IH.out a hai (by omega) (by have := HI.out; omega))
    have HBb := Lib.hid (IH.out b hbi (by omega) (by have := HI.out; omega))
    clear hd2 hda hdb hpa hpb hmm HDP IH
    by_cases e3 : kd = 3
    · subst e3
      have hv2 : ∀ g, ((xor false (val F g a)) && (xor false (val F g b))) = val F g i := fun g => by rw [(HVA.out g).2.2.1 (by simp), Int.toNat_natCast, Int.toNat_natCast, Bool.false_xor, Bool.false_xor]
      have HV := Lib.hid hv2
      clear hv2 HVA k1 k4 e1 e2
      go_enter Try.func17, Try.ntmps17
      go_upto_region 9 with (fail)
      rw [← HW1.out, ← HX.out]
      clear hc0 hc1 hc2 hbk
      obtain ⟨⟨s0, s1, s2, s3, s4⟩, q0, q1, q2⟩ := HD.out
      go_wp2_with fail
      refine (both_any inn (some ⟨bk, off, none⟩) n c F a b r false HMa.out HMb.out HBa.out HBb.out HR.out W1 H1.out).mono ?_
      rintro e w2 ⟨hm, hb2⟩
      obtain ⟨A2, m, c2, G, rfl, ho, hp⟩ := hm
      have HO := Lib.hid (ho.base_le HBW.out.size)
      have HP := Lib.hid ((hp.mono HMM.out).val HV.out)
      have HB2 := Lib.hid (HBW.out.trans (hb2.mono HBW.out.size))
      clear ho hp hb2 s0 s1 s2 s3 s4 q0 q1 q2
      go_wp2_with fail
      exact bodyPost_ret (v := .slice A2 m c2) (by simp [results, Try.results17, go_sem]) rfl ⟨⟨A2, m, c2, G, rfl, HO.out, HP.out⟩, HB2.out⟩
    obtain rfl : kd = 4 := by omega
    have hv2 : ∀ g, (!((xor true (val F g a)) && (xor true (val F g b)))) = val F g i := fun g => by rw [(HVA.out g).2.2.2 (by simp), Int.toNat_natCast, Int.toNat_natCast]; cases val F g a <;> cases val F g b <;> rfl
    have HV := Lib.hid hv2
    clear hv2 HVA k1 k4 e1 e2 e3
    go_enter Try.func17, Try.ntmps17
    go_upto_region 10 with (fail)
    rw [← HW1.out, ← HX.out]
    obtain ⟨kd, hkd⟩ : ∃ kd : Int, kd = 4 := ⟨_, rfl⟩
    rw [← hkd] at HD
    clear hkd hc0 hc1 hc2 hbk
    refine wp_region_any (by kernel_rfl) ?_
    change wpAny _ _ _ _ _ _ _ (World.drew _)
    have HD1 : Hid (GB W1.drew x kd a b r) := Lib.hid HD.out
    refine any_of_T (S := fun W => GB W x kd a b r) (c := 9) _ _ _ _ ?_
    refine anyT_takeY (i := 0) (v := ?_) rfl (by decide +kernel) (by decide +kernel) (by decide +kernel) (by decide +kernel) (fun _ _ _ h => h) (Or.inl ⟨by rfl, ?_⟩) HD1.out ?_
    rotate_left 1
    · intro w _; go_simp; with_reducible rfl
    simp only [Act.put, List.getElem_toArray, List.getElem_cons_zero, List.getElem_cons_succ, List.setIfInBounds_toArray, List.set_cons_zero, List.set_cons_succ]
    refine anyT_takeY (i := 1) (v := ?_) rfl (by decide +kernel) (by decide +kernel) (by decide +kernel) (by decide +kernel) (fun _ _ _ h => h) (Or.inl ⟨by rfl, ?_⟩) HD1.out ?_
    rotate_left 1
    · intro w _; go_simp; with_reducible rfl
    simp only [Act.put, List.getElem_toArray, List.getElem_cons_zero, List.getElem_cons_succ, List.setIfInBounds_toArray, List.set_cons_zero, List.set_cons_succ]
    refine anyT_takeL [7, 9] (i := 2) (v := ?_) rfl (by decide +kernel) (by decide +kernel) (by decide +kernel) (by decide +kernel) (by decide +kernel) (by decide +kernel) (fun _ _ _ h => h) (Or.inl ⟨by rfl, ?_⟩) HD1.out ?_
    rotate_left 1
    · intro w hS; obtain ⟨⟨s0, s1, s2, s3, s4⟩, k0, k1, k2⟩ := hS; go_simp; with_reducible rfl
    simp only [Act.put, List.getElem_toArray, List.getElem_cons_zero, List.getElem_cons_succ, List.setIfInBounds_toArray, List.set_cons_zero, List.set_cons_succ]
    refine anyT_takeY (i := 3) (v := ?_) rfl (by decide +kernel) (by decide +kernel) (by decide +kernel) (by decide +kernel) (fun _ _ _ h => h) (Or.inl ⟨by rfl, ?_⟩) HD1.out ?_
    rotate_left 1
    · intro w _; go_simp; with_reducible rfl
    simp only [Act.put, List.getElem_toArray, List.getElem_cons_zero, List.getElem_cons_succ, List.setIfInBounds_toArray, List.set_cons_zero, List.set_cons_succ]
    refine anyT_takeL [7, 9] (i := 4) (v := ?_) rfl (by decide +kernel) (by decide +kernel) (by decide +kernel) (by decide +kernel) (by decide +kernel) (by decide +kernel) (fun _ _ _ h => h) (Or.inl ⟨by rfl, ?_⟩) HD1.out ?_
    rotate_left 1
    · intro w hS; obtain ⟨⟨s0, s1, s2, s3, s4⟩, k0, k1, k2⟩ := hS; go_simp; with_reducible rfl
    simp only [Act.put, List.getElem_toArray, List.getElem_cons_zero, List.getElem_cons_succ, List.setIfInBounds_toArray, List.set_cons_zero, List.set_cons_succ]
    refine anyT_takeL [6, 7, 9] (i := 5) (v := ?_) rfl (by decide +kernel) (by decide +kernel) (by decide +kernel) (by decide +kernel) (by decide +kernel) (by decide +kernel) (fun _ _ _ h => h) (Or.inl ⟨by rfl, ?_⟩) HD1.out ?_
    rotate_left 1
    · intro w hS; obtain ⟨⟨s0, s1, s2, s3, s4⟩, k0, k1, k2⟩ := hS; go_simp; with_reducible rfl
    simp only [Act.put, List.getElem_toArray, List.getElem_cons_zero, List.getElem_cons_succ, List.setIfInBounds_toArray, List.set_cons_zero, List.set_cons_succ]
    refine anyT_takeL [9] (i := 8) (v := ?_) rfl (by decide +kernel) (by decide +kernel) (by decide +kernel) (by decide +kernel) (by decide +kernel) (by decide +kernel) (fun _ _ _ h => h) (Or.inl ⟨by rfl, ?_⟩) HD1.out ?_
    rotate_left 1
    · intro w hS; obtain ⟨⟨s0, s1, s2, s3, s4⟩, k0, k1, k2⟩ := hS; go_simp; with_reducible rfl
    simp only [Act.put, List.getElem_toArray, List.getElem_cons_zero, List.getElem_cons_succ, List.setIfInBounds_toArray, List.set_cons_zero, List.set_cons_succ]
    refine anyT_one (i := 6) (by decide +kernel) rfl (fun KK hK => ?_)
    go_simp
    go_at_call 21
    refine (back_any r W1.drew).mono ?_
    rintro e w3 ⟨rfl, hb3⟩
    have HD3 := Lib.hid (HD1.out.below hb3 (by show x + 1 < W1.heap.size; have := HS.out; omega))
    have H3 := Lib.hid (H1.out.drew.below hb3)
    have s3 : x + 3 ≤ w3.heap.size := by have := hb3.size; have e : W1.drew.heap.size = x + 3 := HS.out; omega
    have HB3 := Lib.hid (HBW.out.trans (((Below.refl W1.heap.size W1).drew.trans hb3).mono HBW.out.size))
    clear hb3
    try go_simp
    refine hK.out _ _ (fun _ => HD3.out) ?_
    clear hK KK
    try simp only [Act.put, List.getElem_toArray, List.getElem_cons_zero, List.getElem_cons_succ, List.setIfInBounds_toArray, List.set_cons_zero, List.set_cons_succ]
    refine anyT_one (i := 7) (by decide +kernel) rfl (fun KK hK => ?_)
    go_simp
    go_at_call 22
    refine (both_any inn (some ⟨bk, off, none⟩) n c F a b (backC r) true HMa.out HMb.out HBa.out HBb.out (facts_of HR.out).1 w3 H3.out).mono ?_
    rintro e w4 ⟨hm, hb4⟩
    obtain ⟨A2, m, c2, G, rfl, ho, hp⟩ := hm
    obtain ⟨J, rfl⟩ : ∃ J, m = J + 1 := ⟨m - 1, by have := hp.1; omega⟩
    have hp' := hp.mono HMM.out
    have hJ : J ≤ 1000 := by have := hp'.2.1; have := HM4.out; omega
    have HD4 := Lib.hid (HD3.out.below hb4 (by omega))
    have sw : w.heap.size ≤ w3.heap.size := by rw [← HX.out]; omega
    have HO := Lib.hid (ho.base_le sw)
    have HP := Lib.hid hp'
    have HB5 := Lib.hid (HB3.out.trans (hb4.mono sw))
    clear ho hp hp' hb4
    try go_simp
    refine hK.out _ _ (fun _ => HD4.out) ?_
    clear hK KK
    try simp only [Act.put, List.getElem_toArray, List.getElem_cons_zero, List.getElem_cons_succ, List.setIfInBounds_toArray, List.set_cons_zero, List.set_cons_succ]
    refine anyT_one (i := 9) (by decide +kernel) rfl (fun KK hK => ?_)
    go_simp
    go_at_call 20
    refine (behind_any (r := r) w4 HO.out hJ ?hNo ?hYes).mono ?_
    case hNo => exact fun i hi => by have := (HP.out.2.2.1 J (by omega)).1.1 i hi; unfold noF at this; rw [Nat.mul_comm J 11]; exact this
    case hYes => exact fun i hi => by have := (HP.out.2.2.1 J (by omega)).2.1 i hi; unfold yesF at this; rw [Nat.mul_comm J 11]; exact this
    rintro e w6 ⟨rfl, ho6, hb6⟩
    have HO6 := Lib.hid ho6
    have HPB := Lib.hid ((HP.out.beh HR.out).val HV.out)
    clear ho6
    try go_simp
    refine hK.out _ _ (fun h => absurd h (by decide +kernel)) ?_
    clear hK KK
    try simp only [Act.put, List.getElem_toArray, List.getElem_cons_zero, List.getElem_cons_succ, List.setIfInBounds_toArray, List.set_cons_zero, List.set_cons_succ]
    refine T_of_any _ _ _ _ (by decide +kernel) ?_
    refine wpAny_ready (rs := [10]) (by decide +kernel) (by simp) ?_
    refine AllReady.cons rfl (fun KK hK => ?_) AllReady.nil
    go_simp
    refine hK _ _ ?_
    clear hK KK
    try simp only [Act.put, List.getElem_toArray, List.getElem_cons_zero, List.getElem_cons_succ, List.setIfInBounds_toArray, List.set_cons_zero, List.set_cons_succ]
    refine wpAny_done (by decide +kernel) ?_ _
    have HBF := Lib.hid (HB5.out.trans hb6)
    clear hb6
    go_wp2_with fail
    exact bodyPost_ret (v := .slice A2 (J + 1) c2) (by simp [results, Try.results17, go_sem]) rfl ⟨⟨A2, J + 1, c2, behF G J r, rfl, HO6.out, HPB.out⟩, HBF.out⟩
end Go.Proofs.Ytmhicimjoidonaa
