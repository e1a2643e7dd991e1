/- comb's has, out, told, Out; the references' Insted. Conditions: the trees lie as told. -/
import Derived.Test.YtmbemikhbcjfmaaCombOutLaw
import Derived.Test.YtmbemikhbcjfmaaCombRef2
namespace Go.Proofs.Ytmbemikhbcjfmaa
open Go.ChangeShapes Go.WideShapes Go.ChangeAt Go.RowKit
set_option linter.unusedVariables false
set_option linter.unusedSimpArgs false
set_option maxRecDepth 100000 in
set_option maxHeartbeats 2000000 in
theorem has_any (v : Int) : ∀ (t : Tm) (g : Nat) (w : World), TAt 58 w t g → Calls Try.prog 32 #[.pointer (some ⟨g, 0, none⟩), .int .i64 v] w fun e w' => e = .returned (.bool (stT v t)) ∧ w = w'
  | .lf k x, g, w, h => by
    have c0 : w.cell? ⟨g, 0, none⟩ = some (.int .i64 k) := h.2.2.2.cell (i := 0) (by omega)
    have c1 : w.cell? ⟨g, 1, none⟩ = some (.int .i64 x) := h.2.2.2.cell (i := 1) (by omega)
    have q4 : (k == 4) = false := by rw [beq_eq_false_iff_ne]; exact h.1
    rw [show stT v (.lf k x) = (k == 3 && x == v) from rfl]
    clear h
    by_cases h3 : k = 3
    · subst h3
      go_enter Try.func32, Try.ntmps32
      go_wp2_with fail
      go_ret
      exact ⟨ret_bool (by simp), rfl⟩
    · have q3 : (k == 3) = false := by rw [beq_eq_false_iff_ne]; exact h3
      go_enter Try.func32, Try.ntmps32
      go_wp2_with fail
      go_ret
      exact ⟨ret_bool (by rw [q3]; rfl), rfl⟩
  | .ap a b, g, w, h => by
    obtain ⟨ga, gb, hr, ha, hb⟩ := h
    have c0 : w.cell? ⟨g, 0, none⟩ = some (.int .i64 4) := hr.cell (i := 0) (by omega)
    have c2 : w.cell? ⟨g, 2, none⟩ = some (.pointer (some ⟨ga, 0, none⟩)) := hr.cell (i := 2) (by omega)
    have c3 : w.cell? ⟨g, 3, none⟩ = some (.pointer (some ⟨gb, 0, none⟩)) := hr.cell (i := 3) (by omega)
    have HA := Lib.hid (has_any v a ga w ha)
    have HB := Lib.hid (has_any v b gb w hb)
    rw [show stT v (.ap a b) = (stT v a || stT v b) from rfl]
    clear hr ha hb
    cases hsa : stT v a with
    | true =>
      rw [hsa] at HA
      clear hsa
      go_enter Try.func32, Try.ntmps32
      go_wp2_with fail
      refine HA.out.mono ?_
      rintro e w2 ⟨rfl, rfl⟩
      go_wp2_with fail
      go_ret
      exact ⟨rfl, rfl⟩
    | false =>
      rw [hsa] at HA
      clear hsa
      go_enter Try.func32, Try.ntmps32
      go_wp2_with fail
      refine HA.out.mono ?_
      rintro e w2 ⟨rfl, rfl⟩
      go_wp2_with fail
      refine HB.out.mono ?_
      rintro e w2 ⟨rfl, rfl⟩
      go_wp2_with fail
      go_ret
      exact ⟨rfl, rfl⟩
theorem lf_at {e : TypeId} {W : World} {k v : Int} (hk : k ≠ 4 ∧ 1 ≤ k ∧ k ≤ 3) : TAt e (W.alloc (.cells #[.int .i64 k, .int .i64 v, .pointer none, .pointer none] e)) (.lf k v) W.heap.size :=
  ⟨hk.1, hk.2.1, hk.2.2, row4 W e _ _ _ _ (ndC k v (.pointer none) (.pointer none)) rfl rfl rfl rfl⟩
set_option maxRecDepth 100000 in
set_option maxHeartbeats 4000000 in
theorem out_any (v : Int) : ∀ (t : Tm) (g : Nat) (w : World), TAt 58 w t g → Calls Try.prog 28 #[.pointer (some ⟨g, 0, none⟩), .int .i64 v] w fun e w' => (∃ q, e = .returned (.pointer (some ⟨q, 0, none⟩)) ∧ TAt 58 w' (oT v t) q) ∧ Below w.heap.size w w' := by
  intro t
  have hgen : ∀ (t : Tm) (g : Nat) (w : World), TAt 58 w t g → ∃ W1, W1 = (w.alloc (.cells #[.int .i64 1, .int .i64 0, .pointer none, .pointer none] 58)).alloc (.cells #[.int .i64 2, .int .i64 0, .pointer none, .pointer none] 58) ∧ Below w.heap.size w W1 ∧ TAt 58 W1 t g ∧ TAt 58 W1 (.lf 1 0) w.heap.size ∧ TAt 58 W1 (.lf 2 0) (w.heap.size + 1) := fun t g w h => by
    have hb : Below w.heap.size w ((w.alloc (.cells #[.int .i64 1, .int .i64 0, .pointer none, .pointer none] 58)).alloc (.cells #[.int .i64 2, .int .i64 0, .pointer none, .pointer none] 58)) := ((Below.refl _ _).alloc (Nat.le_refl _) _).alloc (by simp) _
    refine ⟨_, rfl, hb, h.below hb, ?_, ?_⟩
    · exact (lf_at ⟨by decide, by decide, by decide⟩).below ((Below.refl _ _).alloc (Nat.le_refl _) _)
    · have := lf_at (e := 58) (W := w.alloc (.cells #[.int .i64 1, .int .i64 0, .pointer none, .pointer none] 58)) (k := 2) (v := 0) ⟨by decide, by decide, by decide⟩
      rwa [show (w.alloc (.cells #[.int .i64 1, .int .i64 0, .pointer none, .pointer none] 58)).heap.size = w.heap.size + 1 by simp] at this
  induction t with
  | lf k x =>
    intro g w h
    obtain ⟨W1, hW1, hb1, ht1, hS, hK⟩ := hgen _ g w h
    have hh := has_any v (.lf k x) g W1 ht1
    have hk0 : W1.cell? ⟨g, 0, none⟩ = some (.int .i64 k) := kd_cell ht1
    have HB1 := Lib.hid hb1
    have HW1 := Lib.hid hW1
    have HT := Lib.hid ht1
    have HS := Lib.hid hS
    have HK := Lib.hid hK
    cases hst : stT v (.lf k x) with
    | false =>
      rw [hst] at hh
      have HH := Lib.hid hh
      rw [show oT v (.lf k x) = .ap (.lf 2 0) (.lf k x) by unfold oT; rw [hst]; rfl]
      clear hgen h hW1 hb1 ht1 hS hK hh hst
      go_enter Try.func28, Try.ntmps28
      go_wp2_with fail
      rw [← HW1.out]
      refine HH.out.mono ?_
      rintro e w2 ⟨rfl, rfl⟩
      go_wp2_with fail
      refine (put_any w W1 _ _ _ _ HK.out HT.out).mono ?_
      rintro e w3 ⟨⟨g3, rfl, ht3⟩, hb3⟩
      have HT3 := Lib.hid ht3
      have HB3 := Lib.hid (HB1.out.trans (hb3.mono HB1.out.size))
      clear ht3 hb3
      go_wp2_with fail
      go_ret
      exact ⟨⟨g3, rfl, HT3.out⟩, HB3.out⟩
    | true =>
      rw [hst] at hh
      have HH := Lib.hid hh
      have hk3 : k = 3 := by
        rw [show stT v (.lf k x) = (k == 3 && x == v) from rfl] at hst
        simp only [Bool.and_eq_true, beq_iff_eq] at hst
        exact hst.1
      subst hk3
      rw [show oT v (.lf 3 x) = .ap (.ap (.lf 1 0) (.lf 2 0)) (.lf 2 0) by unfold oT; rw [hst]; rfl]
      clear hgen h hW1 hb1 ht1 hS hK hh hst
      go_enter Try.func28, Try.ntmps28
      go_wp2_with fail
      rw [← HW1.out]
      refine HH.out.mono ?_
      rintro e w2 ⟨rfl, rfl⟩
      go_wp2_with fail
      refine (put_any w W1 _ _ _ _ HS.out HK.out).mono ?_
      rintro e w3 ⟨⟨g3, rfl, ht3⟩, hb3⟩
      have HT3 := Lib.hid ht3
      have HK3 := Lib.hid (HK.out.below hb3)
      have HB3 := Lib.hid (HB1.out.trans (hb3.mono HB1.out.size))
      clear ht3 hb3
      go_wp2_with fail
      refine (put_any w w3 _ _ _ _ HT3.out HK3.out).mono ?_
      rintro e w4 ⟨⟨g4, rfl, ht4⟩, hb4⟩
      have HT4 := Lib.hid ht4
      have HB4 := Lib.hid (HB3.out.trans (hb4.mono HB3.out.size))
      clear ht4 hb4
      go_wp2_with fail
      go_ret
      exact ⟨⟨g4, rfl, HT4.out⟩, HB4.out⟩
  | ap a b iha ihb =>
    intro g w h
    obtain ⟨W1, hW1, hb1, ht1, hS, hK⟩ := hgen _ g w h
    have hh := has_any v (.ap a b) g W1 ht1
    have HB1 := Lib.hid hb1
    have HW1 := Lib.hid hW1
    have HT := Lib.hid ht1
    have HS := Lib.hid hS
    have HK := Lib.hid hK
    cases hst : stT v (.ap a b) with
    | false =>
      rw [hst] at hh
      have HH := Lib.hid hh
      rw [show oT v (.ap a b) = .ap (.lf 2 0) (.ap a b) by unfold oT; rw [hst]; rfl]
      clear hgen h hW1 hb1 ht1 hS hK hh hst iha ihb
      go_enter Try.func28, Try.ntmps28
      go_wp2_with fail
      rw [← HW1.out]
      refine HH.out.mono ?_
      rintro e w2 ⟨rfl, rfl⟩
      go_wp2_with fail
      refine (put_any w W1 _ _ _ _ HK.out HT.out).mono ?_
      rintro e w3 ⟨⟨g3, rfl, ht3⟩, hb3⟩
      have HT3 := Lib.hid ht3
      have HB3 := Lib.hid (HB1.out.trans (hb3.mono HB1.out.size))
      clear ht3 hb3
      go_wp2_with fail
      go_ret
      exact ⟨⟨g3, rfl, HT3.out⟩, HB3.out⟩
    | true =>
      rw [hst] at hh
      have HH := Lib.hid hh
      rw [show oT v (.ap a b) = .ap (.ap (.lf 1 0) (oT v a)) (oT v b) by rw [oT, hst]; rfl]
      obtain ⟨ga, gb, hrow, hta, htb⟩ := ht1
      have hcs : ∀ X : World, Below W1.heap.size W1 X → X.cell? ⟨g, 0, none⟩ = some (.int .i64 4) ∧ X.cell? ⟨g, 2, none⟩ = some (.pointer (some ⟨ga, 0, none⟩)) ∧ X.cell? ⟨g, 3, none⟩ = some (.pointer (some ⟨gb, 0, none⟩)) := fun X hX => by
        have hr := row_below hrow hX hrow.lt
        exact ⟨hr.cell (i := 0) (by omega), hr.cell (i := 2) (by omega), hr.cell (i := 3) (by omega)⟩
      have HCS := Lib.hid hcs
      have HA := Lib.hid (fun X (hX : Below W1.heap.size W1 X) => iha ga X (hta.below hX))
      have HBB := Lib.hid (fun X (hX : Below W1.heap.size W1 X) => ihb gb X (htb.below hX))
      obtain ⟨d0, d2, d3⟩ := HCS.out _ (Below.refl _ _)
      have hr1 := Below.refl W1.heap.size W1
      have hr1d := (Below.refl W1.heap.size W1).drew
      clear hgen h hW1 hb1 hS hK hh hst iha ihb hcs hrow hta htb
      go_enter Try.func28, Try.ntmps28
      go_wp2_with fail
      rw [← HW1.out]
      refine HH.out.mono ?_
      rintro e w2 ⟨rfl, rfl⟩
      go_wp2_with fail
      go_region_held3 (fun W => W.cell? ⟨g, 0, none⟩ = some (.int .i64 4) ∧ W.cell? ⟨g, 2, none⟩ = some (.pointer (some ⟨ga, 0, none⟩)) ∧ W.cell? ⟨g, 3, none⟩ = some (.pointer (some ⟨gb, 0, none⟩))) (first | exact cs7 | exact cs6 | exact cs5 | exact cs4 | go_keep) (first
        | (go_at_call 31; (with_reducible refine (put_any w _ _ _ _ _ (ht5.below hb6) ht6).mono ?_); rintro e w7 ⟨⟨p7, rfl, ht7⟩, hb7⟩; have hbe7 := hbe6.trans (hb7.mono hbe6.size); have cs7 := HCS.out _ hbe7)
        | (go_at_call 28; (with_reducible refine (HBB.out _ hbe5).mono ?_); rintro e w6 ⟨⟨p6, rfl, ht6⟩, hb6⟩; have hbe6 := hbe5.trans (hb6.mono hbe5.size); have cs6 := HCS.out _ hbe6)
        | (go_at_call 31; (with_reducible refine (put_any w _ _ _ _ _ (HS.out.below hbe4) ht4).mono ?_); rintro e w5 ⟨⟨p5, rfl, ht5⟩, hb5⟩; have hbe5 := hbe4.trans (hb5.mono hbe4.size); have cs5 := HCS.out _ hbe5)
        | (go_at_call 28; (with_reducible refine (HA.out _ hr1).mono ?_); rintro e w4 ⟨⟨p4, rfl, ht4⟩, hb4⟩; have hbe4 := hr1.trans (hb4.mono hr1.size); have cs4 := HCS.out _ hbe4)
        | (go_at_call 28; (with_reducible refine (HA.out _ hr1d).mono ?_); rintro e w4 ⟨⟨p4, rfl, ht4⟩, hb4⟩; have hbe4 := hr1d.trans (hb4.mono hr1d.size); have cs4 := HCS.out _ hbe4))
      all_goals
        go_wp2_with fail
        go_ret
        exact ⟨⟨p7, rfl, ht7⟩, HB1.out.trans (hbe7.mono HB1.out.size)⟩
/-- what told tells -/
def ToP (u : Tm) (e : Ending) (w' : World) : Prop := (300 < u.sz ∧ e = .returned (.tuple #[.slice none 0 0, .int .i64 7])) ∨ (u.sz ≤ 300 ∧ ∃ (A : Option Addr) (c : Nat), e = .returned (.tuple #[.slice A u.sz c, .int .i64 0]) ∧ u.sz ≤ c ∧ c ≤ maxLen ∧ Rd w' A (u.sz * 4) (lcC (wrF u (fun _ => (0, 0, 0, 0)) 0)))
set_option maxRecDepth 100000 in
set_option maxHeartbeats 2000000 in
theorem told_any (u : Tm) (g : Nat) (w : World) (h : TAt 58 w u g) (hs : u.sz ≤ 100000) : Calls Try.prog 27 #[.pointer (some ⟨g, 0, none⟩)] w fun e w' => ToP u e w' ∧ Below w.heap.size w w' := by
  have HSZ := Lib.hid (size_any u g w h hs)
  have HWR := Lib.hid (fun X (hX : Below w.heap.size w X) => write_any X u g X none 0 0 (fun _ => (0, 0, 0, 0)) (h.below hX) (Below.refl _ _) (Own.nil _ _ _ _ _) (by omega))
  obtain ⟨z, hz⟩ : ∃ z, z = u.sz := ⟨_, rfl⟩
  rw [← hz] at HSZ hs
  have HZ := Lib.hid hz
  clear h hz
  go_enter Try.func27, Try.ntmps27
  go_wp2_with fail
  refine HSZ.out.mono ?_
  rintro e w2 ⟨rfl, k2, rfl⟩
  by_cases hbig : 300 < z
  · go_wp2_with fail
    go_ret2
    exact ⟨.inl ⟨by rw [← HZ.out]; exact hbig, rfl⟩, below_drewN (Below.refl _ _) _⟩
  · go_wp2_with fail
    refine (HWR.out _ (below_drewN (Below.refl _ _) k2)).mono ?_
    rintro e w3 ⟨A', c', rfl, ho, hb⟩
    have HO := Lib.hid ho
    have HB3 := Lib.hid ((below_drewN (Below.refl w.heap.size w) k2).trans hb)
    clear ho hb
    go_wp2_with fail
    go_ret2
    have HO5 := HO.out
    rw [Nat.zero_add] at HO5
    exact ⟨.inr ⟨by rw [← HZ.out]; omega, A', c', rfl, HO5.le.1, HO5.le.2, HO5.rd⟩, HB3.out⟩
end Go.Proofs.Ytmbemikhbcjfmaa
