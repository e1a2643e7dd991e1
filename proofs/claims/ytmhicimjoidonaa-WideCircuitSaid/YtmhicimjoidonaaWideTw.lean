/- The function that turns rounds in wide.both. Conditions: the change it holds lies where told. -/
import Derived.Test.YtmhicimjoidonaaWideThen
import Derived.Deep.RegionLaw
import Derived.Test.YtmhicimjoidonaaHeldTill
namespace Go.Proofs.Ytmhicimjoidonaa
open Go.ChangeShapes Go.WideShapes Go.ChangeAt Go.RowKit
set_option linter.unusedVariables false
set_option linter.unusedSimpArgs false
def TC (W : World) (B x : Nat) (C X : Nat → Int) : Prop := W.cell? ⟨B, 0, none⟩ = some (.int .i64 (C 0)) ∧ W.cell? ⟨B, 1, none⟩ = some (.int .i64 (C 1)) ∧ W.cell? ⟨B, 2, none⟩ = some (.int .i64 (C 2)) ∧ W.cell? ⟨B, 3, none⟩ = some (.int .i64 (C 3)) ∧ W.cell? ⟨B, 4, none⟩ = some (.int .i64 (C 4)) ∧ W.cell? ⟨x, 0, none⟩ = some (.int .i64 (X 0)) ∧ W.cell? ⟨x, 1, none⟩ = some (.int .i64 (X 1)) ∧ W.cell? ⟨x, 2, none⟩ = some (.int .i64 (X 2)) ∧ W.cell? ⟨x, 3, none⟩ = some (.int .i64 (X 3)) ∧ W.cell? ⟨x, 4, none⟩ = some (.int .i64 (X 4))
theorem TC.below {W W' : World} {B x : Nat} {C X : Nat → Int} (h : TC W B x C X) (hb : Below W.heap.size W W') (lg : B < W.heap.size) (lx : x < W.heap.size) : TC W' B x C X := by
  obtain ⟨c0, c1, c2, c3, c4, c5, c6, c7, c8, c9⟩ := h
  have k : ∀ o, W'.cell? ⟨B, o, none⟩ = W.cell? ⟨B, o, none⟩ := fun o => hb.cell (p := ⟨B, o, none⟩) lg
  have k2 : ∀ o, W'.cell? ⟨x, o, none⟩ = W.cell? ⟨x, o, none⟩ := fun o => hb.cell (p := ⟨x, o, none⟩) lx
  unfold TC
  simp only [k, k2]
  exact ⟨c0, c1, c2, c3, c4, c5, c6, c7, c8, c9⟩
set_option maxRecDepth 100000 in
set_option maxHeartbeats 2000000 in
theorem tw_any (c y B : Nat) (w : World) (lB : B < w.heap.size) (h : w.rowIs B 22 5 (fun j => .int .i64 (eF c j))) :
    Calls Try.prog 25 #[.agg #[.int .i64 (eF y 0), .int .i64 (eF y 1), .int .i64 (eF y 2), .int .i64 (eF y 3), .int .i64 (eF y 4)], .pointer (some ⟨B, 0, none⟩)] w fun e w' => e = .returned (.agg #[.int .i64 (eF (turnC c y) 0), .int .i64 (eF (turnC c y) 1), .int .i64 (eF (turnC c y) 2), .int .i64 (eF (turnC c y) 3), .int .i64 (eF (turnC c y) 4)]) ∧ Below w.heap.size w w' := by
  have hx := row5 w 22 (.int .i64 (eF y 0)) (.int .i64 (eF y 1)) (.int .i64 (eF y 2)) (.int .i64 (eF y 3)) (.int .i64 (eF y 4)) (fun x => .int .i64 (eF y x)) rfl rfl rfl rfl rfl
  have hz := row5 (w.alloc (.cells #[.int .i64 (eF y 0), .int .i64 (eF y 1), .int .i64 (eF y 2), .int .i64 (eF y 3), .int .i64 (eF y 4)] 22)) 22 (.int .i64 0) (.int .i64 0) (.int .i64 0) (.int .i64 0) (.int .i64 0) (fun x => .int .i64 0) rfl rfl rfl rfl rfl
  have ha := (h.alloc (.cells #[.int .i64 (eF y 0), .int .i64 (eF y 1), .int .i64 (eF y 2), .int .i64 (eF y 3), .int .i64 (eF y 4)] 22)).alloc (.cells #[.int .i64 0, .int .i64 0, .int .i64 0, .int .i64 0, .int .i64 0] 22)
  have hx2 := hx.alloc (.cells #[.int .i64 0, .int .i64 0, .int .i64 0, .int .i64 0, .int .i64 0] 22)
  have hT1 : ∀ j k, k = turnC c y → j < 5 → eF (cmpC (cmpC c y) (backC c)) j = eF k j := fun j k e _ => by rw [e]; rfl
  simp at hz
  have HX := Lib.hid hx2
  have HZ := Lib.hid hz
  have HA := Lib.hid ha
  clear h hx hz ha hx2
  obtain ⟨k, hk⟩ : ∃ k, k = turnC c y := ⟨_, rfl⟩
  have HK : Hid (cmpC (cmpC c y) (backC c) = k) := Lib.hid hk.symm
  rw [← hk]
  clear hk hT1
  go_enter Try.func25, Try.ntmps25
  go_wp2_with fail
  obtain ⟨x, hx⟩ : ∃ x, x = w.heap.size := ⟨_, rfl⟩
  obtain ⟨W1, hW1⟩ : ∃ W1, W1 = (w.alloc (.cells #[.int .i64 (eF y 0), .int .i64 (eF y 1), .int .i64 (eF y 2), .int .i64 (eF y 3), .int .i64 (eF y 4)] 22)).alloc (.cells #[.int .i64 0, .int .i64 0, .int .i64 0, .int .i64 0, .int .i64 0] 22) := ⟨_, rfl⟩
  have hbw : Below w.heap.size w W1 := by rw [hW1]; exact ((Below.refl _ _).alloc (Nat.le_refl _) _).alloc (by simp) _
  rw [← hW1] at HX HZ HA
  rw [← hx] at HX HZ
  rw [← hW1, ← hx]
  have HBW := Lib.hid hbw
  have hd : TC W1.drew B x (eF c) (eF y) := ⟨HA.out.cell (i := 0) (by omega), HA.out.cell (i := 1) (by omega), HA.out.cell (i := 2) (by omega), HA.out.cell (i := 3) (by omega), HA.out.cell (i := 4) (by omega), HX.out.cell (i := 0) (by omega), HX.out.cell (i := 1) (by omega), HX.out.cell (i := 2) (by omega), HX.out.cell (i := 3) (by omega), HX.out.cell (i := 4) (by omega)⟩
  have HD := Lib.hid hd
  have lg := HA.out.lt
  have lx := HX.out.lt
  have lz := HZ.out.lt
  have HL : Hid (B < W1.drew.heap.size ∧ x < W1.drew.heap.size ∧ x + 1 < W1.drew.heap.size) := Lib.hid ⟨lg, lx, lz⟩
  have HXW : Hid (w.heap.size ≤ x + 1) := Lib.hid (by omega)
  clear hbw hW1 hx hd lg lx lz
  refine wp_region_any (by kernel_rfl) ?_
  change wpAny _ _ _ _ _ _ _ (World.drew _)
  refine any_of_T (S := fun W => TC W B x (eF c) (eF y)) (c := 5) _ _ _ _ ?_
  refine anyT_take 2 (i := 0) (v := ?_) rfl (by decide +kernel) (by decide +kernel) (by decide +kernel) (by decide +kernel) (by decide +kernel) (by decide +kernel) (by decide +kernel) (fun _ _ _ h => h) (Or.inl ⟨by rfl, ?_⟩) HD.out ?_
  rotate_left 1
  · intro w hS; obtain ⟨s0, s1, s2, s3, s4, s5, s6, s7, s8, s9⟩ := hS; go_simp; with_reducible rfl
  simp only [Act.put, List.getElem_toArray, List.getElem_cons_zero, List.getElem_cons_succ, List.setIfInBounds_toArray, List.set_cons_zero, List.set_cons_succ]
  refine anyT_take 2 (i := 1) (v := ?_) rfl (by decide +kernel) (by decide +kernel) (by decide +kernel) (by decide +kernel) (by decide +kernel) (by decide +kernel) (by decide +kernel) (fun _ _ _ h => h) (Or.inl ⟨by rfl, ?_⟩) HD.out ?_
  rotate_left 1
  · intro w hS; obtain ⟨s0, s1, s2, s3, s4, s5, s6, s7, s8, s9⟩ := hS; go_simp; with_reducible rfl
  simp only [Act.put, List.getElem_toArray, List.getElem_cons_zero, List.getElem_cons_succ, List.setIfInBounds_toArray, List.set_cons_zero, List.set_cons_succ]
  refine anyT_take 4 (i := 3) (v := ?_) rfl (by decide +kernel) (by decide +kernel) (by decide +kernel) (by decide +kernel) (by decide +kernel) (by decide +kernel) (by decide +kernel) (fun _ _ _ h => h) (Or.inl ⟨by rfl, ?_⟩) HD.out ?_
  rotate_left 1
  · intro w hS; obtain ⟨s0, s1, s2, s3, s4, s5, s6, s7, s8, s9⟩ := hS; go_simp; with_reducible rfl
  simp only [Act.put, List.getElem_toArray, List.getElem_cons_zero, List.getElem_cons_succ, List.setIfInBounds_toArray, List.set_cons_zero, List.set_cons_succ]
  refine anyT_one (i := 2) (by decide +kernel) rfl (fun KK hK => ?_)
  go_simp
  go_at_call 15
  refine (then_c c y W1.drew).mono ?_; rintro e w3 ⟨rfl, hb3⟩; have HD3 := Lib.hid (HD.out.below hb3 HL.out.1 HL.out.2.1); have s3 := hb3.size
  try go_simp
  refine hK.out _ _ (fun _ => HD3.out) ?_
  clear hK KK
  try simp only [Act.put, List.getElem_toArray, List.getElem_cons_zero, List.getElem_cons_succ, List.setIfInBounds_toArray, List.set_cons_zero, List.set_cons_succ]
  refine anyT_one (i := 4) (by decide +kernel) rfl (fun KK hK => ?_)
  go_simp
  go_at_call 21
  refine (back_any c w3).mono ?_; rintro e w4 ⟨rfl, hb4⟩; have HD4 := Lib.hid (HD3.out.below hb4 (Nat.lt_of_lt_of_le HL.out.1 s3) (Nat.lt_of_lt_of_le HL.out.2.1 s3)); have s4 := hb4.size
  try go_simp
  refine hK.out _ _ (fun _ => HD4.out) ?_
  clear hK KK
  try simp only [Act.put, List.getElem_toArray, List.getElem_cons_zero, List.getElem_cons_succ, List.setIfInBounds_toArray, List.set_cons_zero, List.set_cons_succ]
  refine anyT_one (i := 5) (by decide +kernel) rfl (fun KK hK => ?_)
  go_simp
  go_at_call 15
  refine (then_c (cmpC c y) (backC c) w4).mono ?_; rintro e w5 ⟨rfl, hb5⟩; rw [HK.out]; have hbb : Below W1.drew.heap.size W1.drew w5 := hb3.trans ((hb4.trans (hb5.mono s4)).mono s3); have HD5 := Lib.hid (HD.out.below hbb HL.out.1 HL.out.2.1); have HBB := Lib.hid hbb; have hz5 := HZ.out.of_block (w' := w5) (hbb.block (x + 1) HL.out.2.2)
  try go_simp
  refine hK.out _ _ (fun _ => HD5.out) ?_
  clear hK KK
  try simp only [Act.put, List.getElem_toArray, List.getElem_cons_zero, List.getElem_cons_succ, List.setIfInBounds_toArray, List.set_cons_zero, List.set_cons_succ]
  refine T_of_any _ _ _ _ (by decide +kernel) ?_
  have p0 := hz5.cell (i := 0) (by omega)
  have p1 := hz5.cell (i := 1) (by omega)
  have p2 := hz5.cell (i := 2) (by omega)
  have p3 := hz5.cell (i := 3) (by omega)
  have p4 := hz5.cell (i := 4) (by omega)
  have z0 := hz5.frozen 0
  have z1 := hz5.frozen 1
  have z2 := hz5.frozen 2
  have z3 := hz5.frozen 3
  have z4 := hz5.frozen 4
  refine wpAny_ready (rs := [6]) (by decide +kernel) (by simp) ?_
  refine AllReady.cons rfl (fun KK hK => ?_) AllReady.nil
  go_simp
  refine hK _ _ ?_
  clear hK KK
  try simp only [Act.put, List.getElem_toArray, List.getElem_cons_zero, List.getElem_cons_succ, List.setIfInBounds_toArray, List.set_cons_zero, List.set_cons_succ]
  refine wpAny_done (by decide +kernel) ?_ _
  have HBF := Lib.hid (HBW.out.trans ((((Below.refl W1.heap.size W1).drew).trans HBB.out).mono HBW.out.size))
  go_wp2_with fail
  exact bodyPost_ret (v := .agg #[.int .i64 (eF k 0), .int .i64 (eF k 1), .int .i64 (eF k 2), .int .i64 (eF k 3), .int .i64 (eF k 4)]) (by simp [results, Try.results25, go_sem, p0, p1, p2, p3, p4]) rfl ⟨rfl, ((((HBF.out.setCell HXW.out _).setCell HXW.out _).setCell HXW.out _).setCell HXW.out _).setCell HXW.out _⟩

end Go.Proofs.Ytmhicimjoidonaa
