/- What wide.behind does: the last order is written anew. Conditions: the list is the call's own. -/
import Derived.Test.YtmhicimjoidonaaWideTurns
import Derived.Test.YtmhicimjoidonaaApp
import Derived.Deep.RegionLaw
import Derived.Test.YtmhicimjoidonaaHeldTill
namespace Go.Proofs.Ytmhicimjoidonaa
open Go.ChangeShapes Go.WideShapes Go.ChangeAt Go.RowKit
set_option linter.unusedVariables false
set_option linter.unusedSimpArgs false
/-- the last order's two changes, and one more behind each -/
def behF (F : Nat → Int) (J r : Nat) (q : Nat) : Int :=
  if J * 11 + 1 ≤ q ∧ q < J * 11 + 6 then cmp (fun j => F (J * 11 + 1 + j)) (eF r) (q - (J * 11 + 1))
  else if J * 11 + 6 ≤ q ∧ q < J * 11 + 11 then cmp (fun j => F (J * 11 + 6 + j)) (eF r) (q - (J * 11 + 6)) else F q
def BC (W : World) (g J x : Nat) (N Y E : Nat → Int) : Prop := W.cell? ⟨g, J * 11 + 1, none⟩ = some (.int .i64 (N 0)) ∧ W.cell? ⟨g, J * 11 + 2, none⟩ = some (.int .i64 (N 1)) ∧ W.cell? ⟨g, J * 11 + 3, none⟩ = some (.int .i64 (N 2)) ∧ W.cell? ⟨g, J * 11 + 4, none⟩ = some (.int .i64 (N 3)) ∧ W.cell? ⟨g, J * 11 + 5, none⟩ = some (.int .i64 (N 4)) ∧ W.cell? ⟨g, J * 11 + 6, none⟩ = some (.int .i64 (Y 0)) ∧ W.cell? ⟨g, J * 11 + 7, none⟩ = some (.int .i64 (Y 1)) ∧ W.cell? ⟨g, J * 11 + 8, none⟩ = some (.int .i64 (Y 2)) ∧ W.cell? ⟨g, J * 11 + 9, none⟩ = some (.int .i64 (Y 3)) ∧ W.cell? ⟨g, J * 11 + 10, none⟩ = some (.int .i64 (Y 4)) ∧ W.cell? ⟨x, 0, none⟩ = some (.int .i64 (E 0)) ∧ W.cell? ⟨x, 1, none⟩ = some (.int .i64 (E 1)) ∧ W.cell? ⟨x, 2, none⟩ = some (.int .i64 (E 2)) ∧ W.cell? ⟨x, 3, none⟩ = some (.int .i64 (E 3)) ∧ W.cell? ⟨x, 4, none⟩ = some (.int .i64 (E 4)) ∧ W.frozen? ⟨g, J * 11 + 1, none⟩ = false ∧ W.frozen? ⟨g, J * 11 + 2, none⟩ = false ∧ W.frozen? ⟨g, J * 11 + 3, none⟩ = false ∧ W.frozen? ⟨g, J * 11 + 4, none⟩ = false ∧ W.frozen? ⟨g, J * 11 + 5, none⟩ = false ∧ W.frozen? ⟨g, J * 11 + 6, none⟩ = false ∧ W.frozen? ⟨g, J * 11 + 7, none⟩ = false ∧ W.frozen? ⟨g, J * 11 + 8, none⟩ = false ∧ W.frozen? ⟨g, J * 11 + 9, none⟩ = false ∧ W.frozen? ⟨g, J * 11 + 10, none⟩ = false
theorem BC.below {W W' : World} {g J x : Nat} {N Y E : Nat → Int} (h : BC W g J x N Y E) (hb : Below W.heap.size W W') (lg : g < W.heap.size) (lx : x < W.heap.size) : BC W' g J x N Y E := by
  obtain ⟨c0, c1, c2, c3, c4, c5, c6, c7, c8, c9, c10, c11, c12, c13, c14, c15, c16, c17, c18, c19, c20, c21, c22, c23, c24⟩ := h
  have k : ∀ o, W'.cell? ⟨g, o, none⟩ = W.cell? ⟨g, o, none⟩ := fun o => hb.cell (p := ⟨g, o, none⟩) lg
  have k2 : ∀ o, W'.cell? ⟨x, o, none⟩ = W.cell? ⟨x, o, none⟩ := fun o => hb.cell (p := ⟨x, o, none⟩) lx
  have k3 : ∀ o, W'.frozen? ⟨g, o, none⟩ = W.frozen? ⟨g, o, none⟩ := fun o => hb.frozen (p := ⟨g, o, none⟩) lg
  unfold BC
  simp only [k, k2, k3]
  exact ⟨c0, c1, c2, c3, c4, c5, c6, c7, c8, c9, c10, c11, c12, c13, c14, c15, c16, c17, c18, c19, c20, c21, c22, c23, c24⟩
set_option maxRecDepth 100000 in
set_option maxHeartbeats 8000000 in
theorem behind_walk (g c J r : Nat) (N Y E : Nat → Int) (w : World) (hg : g < w.heap.size) (hc : J + 1 ≤ c) (hJ : J ≤ 100000) (hN : ∀ i, i < 5 → 0 ≤ N i ∧ N i ≤ 4) (hY : ∀ i, i < 5 → 0 ≤ Y i ∧ Y i ≤ 4) (hb : BC (w.alloc (.cells #[.int .i64 (E 0), .int .i64 (E 1), .int .i64 (E 2), .int .i64 (E 3), .int .i64 (E 4)] 22)) g J w.heap.size N Y E) :
    Calls Try.prog 20 #[.slice (some ⟨g, 0, none⟩) (J + 1) c, .agg #[.int .i64 (E 0), .int .i64 (E 1), .int .i64 (E 2), .int .i64 (E 3), .int .i64 (E 4)]] w fun e w' => e = .returned (.slice (some ⟨g, 0, none⟩) (J + 1) c) ∧ ∃ w3, Below w.heap.size w w3 ∧ w' = ((((((((((w3.setCell ⟨g, J * 11 + 1, none⟩ (.int .i64 (cmp N E 0))).setCell ⟨g, J * 11 + 2, none⟩ (.int .i64 (cmp N E 1))).setCell ⟨g, J * 11 + 3, none⟩ (.int .i64 (cmp N E 2))).setCell ⟨g, J * 11 + 4, none⟩ (.int .i64 (cmp N E 3))).setCell ⟨g, J * 11 + 5, none⟩ (.int .i64 (cmp N E 4))).setCell ⟨g, J * 11 + 6, none⟩ (.int .i64 (cmp Y E 0))).setCell ⟨g, J * 11 + 7, none⟩ (.int .i64 (cmp Y E 1))).setCell ⟨g, J * 11 + 8, none⟩ (.int .i64 (cmp Y E 2))).setCell ⟨g, J * 11 + 9, none⟩ (.int .i64 (cmp Y E 3))).setCell ⟨g, J * 11 + 10, none⟩ (.int .i64 (cmp Y E 4))) := by
  have HN := Lib.hid hN
  have HY := Lib.hid hY
  have HB := Lib.hid hb
  have lg1 : g < (w.alloc (.cells #[.int .i64 (E 0), .int .i64 (E 1), .int .i64 (E 2), .int .i64 (E 3), .int .i64 (E 4)] 22)).heap.size := by simp; omega
  have lx1 : w.heap.size < (w.alloc (.cells #[.int .i64 (E 0), .int .i64 (E 1), .int .i64 (E 2), .int .i64 (E 3), .int .i64 (E 4)] 22)).heap.size := by simp
  have HL := Lib.hid (And.intro lg1 lx1)
  clear hN hY hb lg1 lx1
  go_enter Try.func20, Try.ntmps20
  go_wp2_with fail
  obtain ⟨x, hx⟩ : ∃ x, x = w.heap.size := ⟨_, rfl⟩
  obtain ⟨W1, hW1⟩ : ∃ W1, W1 = w.alloc (.cells #[.int .i64 (E 0), .int .i64 (E 1), .int .i64 (E 2), .int .i64 (E 3), .int .i64 (E 4)] 22) := ⟨_, rfl⟩
  have hbw : Below w.heap.size w W1 := by rw [hW1]; exact (Below.refl _ _).alloc (Nat.le_refl _) _
  rw [← hx, ← hW1] at HB HL
  rw [← hx, ← hW1]
  have HBW := Lib.hid hbw
  have hd : BC W1.drew g J x N Y E := HB.out
  have HD := Lib.hid hd
  obtain ⟨a0, a1, a2, a3, a4, a5, a6, a7, a8, a9, a10, a11, a12, a13, a14, a15, a16, a17, a18, a19, a20, a21, a22, a23, a24⟩ := hd
  clear hbw hW1 hx
  refine wp_region_any (by kernel_rfl) ?_
  change wpAny _ _ _ _ _ _ _ (World.drew _)
  refine any_of_T (S := fun W => BC W g J x N Y E) (c := 13) _ _ _ _ ?_
  refine anyT_takeY (i := 0) (v := ?_) rfl (by kernel_rfl) (by kernel_rfl) (by kernel_rfl) (by kernel_rfl) (fun _ _ _ h => h) (Or.inl ⟨by rfl, ?_⟩) HD.out ?_
  rotate_left 1
  · intro w _; go_simp; with_reducible rfl
  simp only [Act.put, List.getElem_toArray, List.getElem_cons_zero, List.getElem_cons_succ, List.setIfInBounds_toArray, List.set_cons_zero, List.set_cons_succ]
  refine anyT_takeY (i := 1) (v := ?_) rfl (by kernel_rfl) (by kernel_rfl) (by kernel_rfl) (by kernel_rfl) (fun _ _ _ h => h) (Or.inl ⟨by rfl, ?_⟩) HD.out ?_
  rotate_left 1
  · intro w _; go_simp; with_reducible rfl
  simp only [Act.put, List.getElem_toArray, List.getElem_cons_zero, List.getElem_cons_succ, List.setIfInBounds_toArray, List.set_cons_zero, List.set_cons_succ]
  refine anyT_takeY (i := 2) (v := ?_) rfl (by kernel_rfl) (by kernel_rfl) (by kernel_rfl) (by kernel_rfl) (fun _ _ _ h => h) (Or.inl ⟨by rfl, ?_⟩) HD.out ?_
  rotate_left 1
  · intro w _; go_simp; with_reducible rfl
  simp only [Act.put, List.getElem_toArray, List.getElem_cons_zero, List.getElem_cons_succ, List.setIfInBounds_toArray, List.set_cons_zero, List.set_cons_succ]
  refine anyT_takeY (i := 3) (v := ?_) rfl (by kernel_rfl) (by kernel_rfl) (by kernel_rfl) (by kernel_rfl) (fun _ _ _ h => h) (Or.inl ⟨by rfl, ?_⟩) HD.out ?_
  rotate_left 1
  · intro w _; go_simp; with_reducible rfl
  simp only [Act.put, List.getElem_toArray, List.getElem_cons_zero, List.getElem_cons_succ, List.setIfInBounds_toArray, List.set_cons_zero, List.set_cons_succ]
  refine anyT_takeY (i := 4) (v := ?_) rfl (by kernel_rfl) (by kernel_rfl) (by kernel_rfl) (by kernel_rfl) (fun _ _ _ h => h) (Or.inl ⟨by rfl, ?_⟩) HD.out ?_
  rotate_left 1
  · intro w _; go_simp; with_reducible rfl
  simp only [Act.put, List.getElem_toArray, List.getElem_cons_zero, List.getElem_cons_succ, List.setIfInBounds_toArray, List.set_cons_zero, List.set_cons_succ]
  refine anyT_take 7 (i := 5) (v := ?_) rfl (by kernel_rfl) (by kernel_rfl) (by kernel_rfl) (by kernel_rfl) (by kernel_rfl) (by kernel_rfl) (by kernel_rfl) (fun _ _ _ h => h) (Or.inl ⟨by rfl, ?_⟩) HD.out ?_
  rotate_left 1
  · intro w hS; obtain ⟨s0, s1, s2, s3, s4, s5, s6, s7, s8, s9, s10, s11, s12, s13, s14, s15, s16, s17, s18, s19, s20, s21, s22, s23, s24⟩ := hS; go_simp; with_reducible rfl
  simp only [Act.put, List.getElem_toArray, List.getElem_cons_zero, List.getElem_cons_succ, List.setIfInBounds_toArray, List.set_cons_zero, List.set_cons_succ]
  refine anyT_take 7 (i := 6) (v := ?_) rfl (by kernel_rfl) (by kernel_rfl) (by kernel_rfl) (by kernel_rfl) (by kernel_rfl) (by kernel_rfl) (by kernel_rfl) (fun _ _ _ h => h) (Or.inl ⟨by rfl, ?_⟩) HD.out ?_
  rotate_left 1
  · intro w hS; obtain ⟨s0, s1, s2, s3, s4, s5, s6, s7, s8, s9, s10, s11, s12, s13, s14, s15, s16, s17, s18, s19, s20, s21, s22, s23, s24⟩ := hS; go_simp; with_reducible rfl
  simp only [Act.put, List.getElem_toArray, List.getElem_cons_zero, List.getElem_cons_succ, List.setIfInBounds_toArray, List.set_cons_zero, List.set_cons_succ]
  refine anyT_takeY (i := 8) (v := ?_) rfl (by kernel_rfl) (by kernel_rfl) (by kernel_rfl) (by kernel_rfl) (fun _ _ _ h => h) (Or.inl ⟨by rfl, ?_⟩) HD.out ?_
  rotate_left 1
  · intro w _; go_simp; with_reducible rfl
  simp only [Act.put, List.getElem_toArray, List.getElem_cons_zero, List.getElem_cons_succ, List.setIfInBounds_toArray, List.set_cons_zero, List.set_cons_succ]
  refine anyT_takeY (i := 9) (v := ?_) rfl (by kernel_rfl) (by kernel_rfl) (by kernel_rfl) (by kernel_rfl) (fun _ _ _ h => h) (Or.inl ⟨by rfl, ?_⟩) HD.out ?_
  rotate_left 1
  · intro w _; go_simp; with_reducible rfl
  simp only [Act.put, List.getElem_toArray, List.getElem_cons_zero, List.getElem_cons_succ, List.setIfInBounds_toArray, List.set_cons_zero, List.set_cons_succ]
  refine anyT_takeY (i := 10) (v := ?_) rfl (by kernel_rfl) (by kernel_rfl) (by kernel_rfl) (by kernel_rfl) (fun _ _ _ h => h) (Or.inl ⟨by rfl, ?_⟩) HD.out ?_
  rotate_left 1
  · intro w _; go_simp; with_reducible rfl
  simp only [Act.put, List.getElem_toArray, List.getElem_cons_zero, List.getElem_cons_succ, List.setIfInBounds_toArray, List.set_cons_zero, List.set_cons_succ]
  refine anyT_take 13 (i := 11) (v := ?_) rfl (by kernel_rfl) (by kernel_rfl) (by kernel_rfl) (by kernel_rfl) (by kernel_rfl) (by kernel_rfl) (by kernel_rfl) (fun _ _ _ h => h) (Or.inl ⟨by rfl, ?_⟩) HD.out ?_
  rotate_left 1
  · intro w hS; obtain ⟨s0, s1, s2, s3, s4, s5, s6, s7, s8, s9, s10, s11, s12, s13, s14, s15, s16, s17, s18, s19, s20, s21, s22, s23, s24⟩ := hS; go_simp; with_reducible rfl
  simp only [Act.put, List.getElem_toArray, List.getElem_cons_zero, List.getElem_cons_succ, List.setIfInBounds_toArray, List.set_cons_zero, List.set_cons_succ]
  refine anyT_take 13 (i := 12) (v := ?_) rfl (by kernel_rfl) (by kernel_rfl) (by kernel_rfl) (by kernel_rfl) (by kernel_rfl) (by kernel_rfl) (by kernel_rfl) (fun _ _ _ h => h) (Or.inl ⟨by rfl, ?_⟩) HD.out ?_
  rotate_left 1
  · intro w hS; obtain ⟨s0, s1, s2, s3, s4, s5, s6, s7, s8, s9, s10, s11, s12, s13, s14, s15, s16, s17, s18, s19, s20, s21, s22, s23, s24⟩ := hS; go_simp; with_reducible rfl
  simp only [Act.put, List.getElem_toArray, List.getElem_cons_zero, List.getElem_cons_succ, List.setIfInBounds_toArray, List.set_cons_zero, List.set_cons_succ]
  refine anyT_one (i := 7) (by kernel_rfl) rfl (fun KK hK => ?_)
  go_simp
  go_at_call 15
  refine (then_any N E W1.drew HN.out).mono ?_; rintro e w3 ⟨rfl, hb3⟩; have HD3 := Lib.hid (HD.out.below hb3 HL.out.1 HL.out.2)
  try go_simp
  refine hK.out _ _ (fun _ => HD3.out) ?_
  clear hK KK
  try simp only [Act.put, List.getElem_toArray, List.getElem_cons_zero, List.getElem_cons_succ, List.setIfInBounds_toArray, List.set_cons_zero, List.set_cons_succ]
  refine anyT_one (i := 13) (by kernel_rfl) rfl (fun KK hK => ?_)
  go_simp
  go_at_call 15
  refine (then_any Y E w3 HY.out).mono ?_; rintro e w4 ⟨rfl, hb4⟩; have hd4 := HD3.out.below hb4 (Nat.lt_of_lt_of_le HL.out.1 hb3.size) (Nat.lt_of_lt_of_le HL.out.2 hb3.size); have HD4 := Lib.hid hd4
  try go_simp
  refine hK.out _ _ (fun _ => HD4.out) ?_
  clear hK KK
  try simp only [Act.put, List.getElem_toArray, List.getElem_cons_zero, List.getElem_cons_succ, List.setIfInBounds_toArray, List.set_cons_zero, List.set_cons_succ]
  refine T_of_any _ _ _ _ (by kernel_rfl) ?_
  refine wpAny_take (i := 14) (v := ?_) rfl (by kernel_rfl) (by kernel_rfl) (by kernel_rfl) (fun _ _ _ h => h) (Or.inl ⟨by rfl, ?_⟩) ?_
  rotate_left 1
  · intro w; go_simp; with_reducible rfl
  simp only [Act.put, List.getElem_toArray, List.getElem_cons_zero, List.getElem_cons_succ, List.setIfInBounds_toArray, List.set_cons_zero, List.set_cons_succ]
  refine wpAny_take (i := 15) (v := ?_) rfl (by kernel_rfl) (by kernel_rfl) (by kernel_rfl) (fun _ _ _ h => h) (Or.inl ⟨by rfl, ?_⟩) ?_
  rotate_left 1
  · intro w; go_simp; with_reducible rfl
  simp only [Act.put, List.getElem_toArray, List.getElem_cons_zero, List.getElem_cons_succ, List.setIfInBounds_toArray, List.set_cons_zero, List.set_cons_succ]
  obtain ⟨c0, c1, c2, c3, c4, c5, c6, c7, c8, c9, c10, c11, c12, c13, c14, c15, c16, c17, c18, c19, c20, c21, c22, c23, c24⟩ := hd4
  refine wpAny_ready (rs := [16]) (by kernel_rfl) (by simp) ?_
  refine AllReady.cons rfl (fun KK hK => ?_) AllReady.nil
  go_simp
  refine hK _ _ ?_
  clear hK KK
  try simp only [Act.put, List.getElem_toArray, List.getElem_cons_zero, List.getElem_cons_succ, List.setIfInBounds_toArray, List.set_cons_zero, List.set_cons_succ]
  refine wpAny_take (i := 17) (v := ?_) rfl (by kernel_rfl) (by kernel_rfl) (by kernel_rfl) (fun _ _ _ h => h) (Or.inl ⟨by rfl, ?_⟩) ?_
  rotate_left 1
  · intro w; go_simp; with_reducible rfl
  simp only [Act.put, List.getElem_toArray, List.getElem_cons_zero, List.getElem_cons_succ, List.setIfInBounds_toArray, List.set_cons_zero, List.set_cons_succ]
  refine wpAny_take (i := 18) (v := ?_) rfl (by kernel_rfl) (by kernel_rfl) (by kernel_rfl) (fun _ _ _ h => h) (Or.inl ⟨by rfl, ?_⟩) ?_
  rotate_left 1
  · intro w; go_simp; with_reducible rfl
  simp only [Act.put, List.getElem_toArray, List.getElem_cons_zero, List.getElem_cons_succ, List.setIfInBounds_toArray, List.set_cons_zero, List.set_cons_succ]
  refine wpAny_ready (rs := [19]) (by kernel_rfl) (by simp) ?_
  refine AllReady.cons rfl (fun KK hK => ?_) AllReady.nil
  go_simp
  refine hK _ _ ?_
  clear hK KK
  try simp only [Act.put, List.getElem_toArray, List.getElem_cons_zero, List.getElem_cons_succ, List.setIfInBounds_toArray, List.set_cons_zero, List.set_cons_succ]
  refine wpAny_done (by kernel_rfl) ?_ _
  have HBF := Lib.hid (HBW.out.trans ((((Below.refl W1.heap.size W1).drew).trans (hb3.trans (hb4.mono hb3.size))).mono HBW.out.size))
  go_wp2_with fail
  go_ret
  exact ⟨rfl, w4, HBF.out, rfl⟩
end Go.Proofs.Ytmhicimjoidonaa
