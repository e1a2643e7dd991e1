/- slices.Repeat of one number. Condition: no more than eight times. -/
import Derived.Test.YtklhbmlcpjlgiaaApp
import Derived.Shelf.Bits.Mul64
import Derived.Shelf.SlGeneric
import Derived.Laws.CopyOwn
import Derived.Deep.RegionLaw
import Derived.Deep.RegionHeld
import Derived.OrdersHeld
import Derived.IntWalk
import Derived.Deep.OwnRows
import Derived.WalkSpells
import Derived.OwnWalk
import Derived.Deep.DeepMust
namespace Go.Proofs.Ytklhbmlcpjlgiaa
open Go.ChangeShapes Go.WideShapes Go.ChangeAt Go.RowKit Go.Shelf
set_option linter.unusedVariables false
set_option linter.unusedSimpArgs false
shelf_lay_g Lays.n212 Nm 212 at Try 23 as mulL
theorem make_intsH (K : Nat) (hK : K ≤ 1000) (W : World) : (Instr.makeSlice 49 (.int .i64 (K : Int)) (.int .i64 (K : Int))).run Try.prog W = .ok (.slice (some ⟨W.heap.size, 0, none⟩) K K) (W.alloc (.cells (madeCells #[.int .i64 0] K) 3)) :=
  run_make_row' 49 3 (.int .i64 0) 8 Try.underlying49 (by kernel_rfl) rfl .i64 .i64 K (by omega) (by omega) W
/-- k times the number, and then nothing -/
def repL (k n : Nat) : List Value := List.replicate k (.int .i64 (-1)) ++ List.replicate (n - k) (.int .i64 0)
theorem rep_splice {k m n : Nat} (h : k + m ≤ n) : splice (repL k n) k (List.replicate m (.int .i64 (-1))) = repL (k + m) n := by
  unfold splice repL
  rw [List.take_append_of_le_length (by simp), List.take_of_length_le (by simp), List.length_replicate, List.drop_append, List.drop_eq_nil_of_le (by simp), List.length_replicate, List.nil_append, List.drop_replicate, ← List.append_assoc, List.replicate_append_replicate]
  congr 2
  omega
theorem repL_len {k n : Nat} (h : k ≤ n) : (repL k n).length = n := by unfold repL; simp; omega
theorem made_rep (W : World) (n : Nat) : (W.alloc (.cells (madeCells #[.int .i64 0] n) 3)).heap[W.heap.size]? = some (.cells (repL 0 n).toArray 3 (0, 0)) := by
  obtain ⟨c, h1, h2, h3⟩ := World.rowIs_made W (.int .i64 0) n 3
  rw [h1]
  congr 2
  apply Array.ext
  · rw [h2]; simp [repL]
  · intro i hi hj
    have := h3 i (by omega)
    rw [Array.getElem?_eq_getElem hi] at this
    injection this with this
    rw [this]
    simp [repL]
theorem rep_row {W : World} {g n : Nat} (h : W.heap[g]? = some (.cells (repL n n).toArray 3 (0, 0))) : W.rowIs g 3 n (fun _ => .int .i64 (-1)) :=
  ⟨_, h, by simp [repL], fun i hi => by simp [repL, hi]⟩
theorem rep_cell {W : World} {g k n : Nat} (h : W.heap[g]? = some (.cells (repL k n).toArray 3 (0, 0))) {j : Nat} (hj : j < k) : W.cell? ⟨g, j, none⟩ = some (.int .i64 (-1)) := by
  simp [World.cell?, h, repL, List.getElem?_append, hj]
theorem size1 : (Try.prog.info? 3).map (·.size) = some 1 := by kernel_rfl
set_option maxRecDepth 100000 in
set_option maxHeartbeats 2000000 in
theorem rep_any (A : Option Addr) (c n : Nat) (w : World) (h : Rd w A 1 (fun _ => .int .i64 (-1))) (n1 : 1 ≤ n) (n8 : n ≤ 8) :
    Calls Try.prog 15 #[.slice A 1 c, .int .i64 (n : Nat)] w fun e w' => (∃ g, e = .returned (.slice (some ⟨g, 0, none⟩) n n) ∧ w.heap.size ≤ g ∧ w'.rowIs g 3 n (fun _ => .int .i64 (-1))) ∧ Below w.heap.size w w' := by
  have H := Lib.hid h
  obtain ⟨b, off, rfl, hbl, hc⟩ := h.at_ (show 0 < 1 by omega)
  have hmk := make_intsH n (by omega)
  have hmul : Calls Try.prog 23 #[.int .u64 1, .int .u64 (n : Nat)] w fun e w' => e = .returned (.tuple #[.int .u64 0, .int .u64 (n : Nat)]) ∧ w' = w := by
    have := Any.bits_Mul mulL 1 n (by omega) (by omega) w
    rw [show 1 * n / 18446744073709551616 = 0 by omega, show 1 * n % 18446744073709551616 = n by omega] at this
    exact this
  have HMUL := Lib.hid hmul
  clear h hmul
  go_enter Try.func15, Try.ntmps15
  go_wp2_with fail
  refine HMUL.out.mono ?_
  rintro e w' ⟨rfl, rfl⟩
  clear HMUL
  obtain ⟨W1, hW1⟩ : ∃ W, W = w'.alloc (.cells (madeCells #[.int .i64 0] n) 3) := ⟨_, rfl⟩
  have hg1 : W1.heap[w'.heap.size]? = some (.cells (repL 0 n).toArray 3 (0, 0)) := by rw [hW1]; exact made_rep w' n
  have hb1 : Below w'.heap.size w' W1 := by rw [hW1]; exact (Below.refl _ _).alloc (Nat.le_refl _) _
  have hc1 : W1.cell? ⟨b, off, none⟩ = some (.int .i64 (-1)) := (hb1.cell (p := ⟨b, off, none⟩) hbl).trans hc
  have HW1 := Lib.hid hW1
  have HG1 := Lib.hid hg1
  have HB1 := Lib.hid hb1
  have HC1 := Lib.hid hc1
  clear hW1 hg1 hb1 hc1 hc
  have hsrc : ∀ j v, (List.replicate 1 (Value.int .i64 (-1)))[j]? = some v → W1.cell? ((⟨b, off, none⟩ : Addr).add j) = some v := fun j v hj => by
    have : j = 0 := by
      rcases Nat.eq_zero_or_pos j with h | h
      · exact h
      · rw [List.getElem?_eq_none (by simp; omega)] at hj; cases hj
    subst this
    simp at hj
    subst hj
    exact HC1.out
  have HSRC := Lib.hid hsrc
  clear hsrc
  go_wp2_with (show wpList _ _ _ ({ dst := some 33, op := _, type := _, pos := _, after := _, guard := _ } :: _) _ _; go_must (rw [← HW1.out]; refine wpList_copy_splice rfl (.tmp 31) (.tmp 32) 49 49 rfl 3 Try.underlying49 size1 _ _ _ _ _ _ rfl rfl w'.heap.size 0 (repL 0 n) 3 HG1.out (List.replicate 1 (.int .i64 (-1))) (by rw [List.length_replicate]; exact (Nat.min_eq_left n1).symm) (fun _ => ⟨rfl, _, rfl, HSRC.out⟩) (by rw [repL_len (Nat.zero_le _)]; simp; omega) (fun v hv => by rw [List.eq_of_mem_replicate hv]; rfl) w'.heap.size w' HB1.out (Nat.le_refl _) ?_); intro w2 hg2 hb2; have HB2 := Lib.hid hb2; clear hb2; rw [rep_splice (by omega)] at hg2)
  obtain ⟨g, hgd⟩ : ∃ g, g = w'.heap.size := ⟨_, rfl⟩
  rw [← hgd] at hg2 ⊢
  have HGD := Lib.hid hgd
  rw [Nat.zero_add] at hg2
  clear HG1 HB1 HC1 HSRC HW1 hgd
  go_loopw [8] (fun s8 wr => ∃ k : Nat, 1 ≤ k ∧ k ≤ n ∧ s8 = .int .i64 (k : Nat) ∧ Hid (wr.heap[g]? = some (.cells (repL k n).toArray 3 (0, 0))) ∧ Hid (Below w'.heap.size w' wr)) (fun s8 _ => n - (intOf s8).toNat)
  case atStart => exact ⟨1, Nat.le_refl _, n1, rfl, hg2, HB2⟩
  case round =>
    clear hg2 HB2
    obtain ⟨wo, rfl⟩ : ∃ wo : World, wo = wr := ⟨_, rfl⟩
    obtain ⟨k, hk1, hkn, rfl, HG, HB⟩ := hrel
    by_cases hlt : k < n
    · obtain ⟨m, hm⟩ : ∃ m, m = Nat.min k (n - k) := ⟨_, rfl⟩
      have hm1 : m ≤ k := by rw [hm]; exact Nat.min_le_left _ _
      have hm2 : m ≤ n - k := by rw [hm]; exact Nat.min_le_right _ _
      have hm0 : 1 ≤ m := by rw [hm]; exact Nat.le_min.2 ⟨by omega, by omega⟩
      have hsrc : ∀ W : World, W.heap[g]? = some (.cells (repL k n).toArray 3 (0, 0)) → ∀ j v, (List.replicate m (Value.int .i64 (-1)))[j]? = some v → W.cell? ((⟨g, 0, none⟩ : Addr).add j) = some v := fun W hW j v hj => by
        have hjm : j < m := by
          rcases Nat.lt_or_ge j m with h | h
          · exact h
          · rw [List.getElem?_eq_none (by simpa using h)] at hj; cases hj
        rw [List.getElem?_replicate, if_pos hjm] at hj
        cases hj
        have := rep_cell hW (j := j) (by omega)
        simp only [Addr.add]
        split
        · rename_i e; rw [e] at this; exact this
        · simpa using this
      have HSRC := Lib.hid hsrc
      have HM := Lib.hid hm
      have HGW : Hid (wo.drew.heap[g]? = some (.cells (repL k n).toArray 3 (0, 0))) := HG
      have HBW : Hid (Below w'.heap.size w' wo.drew) := Lib.hid HB.out.drew
      clear hsrc hm
      go_wp2_with fail
      have wkm : IntKind.i64.wrap ((k : Int) + (m : Int)) = ((k + m : Nat) : Int) := by rw [show (k : Int) + (m : Int) = ((k + m : Nat) : Int) by omega]; exact IntWalk.i64_in _ (by omega)
      refine wp_region_any (by kernel_rfl) ?_
      change wpAny _ _ _ _ _ _ _ (World.drew _)
      refine wpAny_take (i := 0) (v := ?_) rfl (by decide +kernel) (by decide +kernel) (by decide +kernel) (fun _ _ _ h => h) (Or.inl ⟨by rfl, ?_⟩) ?_
      rotate_left 1
      · intro w; go_simp; with_reducible rfl
      simp only [Act.put, List.getElem_toArray, List.getElem_cons_zero, List.getElem_cons_succ, List.setIfInBounds_toArray, List.set_cons_zero, List.set_cons_succ]
      refine wpAny_take (i := 1) (v := ?_) rfl (by decide +kernel) (by decide +kernel) (by decide +kernel) (fun _ _ _ h => h) (Or.inl ⟨by rfl, ?_⟩) ?_
      rotate_left 1
      · intro w; go_simp; with_reducible rfl
      simp only [Act.put, List.getElem_toArray, List.getElem_cons_zero, List.getElem_cons_succ, List.setIfInBounds_toArray, List.set_cons_zero, List.set_cons_succ]
      refine wpAny_take (i := 2) (v := ?_) rfl (by decide +kernel) (by decide +kernel) (by decide +kernel) (fun _ _ _ h => h) (Or.inl ⟨by rfl, ?_⟩) ?_
      rotate_left 1
      · intro w; go_simp; with_reducible rfl
      simp only [Act.put, List.getElem_toArray, List.getElem_cons_zero, List.getElem_cons_succ, List.setIfInBounds_toArray, List.set_cons_zero, List.set_cons_succ]
      refine wpAny_take (i := 3) (v := ?_) rfl (by decide +kernel) (by decide +kernel) (by decide +kernel) (fun _ _ _ h => h) (Or.inl ⟨by rfl, ?_⟩) ?_
      rotate_left 1
      · intro w; go_simp; with_reducible rfl
      simp only [Act.put, List.getElem_toArray, List.getElem_cons_zero, List.getElem_cons_succ, List.setIfInBounds_toArray, List.set_cons_zero, List.set_cons_succ]
      refine wpAny_take (i := 4) (v := ?_) rfl (by decide +kernel) (by decide +kernel) (by decide +kernel) (fun _ _ _ h => h) (Or.inl ⟨by rfl, ?_⟩) ?_
      rotate_left 1
      · intro w; go_simp; with_reducible rfl
      simp only [Act.put, List.getElem_toArray, List.getElem_cons_zero, List.getElem_cons_succ, List.setIfInBounds_toArray, List.set_cons_zero, List.set_cons_succ]
      refine wpAny_take (i := 5) (v := ?_) rfl (by decide +kernel) (by decide +kernel) (by decide +kernel) (fun _ _ _ h => h) (Or.inl ⟨by rfl, ?_⟩) ?_
      rotate_left 1
      · intro w; go_simp; with_reducible rfl
      simp only [Act.put, List.getElem_toArray, List.getElem_cons_zero, List.getElem_cons_succ, List.setIfInBounds_toArray, List.set_cons_zero, List.set_cons_succ]
      refine wpAny_take (i := 6) (v := ?_) rfl (by decide +kernel) (by decide +kernel) (by decide +kernel) (fun _ _ _ h => h) (Or.inl ⟨by rfl, ?_⟩) ?_
      rotate_left 1
      · intro w; go_simp; with_reducible rfl
      simp only [Act.put, List.getElem_toArray, List.getElem_cons_zero, List.getElem_cons_succ, List.setIfInBounds_toArray, List.set_cons_zero, List.set_cons_succ]
      refine wpAny_ready (rs := [7]) (by decide +kernel) (by simp) ?_
      refine AllReady.cons rfl (fun KK hK => ?_) AllReady.nil
      refine step_copy_splice rfl (.tmp 41) (.tmp 44) 49 49 rfl 3 Try.underlying49 size1 _ _ _ _ _ _ rfl rfl g k (repL k n) 3 HGW.out (List.replicate m (.int .i64 (-1))) (by rw [List.length_replicate]; exact HM.out) (fun _ => ⟨if_neg (by omega), _, rfl, HSRC.out _ HGW.out⟩) (by rw [repL_len (by omega), List.length_replicate]; omega) (fun v hv => by rw [List.eq_of_mem_replicate hv]; rfl) w'.heap.size w' HBW.out (by rw [HGD.out]; exact Nat.le_refl _) ?_
      intro w4 hg4 hb4
      have HB4 := Lib.hid hb4
      clear hb4
      rw [rep_splice (by omega)] at hg4
      rw [List.length_replicate]
      refine hK _ _ ?_
      clear hK KK
      simp only [Act.put, List.getElem_toArray, List.getElem_cons_zero, List.getElem_cons_succ, List.setIfInBounds_toArray, List.set_cons_zero, List.set_cons_succ]
      refine wpAny_take (i := 8) (v := ?_) rfl (by decide +kernel) (by decide +kernel) (by decide +kernel) (fun _ _ _ h => h) (Or.inl ⟨by rfl, ?_⟩) ?_
      rotate_left 1
      · intro w; go_simp; with_reducible rfl
      simp only [Act.put, List.getElem_toArray, List.getElem_cons_zero, List.getElem_cons_succ, List.setIfInBounds_toArray, List.set_cons_zero, List.set_cons_succ]
      refine wpAny_take (i := 9) (v := ?_) rfl (by decide +kernel) (by decide +kernel) (by decide +kernel) (fun _ _ _ h => h) (Or.inl ⟨by rfl, ?_⟩) ?_
      rotate_left 1
      · intro w; go_simp; with_reducible rfl
      simp only [Act.put, List.getElem_toArray, List.getElem_cons_zero, List.getElem_cons_succ, List.setIfInBounds_toArray, List.set_cons_zero, List.set_cons_succ]
      refine wpAny_done (by decide +kernel) ?_ _
      go_wp2_with fail
      go_roundw
      case rel => exact ⟨k + m, by omega, by omega, by go_num, hg4, HB4⟩
      case measure => simp [intOf]; omega
    · obtain rfl : k = n := by omega
      go_wp2_with fail
      go_ret
      exact ⟨⟨g, rfl, by rw [HGD.out]; exact Nat.le_refl _, rep_row HG.out⟩, HB.out⟩
end Go.Proofs.Ytklhbmlcpjlgiaa
