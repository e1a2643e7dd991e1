/- The references' Read and Write of trees. Conditions: the list may be; the tree lies as told. -/
import Derived.Test.YtmbemikhbcjfmaaCombDec
import Derived.BigRegion
namespace Go.Proofs.Ytmbemikhbcjfmaa
open Go.ChangeShapes Go.WideShapes Go.ChangeAt Go.RowKit
set_option linter.unusedVariables false
set_option linter.unusedSimpArgs false
def RwP (w0 : World) (t : Tm) (L : Nat → Cb) (n : Nat) (e : Ending) (w' : World) : Prop :=
  ∃ A' c', e = .returned (.slice A' (n + t.sz) c') ∧ n + t.sz ≤ c' ∧ c' ≤ maxLen ∧ Rd w' A' ((n + t.sz) * 4) (lcC (wrF t L n)) ∧ Below w0.heap.size w0 w'
theorem rw_cat {C : Nat → Value} {L : Nat → Cb} {n : Nat} {v : Cb} (q : Nat) (h : q < n * 4 + 4) : cat (n * 4) (cat 0 C (lcC L)) (c1C v) q = lcC (exC L n v) q := by
  rw [← lc_cat h]
  by_cases e : q < n * 4
  · rw [cat_lt e, cat_lt e, cat_ge (Nat.zero_le _)]; rfl
  · rw [cat_ge (by omega), cat_ge (by omega)]
set_option maxRecDepth 100000 in
set_option maxHeartbeats 2000000 in
theorem rwrite_any : ∀ (t : Tm) (g : Nat) (W : World) (A : Option Addr) (n c : Nat) (L : Nat → Cb), TAt 43 W t g → Rd W A (n * 4) (lcC L) → n + t.sz ≤ 1000 →
    Calls Try.prog 15 #[.pointer (some ⟨g, 0, none⟩), .slice A n c] W (RwP W t L n)
  | .lf kd v, g, W, A, n, c, L, h, ho, hs => by
    obtain ⟨k4, k1, k3, hr⟩ := h
    have hcl : ∀ X : World, Below W.heap.size W X → X.cell? ⟨g, 0, none⟩ = some (.int .i64 kd) ∧ X.cell? ⟨g, 1, none⟩ = some (.int .i64 v) := fun X hX => by
      have hx := row_below hr hX hr.lt
      exact ⟨hx.cell (i := 0) (by omega), hx.cell (i := 1) (by omega)⟩
    obtain ⟨c0, c1⟩ := hcl W (Below.refl _ _)
    have HCL := Lib.hid hcl
    have q : (kd != 4) = true := by rw [bne_iff_ne]; exact k4
    have hs2 : (Tm.lf kd v).sz = 1 := rfl
    rw [hs2] at hs
    have HRD := Lib.hid ho
    have hgl : g < W.heap.size := hr.lt
    have hbe := ((Below.refl W.heap.size W).alloc (Nat.le_refl _) (.cells #[] 37)).drew
    have hbeB := (((Below.refl W.heap.size W).alloc (Nat.le_refl _) (.cells #[] 37)).alloc (by simp) (.cells #[.int .i64 kd, .int .i64 0, .int .i64 0, .int .i64 v] 37)).drew
    have hrecB : (((W.alloc (.cells #[] 37)).alloc (.cells #[.int .i64 kd, .int .i64 0, .int .i64 0, .int .i64 v] 37)).drew).rowIs (W.heap.size + 1) 37 4 (c1C (kd, 0, 0, v)) := by
      rw [show W.heap.size + 1 = (W.alloc (.cells #[] 37)).heap.size by simp]
      exact row4 _ _ _ _ _ _ _ rfl rfl rfl rfl
    have HREC := Lib.hid hrecB
    have hbeG := (((Below.refl W.heap.size W).alloc (Nat.le_refl _) (.cells #[.int .i64 kd, .int .i64 0, .int .i64 0, .int .i64 v] 37)).alloc (by simp) (.cells #[] 37)).drew
    have hownG : Own (((W.alloc (.cells #[.int .i64 kd, .int .i64 0, .int .i64 0, .int .i64 v] 37)).alloc (.cells #[] 37)).drew) W.heap.size 37 4 (some ⟨W.heap.size + 1, 0, none⟩) 0 0 0 (lcC L) := by
      have := (Own.empty (W.alloc (.cells #[.int .i64 kd, .int .i64 0, .int .i64 0, .int .i64 v] 37)) W.heap.size 37 4 (lcC L) (by simp)).drew
      rwa [show (W.alloc (.cells #[.int .i64 kd, .int .i64 0, .int .i64 0, .int .i64 v] 37)).heap.size = W.heap.size + 1 by simp] at this
    have hrecG : (((W.alloc (.cells #[.int .i64 kd, .int .i64 0, .int .i64 0, .int .i64 v] 37)).alloc (.cells #[] 37)).drew).rowIs W.heap.size 37 4 (c1C (kd, 0, 0, v)) := ((row4 W 37 (.int .i64 kd) (.int .i64 0) (.int .i64 0) (.int .i64 v) (c1C (kd, 0, 0, v)) rfl rfl rfl rfl).alloc _).drew
    have HRECG := Lib.hid hrecG
    have HOWG := Lib.hid hownG
    clear hr hs2 hcl ho hrecB hrecG hownG
    go_enter Try.func15, Try.ntmps15
    go_wp2_with fail
    go_region_law (first
      | (refine step_app _ rfl (.tmp 11) (.tmp 12) 22 rfl ECb rfl ((Own.empty W W.heap.size 37 4 (lcC L) (Nat.le_refl _)).drew) rfl (l := n * 4) rfl (HRD.out.below hbe) (fun _ _ => c1_one _ _) (by unfold maxLen; omega) (by omega) (by simp) n (n * 4) (by omega) (by omega) ?_; intro A3 c3 w3 hown3 hg3 hat3 hbl3; have hbe3 := hbe.trans hbl3; have cs3 := HCL.out _ hbe3; obtain ⟨cs3a, cs3b⟩ := cs3; have hs3 := hbe3.size)
      | (refine step_app _ rfl (.tmp 11) (.tmp 12) 22 rfl ECb rfl (((Own.empty W W.heap.size 37 4 (lcC L) (Nat.le_refl _)).alloc _).drew) rfl (l := n * 4) rfl (HRD.out.below hbeB) (fun _ _ => c1_one _ _) (by unfold maxLen; omega) (by omega) (by have := hbeB.size; exact this) n (n * 4) (by omega) (by omega) ?_; intro A3 c3 w3 hown5 hg3 hat3 hbl3; have hbe5 := hbeB.trans hbl3; have hrec5 := Rd.of_row (m := 4) (HREC.out.of_block (hg3.block _ HREC.out.lt (fun e => by have e' : some (W.heap.size + 1) = some W.heap.size := e; injection e' with e2; omega))) (by omega); have hs3 := hbe5.size)
      | (refine step_app _ rfl (.tmp 11) (.tmp 12) 22 rfl ECb rfl HOWG.out rfl (l := n * 4) rfl (HRD.out.below hbeG) (fun _ _ => c1_one _ _) (by unfold maxLen; omega) (by omega) (by have := hbeG.size; exact this) n (n * 4) (by omega) (by omega) ?_; intro A3 c3 w3 hown5 hg3 hat3 hbl3; have hbe5 := hbeG.trans hbl3; have hrec5 := Rd.of_row (m := 4) (HRECG.out.of_block (hg3.block _ HRECG.out.lt (fun e => by have e' : some W.heap.size = some (W.heap.size + 1) := e; injection e' with e2; omega))) (by omega); have hs3 := hbe5.size)
      | (refine step_app _ rfl (.tmp 13) (.tmp 23) 22 rfl ECb rfl (hown3.alloc _) rfl (l := 4) rfl (cb_rd _ kd 0 0 v 37) (fun _ _ => c1_one _ _) (by unfold maxLen; omega) (by omega) (by simp; omega) (n + 1) ((n + 1) * 4) rfl (by omega) ?_; intro A4 c4 w4 hown4 hg4 hat4 hbl4; have hbe4 := (hbe3.alloc hbe3.size (.cells #[.int .i64 kd, .int .i64 0, .int .i64 0, .int .i64 v] 37)).trans hbl4)
      | (refine step_app _ rfl (.tmp 13) (.tmp 23) 22 rfl ECb rfl hown5 rfl (l := 4) rfl hrec5 (fun _ _ => c1_one _ _) (by unfold maxLen; omega) (by omega) (by omega) (n + 1) ((n + 1) * 4) rfl (by omega) ?_; intro A4 c4 w4 hown4 hg4 hat4 hbl4; have hbe4 := hbe5.trans hbl4))
    all_goals
      go_wp2_with fail
      go_ret
      exact ⟨A4, c4, rfl, hown4.le.1, hown4.le.2, hown4.rd.congr fun q hq => rw_cat q (by have : q < (n + 1) * 4 := hq; omega), hbe4⟩
  | .ap a b, g, W, A, n, c, L, h, ho, hs => by
    obtain ⟨ga, gb, hr, ha, hbb⟩ := h
    have c0 : W.cell? ⟨g, 0, none⟩ = some (.int .i64 4) := hr.cell (i := 0) (by omega)
    have c2 : W.cell? ⟨g, 2, none⟩ = some (.pointer (some ⟨ga, 0, none⟩)) := hr.cell (i := 2) (by omega)
    have hsz : (Tm.ap a b).sz = 1 + a.sz + b.sz := rfl
    rw [hsz] at hs
    have HR := Lib.hid hr
    have HA := Lib.hid (rwrite_any a ga W A n c L ha ho (by omega))
    have HBB := Lib.hid (fun W2 A2 c2 (hb2 : Below W.heap.size W W2) (ho2 : Rd W2 A2 ((n + a.sz) * 4) (lcC (wrF a L n))) => rwrite_any b gb W2 A2 (n + a.sz) c2 (wrF a L n) (hbb.below hb2) ho2 (by omega))
    have hpa := a.sz_pos
    have hpb := b.sz_pos
    clear hr ha hbb ho
    go_enter Try.func15, Try.ntmps15
    go_wp2_with fail
    refine HA.out.mono ?_
    rintro e w2 ⟨A2, c2', rfl, l2, m2, ho2, hb2⟩
    have hr2 := row_below HR.out hb2 HR.out.lt
    have c3 : w2.cell? ⟨g, 3, none⟩ = some (.pointer (some ⟨gb, 0, none⟩)) := hr2.cell (i := 3) (by omega)
    have HO2 := Lib.hid ho2
    have HB2 := Lib.hid hb2
    obtain ⟨m, hm⟩ : ∃ m, m = n + a.sz := ⟨_, rfl⟩
    rw [← hm]
    have hmb : 1 ≤ m ∧ m ≤ 1000 := by omega
    have HMM := Lib.hid hm
    clear hr2 ho2 hb2 hm l2 m2
    go_wp2_with fail
    rw [HMM.out]
    refine (HBB.out w2 A2 c2' HB2.out HO2.out).mono ?_
    rintro e w3 ⟨A3, c3', rfl, l3, m3, ho3, hb3⟩
    have HB3 := Lib.hid (HB2.out.trans (hb3.mono HB2.out.size))
    obtain ⟨z, hz⟩ : ∃ z, z = n + a.sz + b.sz := ⟨_, rfl⟩
    rw [← hz] at ho3 ⊢
    have hzb : 1 ≤ z ∧ z ≤ 1000 := by omega
    have HZZ := Lib.hid hz
    have HO3 := Lib.hid (ho3.below ((Below.refl w3.heap.size w3).alloc (Nat.le_refl _) (.cells #[] 37)))
    rw [← HMM.out]
    clear hb3 hz l3 m3 ho3
    go_wp2_with (first
      | (at_builtin; refine wpList_app _ rfl (.tmp 40) (.tmp 41) 22 rfl ECb rfl (Own.empty w3 w3.heap.size 37 4 (lcC L) (Nat.le_refl _)) rfl (l := z * 4) rfl HO3.out (fun _ _ => c1_one _ _) (by unfold maxLen; omega) (by omega) (by simp) z (z * 4) (by omega) (by omega) ?_; intro A5 c5 w5 hown5 hg5 hat5 hbl5; have hbe5 := ((Below.refl w3.heap.size w3).alloc (Nat.le_refl _) (.cells #[] 37)).trans hbl5; have hs5 := hbe5.size)
      | (at_builtin; refine wpList_app _ rfl (.tmp 42) (.tmp 48) 22 rfl ECb rfl (hown5.alloc _) rfl (l := 4) rfl (cb_rd _ 4 ((m : Int) - 1) ((z : Int) - 1) 0 37) (fun _ _ => c1_one _ _) (by unfold maxLen; omega) (by omega) (by simp; omega) (z + 1) ((z + 1) * 4) rfl (by omega) ?_; intro A4 c4 w4 hown4 hg4 hat4 hbl4; have hbe4 := (hbe5.alloc hbe5.size (.cells #[.int .i64 4, .int .i64 ((m : Int) - 1), .int .i64 ((z : Int) - 1), .int .i64 0] 37)).trans hbl4))
    go_ret
    have e1 : n + (Tm.ap a b).sz = z + 1 := by rw [HZZ.out]; show n + (1 + a.sz + b.sz) = _; omega
    refine ⟨A4, c4, by rw [e1]; rfl, by rw [e1]; exact hown4.le.1, hown4.le.2, ?_, HB3.out.trans (hbe4.mono HB3.out.size)⟩
    rw [e1]
    refine hown4.rd.congr fun q hq => ?_
    rw [rw_cat q (by omega)]
    show _ = lcC (exC (wrF b (wrF a L n) (n + a.sz)) (n + a.sz + b.sz) (4, ((n + a.sz : Nat) : Int) - 1, ((n + a.sz + b.sz : Nat) : Int) - 1, 0)) q
    rw [← HZZ.out, ← HMM.out]
end Go.Proofs.Ytmbemikhbcjfmaa
