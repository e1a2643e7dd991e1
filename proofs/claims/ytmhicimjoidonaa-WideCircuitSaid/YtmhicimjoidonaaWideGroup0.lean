/- Comparing five places, and what wide.Order and the references' Change, Then and Same compute. Conditions: as each theorem states. -/
import Derived.Test.YtmhicimjoidonaaWideFns
import Derived.ChangeKeysEq
namespace Go.Proofs.Ytmhicimjoidonaa
open Go.ChangeShapes Go.WideShapes Go.ChangeAt Go.RowKit
set_option linter.unusedVariables false
def eqB (F G : Nat → Int) : Bool := (F 0 == G 0) && ((F 1 == G 1) && ((F 2 == G 2) && ((F 3 == G 3) && (F 4 == G 4))))
theorem eqB_iff {F G : Nat → Int} : eqB F G = true ↔ ∀ i, i < 5 → F i = G i := by
  simp only [eqB, Bool.and_eq_true, beq_iff_eq]
  constructor
  · rintro ⟨h0, h1, h2, h3, h4⟩ i hi
    match i, hi with
    | 0, _ => exact h0
    | 1, _ => exact h1
    | 2, _ => exact h2
    | 3, _ => exact h3
    | 4, _ => exact h4
  · intro h; exact ⟨h 0 (by omega), h 1 (by omega), h 2 (by omega), h 3 (by omega), h 4 (by omega)⟩
theorem eqB_no {F G : Nat → Int} (h : ¬ ∀ i, i < 5 → F i = G i) : eqB F G = false := by
  cases hh : eqB F G
  · rfl
  · exact absurd (eqB_iff.1 hh) h
theorem cells_int : Try.prog.cellsOf 3 = 1 := by kernel_rfl
theorem info_int : (Try.prog.info? 3).map (fun i => (i.zero, i.size, i.bytes)) = some (some (.int .i64 0), 1, 8) := by kernel_rfl
theorem eqI5 (F G : Nat → Int) (W : World) : (Op.equalIn 10000 22 (.agg #[.int .i64 (F 0), .int .i64 (F 1), .int .i64 (F 2), .int .i64 (F 3), .int .i64 (F 4)]) (.agg #[.int .i64 (G 0), .int .i64 (G 1), .int .i64 (G 2), .int .i64 (G 3), .int .i64 (G 4)])).run Try.prog W = .ok (eqB F G) W := by
  obtain ⟨i, hi, _⟩ := info_parts info_int
  rw [run_equalIn_array (w := W) (d := 9999) _ _ Try.underlying22 hi, cells_int, show List.range 5 = [0, 1, 2, 3, 4] from rfl]
  simp [Op.eqItems, go_sem]
  unfold eqB
  by_cases h0 : F 0 = G 0 <;> by_cases h1 : F 1 = G 1 <;> by_cases h2 : F 2 = G 2 <;> by_cases h3 : F 3 = G 3 <;> by_cases h4 : F 4 = G 4 <;> simp [h0, h1, h2, h3, h4]
theorem eqI5id (F : Nat → Int) (W : World) : (Op.equalIn 10000 22 (.agg #[.int .i64 (F 0), .int .i64 (F 1), .int .i64 (F 2), .int .i64 (F 3), .int .i64 (F 4)]) (.agg #[.int .i64 0, .int .i64 1, .int .i64 2, .int .i64 3, .int .i64 4])).run Try.prog W = .ok (eqB F idF) W := eqI5 F idF W
set_option maxRecDepth 100000 in
theorem order_any (F : Nat → Int) (o : Nat) (w : World) (hF : perm F) (ho : Ord F o) (o5 : o ≤ 5) :
    Calls Try.prog 8 #[.agg #[.int .i64 (F 0), .int .i64 (F 1), .int .i64 (F 2), .int .i64 (F 3), .int .i64 (F 4)]] w fun e w' => e = .returned (.tuple #[.int .i64 ((o : Int) + 1), .int .i64 0]) ∧ Below w.heap.size w w' := by
  have i1 := isB_iff.2 hF
  have HF := Lib.hid hF
  have HO := Lib.hid ho
  have a0 := row5 w 22 (.int .i64 (F 0)) (.int .i64 (F 1)) (.int .i64 (F 2)) (.int .i64 (F 3)) (.int .i64 (F 4)) (fun x => .int .i64 (F x)) rfl rfl rfl rfl rfl
  clear hF ho
  go_enter Try.func8, Try.ntmps8
  go_wp2_with fail
  refine (is_any F _).mono ?_
  rintro e w1 ⟨rfl, hb1⟩
  have s1 : w.heap.size < w1.heap.size := by have := hb1.size; simp at this; omega
  have b0 := row_below a0 hb1 (by simp)
  have B0 : Below w.heap.size w w1 := (((Below.refl _ _).alloc (Nat.le_refl _) _)).trans (hb1.mono (by simp))
  clear a0 hb1
  have p0 := b0.cell (i := 0) (by omega)
  have p1 := b0.cell (i := 1) (by omega)
  have p2 := b0.cell (i := 2) (by omega)
  have p3 := b0.cell (i := 3) (by omega)
  have p4 := b0.cell (i := 4) (by omega)
  go_wp2_with fail
  go_loopw [4, 5] (fun s4 s5 wr => ∃ (k g : Nat), k ≤ o ∧ s4 = .int .i64 ((k : Int) + 1) ∧ s5 = .pointer (some ⟨g, 0, none⟩) ∧ w.heap.size < g ∧ wr.rowIs w.heap.size 22 5 (fun x => .int .i64 (F x)) ∧ wr.rowIs g 22 5 (fun x => .int .i64 (pw F k x)) ∧ Below w.heap.size w wr) (fun s4 _ _ => o + 1 - (intOf s4).toNat)
  case atStart => exact ⟨0, w1.heap.size, Nat.zero_le _, by rfl, by rfl, s1, b0.alloc _, row5 w1 _ _ _ _ _ _ _ rfl rfl rfl rfl rfl, B0.alloc (by omega) _⟩
  case round =>
    obtain ⟨wo, rfl⟩ : ∃ wo : World, wo = wr := ⟨_, rfl⟩
    obtain ⟨k, g, hk, rfl, rfl, hg, r0, r1, hbel⟩ := hrel
    clear p0 p1 p2 p3 p4 b0
    have sg := r1.lt
    have s0 := r0.lt
    have p0 := r0.cell (i := 0) (by omega)
    have p1 := r0.cell (i := 1) (by omega)
    have p2 := r0.cell (i := 2) (by omega)
    have p3 := r0.cell (i := 3) (by omega)
    have p4 := r0.cell (i := 4) (by omega)
    have q0 := r1.cell (i := 0) (by omega)
    have q1 := r1.cell (i := 1) (by omega)
    have q2 := r1.cell (i := 2) (by omega)
    have q3 := r1.cell (i := 3) (by omega)
    have q4 := r1.cell (i := 4) (by omega)
    have eq5 := eqI5id (pw F k)
    by_cases hko : k < o
    · have he := eqB_no (HO.out.2 k hko)
      have HE := Lib.hid hko
      go_wp2_with fail
      refine (then_any (pw F k) F _ (pw_bd HF.out.1 k)).mono ?_
      rintro e w2 ⟨rfl, hb2⟩
      have t0 := row_below (r0.alloc (.cells #[.int .i64 (pw F k 0), .int .i64 (pw F k 1), .int .i64 (pw F k 2), .int .i64 (pw F k 3), .int .i64 (pw F k 4)] 22)) hb2 (by simp; omega)
      have t1 := row_below (row5 wo 22 (.int .i64 (pw F k 0)) (.int .i64 (pw F k 1)) (.int .i64 (pw F k 2)) (.int .i64 (pw F k 3)) (.int .i64 (pw F k 4)) (fun x => .int .i64 (pw F k x)) rfl rfl rfl rfl rfl) hb2 (by simp)
      have B2 : Below w.heap.size w w2 := (hbel.alloc (by omega) _).trans (hb2.mono (by simp; omega))
      have s2 : wo.heap.size < w2.heap.size := by have := hb2.size; simp at this; omega
      have c0 := t1.cell (i := 0) (by omega)
      have c1 := t1.cell (i := 1) (by omega)
      have c2 := t1.cell (i := 2) (by omega)
      have c3 := t1.cell (i := 3) (by omega)
      have c4 := t1.cell (i := 4) (by omega)
      have z0 := t1.frozen 0
      have z1 := t1.frozen 1
      have z2 := t1.frozen 2
      have z3 := t1.frozen 3
      have z4 := t1.frozen 4
      clear p0 p1 p2 p3 p4 q0 q1 q2 q3 q4 hb2
      go_wp2_with fail
      go_roundw
      case rel => exact ⟨k + 1, wo.heap.size, by omega, by go_num, by rfl, by omega, ((((t0.setOther (by simp; omega) _).setOther (by simp; omega) _).setOther (by simp; omega) _).setOther (by simp; omega) _).setOther (by simp; omega) _, (((((t1.set 0 _).set 1 _).set 2 _).set 3 _).set 4 _).congr (fun j hj => by
        match j, hj with
        | 0, _ => simp [pw]
        | 1, _ => simp [pw]
        | 2, _ => simp [pw]
        | 3, _ => simp [pw]
        | 4, _ => simp [pw]), ((((B2.setCell (by simp; omega) _).setCell (by simp; omega) _).setCell (by simp; omega) _).setCell (by simp; omega) _).setCell (by simp; omega) _⟩
      case measure => simp [intOf]; omega
    · obtain rfl : k = o := by omega
      have he := eqB_iff.2 HO.out.1
      go_wp2_with fail
      go_ret2
      exact ⟨rfl, hbel⟩
end Go.Proofs.Ytmhicimjoidonaa
