/- What wide.is and wide.then compute, five places as a function of the index. Conditions: as each theorem states. -/
import Derived.Test.YtmhicimjoidonaaLib
import Derived.Test.YtmhicimjoidonaaWideMath
import Derived.WalkSpells
import Derived.WalkLawsBesides
namespace Go.Proofs.Ytmhicimjoidonaa
open Go.ChangeShapes Go.WideShapes Go.ChangeAt Go.RowKit
set_option linter.unusedVariables false
def isB (F : Nat → Int) : Bool := decide (perm F)
theorem isB_iff {F : Nat → Int} : isB F = true ↔ perm F := by simp [isB]
theorem isB_no {F : Nat → Int} (h : ¬ perm F) : isB F = false := by simp [isB, h]
def sn (F : Nat → Int) (k x : Nat) : Bool := decide (∃ i, i < k ∧ F i = x)
theorem sn_zero (F : Nat → Int) (x : Nat) : sn F 0 x = false := by simp [sn]
theorem sn_succ (F : Nat → Int) (k x : Nat) : sn F (k + 1) x = (sn F k x || decide (F k = x)) := by
  unfold sn
  rw [← Bool.decide_or, decide_eq_decide]
  constructor
  · rintro ⟨i, hi, e⟩
    by_cases h : i = k
    · subst h; exact .inr e
    · exact .inl ⟨i, by omega, e⟩
  · rintro (⟨i, hi, e⟩ | e)
    · exact ⟨i, by omega, e⟩
    · exact ⟨k, by omega, e⟩
theorem ix5 (a b c d e : Value) (k : Nat) (hk : k < 5) (W : World) : (Instr.index 22 (.agg #[a, b, c, d, e]) (.int .i64 (k : Int))).run Try.prog W = .ok (match k with | 0 => a | 1 => b | 2 => c | 3 => d | _ => e) W := by
  match k, hk with
  | 0, _ => rfl
  | 1, _ => rfl
  | 2, _ => rfl
  | 3, _ => rfl
  | 4, _ => rfl
theorem ix5F (F : Nat → Int) (k : Nat) (hk : k < 5) (W : World) : (Instr.index 22 (.agg #[.int .i64 (F 0), .int .i64 (F 1), .int .i64 (F 2), .int .i64 (F 3), .int .i64 (F 4)]) (.int .i64 (k : Int))).run Try.prog W = .ok (.int .i64 (F k)) W := by
  rw [ix5 _ _ _ _ _ k hk W]
  match k, hk with
  | 0, _ => rfl
  | 1, _ => rfl
  | 2, _ => rfl
  | 3, _ => rfl
  | 4, _ => rfl
theorem row5 (w : World) (t : TypeId) (a b c d e : Value) (F : Nat → Value) (h0 : F 0 = a) (h1 : F 1 = b) (h2 : F 2 = c) (h3 : F 3 = d) (h4 : F 4 = e) : (w.alloc (.cells #[a, b, c, d, e] t)).rowIs w.heap.size t 5 F :=
  World.rowIs_alloc w #[a, b, c, d, e] t F fun i hi => by
    have : i < 5 := hi
    match i, this with
    | 0, _ => simp [h0]
    | 1, _ => simp [h1]
    | 2, _ => simp [h2]
    | 3, _ => simp [h3]
    | 4, _ => simp [h4]
set_option maxRecDepth 100000 in
theorem is_any (F : Nat → Int) (w : World) :
    Calls Try.prog 14 #[.agg #[.int .i64 (F 0), .int .i64 (F 1), .int .i64 (F 2), .int .i64 (F 3), .int .i64 (F 4)]] w fun e w' => e = .returned (.bool (isB F)) ∧ Below w.heap.size w w' := by
  go_enter Try.func14, Try.ntmps14
  go_wp2_with fail
  go_loopw [7] (fun i wr => ∃ k : Nat, k ≤ 5 ∧ i = .int .i64 k ∧ (∀ j, j < k → (0 ≤ F j ∧ F j ≤ 4) ∧ ∀ i, i < j → F i ≠ F j) ∧ wr.rowIs (w.heap.size + 1) 48 5 (fun x => .bool (sn F k x)) ∧ Below w.heap.size w wr) (fun i _ => 5 - (intOf i).toNat)
  case atStart => exact ⟨0, Nat.zero_le _, rfl, fun j hj => absurd hj (Nat.not_lt_zero _), by
    have := row5 (w.alloc (.cells #[.int .i64 (F 0), .int .i64 (F 1), .int .i64 (F 2), .int .i64 (F 3), .int .i64 (F 4)] 22)) 48 (.bool false) (.bool false) (.bool false) (.bool false) (.bool false) (fun x => .bool (sn F 0 x)) (by simp [sn_zero]) (by simp [sn_zero]) (by simp [sn_zero]) (by simp [sn_zero]) (by simp [sn_zero])
    simpa using this, ((Below.refl _ _).alloc (Nat.le_refl _) _).alloc (by simp) _⟩
  case round =>
    obtain ⟨k, hk, rfl, hall0, hrow, hbel⟩ := hrel
    have hall := Lib.hid hall0
    clear hall0
    by_cases hlt : k < 5
    · have ix := ix5F F k hlt
      by_cases h0 : F k < 0
      · go_wp2_with fail
        go_ret
        exact ⟨ret_bool (isB_no fun hh => by have := hh.1 k hlt; omega).symm, hbel⟩
      · by_cases h4 : 4 < F k
        · go_wp2_with fail
          go_ret
          exact ⟨ret_bool (isB_no fun hh => by have := hh.1 k hlt; omega).symm, hbel⟩
        · have hcell := hrow.cell (i := (F k).toNat) (by omega)
          have hfrz := hrow.frozen (F k).toNat
          have hcast : (((F k).toNat : Nat) : Int) = F k := by omega
          have HC := Lib.hid hcast
          have hsz := hrow.lt
          clear hcast
          by_cases hs : sn F k (F k).toNat = true
          · rw [hs] at hcell
            have HS := Lib.hid hs
            clear hs
            go_wp2_with fail
            go_ret
            exact ⟨ret_bool (isB_no fun hh => by
              have := HS.out
              simp only [sn, decide_eq_true_eq] at this
              obtain ⟨i, hi, e⟩ := this
              exact hh.2 k hlt i hi (by rw [e, HC.out])).symm, hbel⟩
          · have hs' : sn F k (F k).toNat = false := by simpa using hs
            rw [hs'] at hcell
            have HS := Lib.hid hs'
            clear hs hs'
            go_wp2_with fail
            go_roundw
            case rel => exact ⟨k + 1, by omega, by go_num, fun j hj => by
              by_cases e : j = k
              · subst e
                refine ⟨⟨by omega, by omega⟩, fun i hi hh => ?_⟩
                have := HS.out
                simp only [sn, decide_eq_false_iff_not] at this
                exact this ⟨i, hi, by rw [hh, HC.out]⟩
              · exact hall.out j (by omega), (hrow.set _ _).congr (fun x hx => by
                rw [sn_succ]
                by_cases e : x = (F k).toNat
                · subst e; simp [HC.out]
                · have : ¬ F k = x := by omega
                  simp [e, this]), hbel.setCell (by simp) _⟩
            case measure => simp [intOf]; omega
    · obtain rfl : k = 5 := by omega
      go_wp2_with fail
      go_ret
      exact ⟨ret_bool (isB_iff.2 ⟨fun i hi => (hall.out i hi).1, fun j hj i hi => (hall.out j hj).2 i hi⟩).symm, hbel⟩
set_option maxRecDepth 100000 in
theorem then_any (F G : Nat → Int) (w : World) (hF : ∀ i, i < 5 → 0 ≤ F i ∧ F i ≤ 4) :
    Calls Try.prog 15 #[.agg #[.int .i64 (F 0), .int .i64 (F 1), .int .i64 (F 2), .int .i64 (F 3), .int .i64 (F 4)], .agg #[.int .i64 (G 0), .int .i64 (G 1), .int .i64 (G 2), .int .i64 (G 3), .int .i64 (G 4)]] w fun e w' => e = .returned (.agg #[.int .i64 (cmp F G 0), .int .i64 (cmp F G 1), .int .i64 (cmp F G 2), .int .i64 (cmp F G 3), .int .i64 (cmp F G 4)]) ∧ Below w.heap.size w w' := by
  have HF := Lib.hid hF
  clear hF
  go_enter Try.func15, Try.ntmps15
  go_wp2_with fail
  go_loopw [9] (fun i wr => ∃ k : Nat, k ≤ 5 ∧ i = .int .i64 k ∧ wr.rowIs (w.heap.size + 1) 22 5 (fun x => .int .i64 (G x)) ∧ wr.rowIs (w.heap.size + 1 + 1) 22 5 (fun x => .int .i64 0) ∧ wr.rowIs (w.heap.size + 1 + 1 + 1) 22 5 (fun x => .int .i64 (if x < k then cmp F G x else 0)) ∧ Below w.heap.size w wr) (fun i _ => 5 - (intOf i).toNat)
  case atStart =>
    have r1 := row5 (w.alloc (.cells #[.int .i64 (F 0), .int .i64 (F 1), .int .i64 (F 2), .int .i64 (F 3), .int .i64 (F 4)] 22)) 22 (.int .i64 (G 0)) (.int .i64 (G 1)) (.int .i64 (G 2)) (.int .i64 (G 3)) (.int .i64 (G 4)) (fun x => .int .i64 (G x)) rfl rfl rfl rfl rfl
    have r2 := row5 ((w.alloc (.cells #[.int .i64 (F 0), .int .i64 (F 1), .int .i64 (F 2), .int .i64 (F 3), .int .i64 (F 4)] 22)).alloc (.cells #[.int .i64 (G 0), .int .i64 (G 1), .int .i64 (G 2), .int .i64 (G 3), .int .i64 (G 4)] 22)) 22 (.int .i64 0) (.int .i64 0) (.int .i64 0) (.int .i64 0) (.int .i64 0) (fun x => .int .i64 0) rfl rfl rfl rfl rfl
    have r3 := row5 (((w.alloc (.cells #[.int .i64 (F 0), .int .i64 (F 1), .int .i64 (F 2), .int .i64 (F 3), .int .i64 (F 4)] 22)).alloc (.cells #[.int .i64 (G 0), .int .i64 (G 1), .int .i64 (G 2), .int .i64 (G 3), .int .i64 (G 4)] 22)).alloc (.cells #[.int .i64 0, .int .i64 0, .int .i64 0, .int .i64 0, .int .i64 0] 22)) 22 (.int .i64 0) (.int .i64 0) (.int .i64 0) (.int .i64 0) (.int .i64 0) (fun x => .int .i64 (if x < 0 then cmp F G x else 0)) (by simp) (by simp) (by simp) (by simp) (by simp)
    simp at r1 r2 r3
    refine ⟨0, Nat.zero_le _, rfl, (r1.alloc _).alloc _, r2.alloc _, by simpa using r3, ((((Below.refl _ _).alloc (Nat.le_refl _) _).alloc (by simp) _).alloc (by simp; omega) _).alloc (by simp; omega) _⟩
  case round =>
    obtain ⟨k, hk, rfl, hrow1, hrow2, hrow3, hbel⟩ := hrel
    have hsz := hrow3.lt
    by_cases hlt : k < 5
    · have ix := ix5F F k hlt
      obtain ⟨f0, f4⟩ := HF.out k hlt
      have c1 := hrow1.cell (i := (F k).toNat) (by omega)
      have c3 := hrow3.cell (i := k) hlt
      have z3 := hrow3.frozen k
      go_wp2_with fail
      go_roundw
      case rel => exact ⟨k + 1, by omega, by go_num, hrow1.setOther (by simp) _, hrow2.setOther (by simp) _, (hrow3.set k _).congr (fun x hx => by
        by_cases e : x = k
        · subst e; simp [cmp]
        · by_cases e2 : x < k
          · simp [e, e2, show x < k + 1 by omega]
          · simp [e, e2, show ¬ x < k + 1 by omega]), hbel.setCell (by simp; omega) _⟩
      case measure => simp [intOf]; omega
    · obtain rfl : k = 5 := by omega
      have p0 := hrow3.cell (i := 0) (by omega)
      have p1 := hrow3.cell (i := 1) (by omega)
      have p2 := hrow3.cell (i := 2) (by omega)
      have p3 := hrow3.cell (i := 3) (by omega)
      have p4 := hrow3.cell (i := 4) (by omega)
      have c0 := hrow2.cell (i := 0) (by omega)
      have c1 := hrow2.cell (i := 1) (by omega)
      have c2 := hrow2.cell (i := 2) (by omega)
      have c3 := hrow2.cell (i := 3) (by omega)
      have c4 := hrow2.cell (i := 4) (by omega)
      have z0 := hrow2.frozen 0
      have z1 := hrow2.frozen 1
      have z2 := hrow2.frozen 2
      have z3 := hrow2.frozen 3
      have z4 := hrow2.frozen 4
      simp only [show (0 : Nat) < 5 from by omega, show (1 : Nat) < 5 from by omega, show (2 : Nat) < 5 from by omega, show (3 : Nat) < 5 from by omega, show (4 : Nat) < 5 from by omega, if_true] at p0 p1 p2 p3 p4
      go_wp2_with fail
      exact bodyPost_ret (v := .agg #[.int .i64 (cmp F G 0), .int .i64 (cmp F G 1), .int .i64 (cmp F G 2), .int .i64 (cmp F G 3), .int .i64 (cmp F G 4)]) (by simp [results, Try.results15, go_sem, c0, c1, c2, c3, c4]) rfl ⟨rfl, ((((hbel.setCell (by simp; omega) _).setCell (by simp; omega) _).setCell (by simp; omega) _).setCell (by simp; omega) _).setCell (by simp; omega) _⟩
theorem three5 (w : World) (F G : Nat → Int) :
    ((((w.alloc (.cells #[.int .i64 (F 0), .int .i64 (F 1), .int .i64 (F 2), .int .i64 (F 3), .int .i64 (F 4)] 22)).alloc (.cells #[.int .i64 (G 0), .int .i64 (G 1), .int .i64 (G 2), .int .i64 (G 3), .int .i64 (G 4)] 22)).alloc (.cells #[.int .i64 0, .int .i64 0, .int .i64 0, .int .i64 0, .int .i64 0] 22)).rowIs w.heap.size 22 5 (fun x => .int .i64 (F x))) ∧
    ((((w.alloc (.cells #[.int .i64 (F 0), .int .i64 (F 1), .int .i64 (F 2), .int .i64 (F 3), .int .i64 (F 4)] 22)).alloc (.cells #[.int .i64 (G 0), .int .i64 (G 1), .int .i64 (G 2), .int .i64 (G 3), .int .i64 (G 4)] 22)).alloc (.cells #[.int .i64 0, .int .i64 0, .int .i64 0, .int .i64 0, .int .i64 0] 22)).rowIs (w.heap.size + 1) 22 5 (fun x => .int .i64 (G x))) ∧
    ((((w.alloc (.cells #[.int .i64 (F 0), .int .i64 (F 1), .int .i64 (F 2), .int .i64 (F 3), .int .i64 (F 4)] 22)).alloc (.cells #[.int .i64 (G 0), .int .i64 (G 1), .int .i64 (G 2), .int .i64 (G 3), .int .i64 (G 4)] 22)).alloc (.cells #[.int .i64 0, .int .i64 0, .int .i64 0, .int .i64 0, .int .i64 0] 22)).rowIs (w.heap.size + 1 + 1) 22 5 (fun x => .int .i64 0)) := by
  have r0 := row5 w 22 (.int .i64 (F 0)) (.int .i64 (F 1)) (.int .i64 (F 2)) (.int .i64 (F 3)) (.int .i64 (F 4)) (fun x => .int .i64 (F x)) rfl rfl rfl rfl rfl
  have r1 := row5 (w.alloc (.cells #[.int .i64 (F 0), .int .i64 (F 1), .int .i64 (F 2), .int .i64 (F 3), .int .i64 (F 4)] 22)) 22 (.int .i64 (G 0)) (.int .i64 (G 1)) (.int .i64 (G 2)) (.int .i64 (G 3)) (.int .i64 (G 4)) (fun x => .int .i64 (G x)) rfl rfl rfl rfl rfl
  have r2 := row5 ((w.alloc (.cells #[.int .i64 (F 0), .int .i64 (F 1), .int .i64 (F 2), .int .i64 (F 3), .int .i64 (F 4)] 22)).alloc (.cells #[.int .i64 (G 0), .int .i64 (G 1), .int .i64 (G 2), .int .i64 (G 3), .int .i64 (G 4)] 22)) 22 (.int .i64 0) (.int .i64 0) (.int .i64 0) (.int .i64 0) (.int .i64 0) (fun x => .int .i64 0) rfl rfl rfl rfl rfl
  simp at r1 r2
  exact ⟨(r0.alloc _).alloc _, r1.alloc _, r2⟩
set_option maxRecDepth 100000 in
theorem Then_any (F G : Nat → Int) (w : World) (hF : perm F) (hG : perm G) :
    Calls Try.prog 6 #[.agg #[.int .i64 (F 0), .int .i64 (F 1), .int .i64 (F 2), .int .i64 (F 3), .int .i64 (F 4)], .agg #[.int .i64 (G 0), .int .i64 (G 1), .int .i64 (G 2), .int .i64 (G 3), .int .i64 (G 4)]] w fun e w' => e = .returned (.tuple #[.agg #[.int .i64 (cmp F G 0), .int .i64 (cmp F G 1), .int .i64 (cmp F G 2), .int .i64 (cmp F G 3), .int .i64 (cmp F G 4)], .int .i64 0]) ∧ Below w.heap.size w w' := by
  have i1 := isB_iff.2 hF
  have i2 := isB_iff.2 hG
  have HF := Lib.hid hF
  obtain ⟨a0, a1, a2⟩ := three5 w F G
  clear hF hG
  go_enter Try.func6, Try.ntmps6
  go_wp2_with fail
  refine (is_any F _).mono ?_
  rintro e w1 ⟨rfl, hb1⟩
  have s1 : w.heap.size + 1 + 1 < w1.heap.size := by have := hb1.size; simp at this; omega
  have b0 := row_below a0 hb1 (by simp; omega)
  have b1 := row_below a1 hb1 (by simp)
  have b2 := row_below a2 hb1 (by simp)
  have p0 := b1.cell (i := 0) (by omega)
  have p1 := b1.cell (i := 1) (by omega)
  have p2 := b1.cell (i := 2) (by omega)
  have p3 := b1.cell (i := 3) (by omega)
  have p4 := b1.cell (i := 4) (by omega)
  have B0 : Below w.heap.size w w1 := (((((Below.refl _ _).alloc (Nat.le_refl _) _).alloc (by simp) _).alloc (by simp; omega) _)).trans (hb1.mono (by simp; omega))
  clear a0 a1 a2 hb1
  go_wp2_with fail
  refine (is_any G _).mono ?_
  rintro e w2 ⟨rfl, hb2⟩
  have s2 : w.heap.size + 1 + 1 < w2.heap.size := by have := hb2.size; omega
  have c0 := row_below b0 hb2 (by omega)
  have c1 := row_below b1 hb2 (by omega)
  have c2 := row_below b2 hb2 (by omega)
  have B2 := B0.trans (hb2.mono B0.size)
  clear p0 p1 p2 p3 p4 b0 b1 b2 hb2 B0 s1
  have p0 := c0.cell (i := 0) (by omega)
  have p1 := c0.cell (i := 1) (by omega)
  have p2 := c0.cell (i := 2) (by omega)
  have p3 := c0.cell (i := 3) (by omega)
  have p4 := c0.cell (i := 4) (by omega)
  have q0 := c1.cell (i := 0) (by omega)
  have q1 := c1.cell (i := 1) (by omega)
  have q2 := c1.cell (i := 2) (by omega)
  have q3 := c1.cell (i := 3) (by omega)
  have q4 := c1.cell (i := 4) (by omega)
  go_wp2_with fail
  refine (then_any F G _ HF.out.1).mono ?_
  rintro e w3 ⟨rfl, hb3⟩
  have s3 : w.heap.size + 1 + 1 < w3.heap.size := by have := hb3.size; omega
  have d2 := row_below c2 hb3 (by omega)
  have B3 := B2.trans (hb3.mono B2.size)
  clear p0 p1 p2 p3 p4 q0 q1 q2 q3 q4 c0 c1 c2 hb3 B2 s2
  have p0 := d2.cell (i := 0) (by omega)
  have p1 := d2.cell (i := 1) (by omega)
  have p2 := d2.cell (i := 2) (by omega)
  have p3 := d2.cell (i := 3) (by omega)
  have p4 := d2.cell (i := 4) (by omega)
  have z0 := d2.frozen 0
  have z1 := d2.frozen 1
  have z2 := d2.frozen 2
  have z3 := d2.frozen 3
  have z4 := d2.frozen 4
  go_wp2_with fail
  exact bodyPost_ret (v := .tuple #[.agg #[.int .i64 (cmp F G 0), .int .i64 (cmp F G 1), .int .i64 (cmp F G 2), .int .i64 (cmp F G 3), .int .i64 (cmp F G 4)], .int .i64 0]) (by simp [results, Try.results6, go_sem, p0, p1, p2, p3, p4]) rfl ⟨rfl, ((((B3.setCell (by simp; omega) _).setCell (by simp; omega) _).setCell (by simp; omega) _).setCell (by simp; omega) _).setCell (by simp; omega) _⟩
end Go.Proofs.Ytmhicimjoidonaa
