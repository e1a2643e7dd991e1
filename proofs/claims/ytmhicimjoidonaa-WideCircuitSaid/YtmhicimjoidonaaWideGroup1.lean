/- wide.Then at whatever arguments, and what the references' Change, Then and Same compute. Conditions: as each theorem states. -/
import Derived.Test.YtmhicimjoidonaaWideGroup0
namespace Go.Proofs.Ytmhicimjoidonaa
open Go.ChangeShapes Go.WideShapes Go.ChangeAt Go.RowKit
set_option linter.unusedVariables false
theorem cells5 {w : World} {g : Nat} {t : TypeId} {F : Nat → Value} (h : w.rowIs g t 5 F) :
    w.cell? ⟨g, 0, none⟩ = some (F 0) ∧ w.cell? ⟨g, 1, none⟩ = some (F 1) ∧ w.cell? ⟨g, 2, none⟩ = some (F 2) ∧ w.cell? ⟨g, 3, none⟩ = some (F 3) ∧ w.cell? ⟨g, 4, none⟩ = some (F 4) :=
  ⟨h.cell (by omega), h.cell (by omega), h.cell (by omega), h.cell (by omega), h.cell (by omega)⟩
def zeroF : Nat → Int := fun _ => 0
def thF (F G : Nat → Int) : Nat → Int := if perm F ∧ perm G then cmp F G else zeroF
def thE (F G : Nat → Int) : Int := if perm F ∧ perm G then 0 else 3
set_option maxRecDepth 100000 in
theorem Then_bad (F G : Nat → Int) (w : World) (h : ¬ (perm F ∧ perm G)) :
    Calls Try.prog 6 #[.agg #[.int .i64 (F 0), .int .i64 (F 1), .int .i64 (F 2), .int .i64 (F 3), .int .i64 (F 4)], .agg #[.int .i64 (G 0), .int .i64 (G 1), .int .i64 (G 2), .int .i64 (G 3), .int .i64 (G 4)]] w fun e w' => e = .returned (.tuple #[.agg #[.int .i64 (zeroF 0), .int .i64 (zeroF 1), .int .i64 (zeroF 2), .int .i64 (zeroF 3), .int .i64 (zeroF 4)], .int .i64 3]) ∧ Below w.heap.size w w' := by
  obtain ⟨a0, a1, a2⟩ := three5 w F G
  by_cases hF : perm F
  · have hG : ¬ perm G := fun hh => h ⟨hF, hh⟩
    have i1 := isB_iff.2 hF
    have i2 := isB_no hG
    clear h hF hG
    go_enter Try.func6, Try.ntmps6
    go_wp2_with fail
    refine (is_any F _).mono ?_
    rintro e w1 ⟨rfl, hb1⟩
    have s1 : w.heap.size + 1 + 1 < w1.heap.size := by have := hb1.size; simp at this; omega
    have b1 := row_below a1 hb1 (by simp)
    have b2 := row_below a2 hb1 (by simp)
    have B0 : Below w.heap.size w w1 := (((((Below.refl _ _).alloc (Nat.le_refl _) _).alloc (by simp) _).alloc (by simp; omega) _)).trans (hb1.mono (by simp; omega))
    obtain ⟨p0, p1, p2, p3, p4⟩ := cells5 b1
    clear a0 a1 a2 hb1
    go_wp2_with fail
    refine (is_any G _).mono ?_
    rintro e w2 ⟨rfl, hb2⟩
    have d2 := row_below b2 hb2 (by omega)
    have s2 : w.heap.size + 1 + 1 < w2.heap.size := by have := hb2.size; omega
    have B3 := B0.trans (hb2.mono B0.size)
    clear p0 p1 p2 p3 p4 b1 b2 hb2 B0
    obtain ⟨p0, p1, p2, p3, p4⟩ := cells5 d2
    have z0 := d2.frozen 0
    have z1 := d2.frozen 1
    have z2 := d2.frozen 2
    have z3 := d2.frozen 3
    have z4 := d2.frozen 4
    go_wp2_with fail
    exact bodyPost_ret (v := .tuple #[.agg #[.int .i64 (zeroF 0), .int .i64 (zeroF 1), .int .i64 (zeroF 2), .int .i64 (zeroF 3), .int .i64 (zeroF 4)], .int .i64 3]) (by simp [results, Try.results6, go_sem, p0, p1, p2, p3, p4, zeroF]) rfl ⟨rfl, ((((B3.setCell (by simp; omega) _).setCell (by simp; omega) _).setCell (by simp; omega) _).setCell (by simp; omega) _).setCell (by simp; omega) _⟩
  · have i1 := isB_no hF
    clear h hF
    go_enter Try.func6, Try.ntmps6
    go_wp2_with fail
    refine (is_any F _).mono ?_
    rintro e w2 ⟨rfl, hb1⟩
    have s2 : w.heap.size + 1 + 1 < w2.heap.size := by have := hb1.size; simp at this; omega
    have d2 := row_below a2 hb1 (by simp)
    have B3 : Below w.heap.size w w2 := (((((Below.refl _ _).alloc (Nat.le_refl _) _).alloc (by simp) _).alloc (by simp; omega) _)).trans (hb1.mono (by simp; omega))
    clear a0 a1 a2 hb1
    obtain ⟨p0, p1, p2, p3, p4⟩ := cells5 d2
    have z0 := d2.frozen 0
    have z1 := d2.frozen 1
    have z2 := d2.frozen 2
    have z3 := d2.frozen 3
    have z4 := d2.frozen 4
    go_wp2_with fail
    exact bodyPost_ret (v := .tuple #[.agg #[.int .i64 (zeroF 0), .int .i64 (zeroF 1), .int .i64 (zeroF 2), .int .i64 (zeroF 3), .int .i64 (zeroF 4)], .int .i64 3]) (by simp [results, Try.results6, go_sem, p0, p1, p2, p3, p4, zeroF]) rfl ⟨rfl, ((((B3.setCell (by simp; omega) _).setCell (by simp; omega) _).setCell (by simp; omega) _).setCell (by simp; omega) _).setCell (by simp; omega) _⟩
theorem Then_all (F G : Nat → Int) (w : World) :
    Calls Try.prog 6 #[.agg #[.int .i64 (F 0), .int .i64 (F 1), .int .i64 (F 2), .int .i64 (F 3), .int .i64 (F 4)], .agg #[.int .i64 (G 0), .int .i64 (G 1), .int .i64 (G 2), .int .i64 (G 3), .int .i64 (G 4)]] w fun e w' => e = .returned (.tuple #[.agg #[.int .i64 (thF F G 0), .int .i64 (thF F G 1), .int .i64 (thF F G 2), .int .i64 (thF F G 3), .int .i64 (thF F G 4)], .int .i64 (thE F G)]) ∧ Below w.heap.size w w' := by
  unfold thF thE
  by_cases h : perm F ∧ perm G
  · rw [if_pos h, if_pos h]; exact Then_any F G w h.1 h.2
  · rw [if_neg h, if_neg h]; exact Then_bad F G w h
set_option maxRecDepth 100000 in
theorem change_any (F : Nat → Int) (w : World) :
    Calls Try.prog 7 #[.agg #[.int .i64 (F 0), .int .i64 (F 1), .int .i64 (F 2), .int .i64 (F 3), .int .i64 (F 4)]] w fun e w' => e = .returned (.bool (isB F)) ∧ Below w.heap.size w w' := by
  have a0 := row5 w 22 (.int .i64 (F 0)) (.int .i64 (F 1)) (.int .i64 (F 2)) (.int .i64 (F 3)) (.int .i64 (F 4)) (fun x => .int .i64 (F x)) rfl rfl rfl rfl rfl
  go_enter Try.func7, Try.ntmps7
  go_wp2_with fail
  go_loop [3] (fun s3 => ∃ x : Nat, x ≤ 5 ∧ s3 = .int .i64 x ∧ ∀ y : Nat, y < x → cnt F y 5 = 1) (fun s3 => 5 - (intOf s3).toNat)
  case atStart => exact ⟨0, Nat.zero_le _, rfl, fun y hy => absurd hy (Nat.not_lt_zero _)⟩
  case round =>
    obtain ⟨x, hx, rfl, hall0⟩ := hrel
    have hall := Lib.hid hall0
    clear hall0
    by_cases hlt : x < 5
    · go_wp2_with fail
      go_loop [4, 5] (fun s4 s5 => ∃ k : Nat, k ≤ 5 ∧ s5 = .int .i64 k ∧ s4 = .int .i64 (cnt F x k)) (fun _ s5 => 5 - (intOf s5).toNat)
      case atStart => exact ⟨0, Nat.zero_le _, rfl, rfl⟩
      case round =>
        obtain ⟨k, hk, rfl, rfl⟩ := hrel
        have hc := cnt_nonneg F x k
        obtain ⟨hc0, hc1⟩ := hc
        by_cases hlk : k < 5
        · have hcell := a0.cell (i := k) hlk
          by_cases he : F k = x
          · have hq : (F k == (x : Int)) = true := by simp [he]
            have e1 : cnt F x (k + 1) = cnt F x k + 1 := by simp only [cnt, he, if_true]
            have E1 := Lib.hid e1
            clear he e1
            go_wp2_with fail
            go_round
            case rel => exact ⟨k + 1, by omega, by go_num, by rw [E1.out]⟩
            case measure => simp [intOf]; omega
          · have hq : (F k == (x : Int)) = false := by simp [he]
            have e1 : cnt F x (k + 1) = cnt F x k := by simp only [cnt, he, if_false, Int.add_zero]
            have E1 := Lib.hid e1
            clear he e1
            go_wp2_with fail
            go_round
            case rel => exact ⟨k + 1, by omega, by go_num, by rw [E1.out]⟩
            case measure => simp [intOf]; omega
        · obtain rfl : k = 5 := by omega
          by_cases h1 : cnt F x 5 = 1
          · have H1 := Lib.hid h1
            rw [h1]
            clear h1 hc0 hc1
            go_wp2_with fail
            go_round
            case rel => exact ⟨x + 1, by omega, by go_num, fun y hy => by
              by_cases e : y = x
              · subst e; exact H1.out
              · exact hall.out y (by omega)⟩
            case measure => simp [intOf]; omega
          · have hq : (cnt F x 5 != 1) = true := by simp [h1]
            have H1 := Lib.hid h1
            clear h1
            go_wp2_with fail
            go_ret
            exact ⟨ret_bool (isB_no fun hh => H1.out (perm_cnt.1 hh x hlt)).symm, (Below.refl _ _).alloc (Nat.le_refl _) _⟩
    · obtain rfl : x = 5 := by omega
      go_wp2_with fail
      go_ret
      exact ⟨ret_bool (isB_iff.2 (perm_cnt.2 hall.out)).symm, (Below.refl _ _).alloc (Nat.le_refl _) _⟩
set_option maxRecDepth 100000 in
theorem same_any (w : World) :
    Calls Try.prog 9 #[] w fun e w' => e = .returned (.agg #[.int .i64 0, .int .i64 1, .int .i64 2, .int .i64 3, .int .i64 4]) ∧ Below w.heap.size w w' := by
  go_enter Try.func9, Try.ntmps9
  go_wp2_with fail
  exact bodyPost_ret (v := .agg #[.int .i64 0, .int .i64 1, .int .i64 2, .int .i64 3, .int .i64 4]) (by simp [results, Try.results9, go_sem]) rfl ⟨rfl, (Below.refl _ _).alloc (Nat.le_refl _) _⟩
set_option maxRecDepth 100000 in
theorem refThen_any (F G : Nat → Int) (w : World) (hF : ∀ i, i < 5 → 0 ≤ F i ∧ F i ≤ 4) :
    Calls Try.prog 10 #[.agg #[.int .i64 (F 0), .int .i64 (F 1), .int .i64 (F 2), .int .i64 (F 3), .int .i64 (F 4)], .agg #[.int .i64 (G 0), .int .i64 (G 1), .int .i64 (G 2), .int .i64 (G 3), .int .i64 (G 4)]] w fun e w' => e = .returned (.agg #[.int .i64 (cmp F G 0), .int .i64 (cmp F G 1), .int .i64 (cmp F G 2), .int .i64 (cmp F G 3), .int .i64 (cmp F G 4)]) ∧ Below w.heap.size w w' := by
  have HF := Lib.hid hF
  clear hF
  obtain ⟨a0, a1, a2⟩ := three5 w F G
  have a3 := row5 (((w.alloc (.cells #[.int .i64 (F 0), .int .i64 (F 1), .int .i64 (F 2), .int .i64 (F 3), .int .i64 (F 4)] 22)).alloc (.cells #[.int .i64 (G 0), .int .i64 (G 1), .int .i64 (G 2), .int .i64 (G 3), .int .i64 (G 4)] 22)).alloc (.cells #[.int .i64 0, .int .i64 0, .int .i64 0, .int .i64 0, .int .i64 0] 22)) 22 (.int .i64 0) (.int .i64 0) (.int .i64 0) (.int .i64 0) (.int .i64 0) (fun x => .int .i64 (if x < 0 then cmp F G x else 0)) (by simp) (by simp) (by simp) (by simp) (by simp)
  simp at a3
  go_enter Try.func10, Try.ntmps10
  go_wp2_with fail
  go_loopw [6] (fun i wr => ∃ k : Nat, k ≤ 5 ∧ i = .int .i64 k ∧ wr.rowIs w.heap.size 22 5 (fun x => .int .i64 (F x)) ∧ wr.rowIs (w.heap.size + 1) 22 5 (fun x => .int .i64 (G x)) ∧ wr.rowIs (w.heap.size + 1 + 1) 22 5 (fun x => .int .i64 0) ∧ wr.rowIs (w.heap.size + 1 + 1 + 1) 22 5 (fun x => .int .i64 (if x < k then cmp F G x else 0)) ∧ Below w.heap.size w wr) (fun i _ => 5 - (intOf i).toNat)
  case atStart => exact ⟨0, Nat.zero_le _, rfl, a0.alloc _, a1.alloc _, a2.alloc _, by simpa using a3, ((((Below.refl _ _).alloc (Nat.le_refl _) _).alloc (by simp) _).alloc (by simp; omega) _).alloc (by simp; omega) _⟩
  case round =>
    clear a0 a1 a2 a3
    obtain ⟨k, hk, rfl, hrow0, hrow1, hrow2, hrow3, hbel⟩ := hrel
    have hsz := hrow3.lt
    by_cases hlt : k < 5
    · obtain ⟨f0, f4⟩ := HF.out k hlt
      have c0 := hrow0.cell (i := k) hlt
      have c1 := hrow1.cell (i := (F k).toNat) (by omega)
      have c3 := hrow3.cell (i := k) hlt
      have z3 := hrow3.frozen k
      go_wp2_with fail
      go_roundw
      case rel => exact ⟨k + 1, by omega, by go_num, hrow0.setOther (by simp; omega) _, hrow1.setOther (by simp) _, hrow2.setOther (by simp) _, (hrow3.set k _).congr (fun x hx => by
        by_cases e : x = k
        · subst e; simp [cmp]
        · by_cases e2 : x < k
          · simp [e, e2, show x < k + 1 by omega]
          · simp [e, e2, show ¬ x < k + 1 by omega]), hbel.setCell (by simp; omega) _⟩
      case measure => simp [intOf]; omega
    · obtain rfl : k = 5 := by omega
      obtain ⟨p0, p1, p2, p3, p4⟩ := cells5 hrow3
      obtain ⟨c0, c1, c2, c3, c4⟩ := cells5 hrow2
      have z0 := hrow2.frozen 0
      have z1 := hrow2.frozen 1
      have z2 := hrow2.frozen 2
      have z3 := hrow2.frozen 3
      have z4 := hrow2.frozen 4
      simp only [show (0 : Nat) < 5 from by omega, show (1 : Nat) < 5 from by omega, show (2 : Nat) < 5 from by omega, show (3 : Nat) < 5 from by omega, show (4 : Nat) < 5 from by omega, if_true] at p0 p1 p2 p3 p4
      go_wp2_with fail
      exact bodyPost_ret (v := .agg #[.int .i64 (cmp F G 0), .int .i64 (cmp F G 1), .int .i64 (cmp F G 2), .int .i64 (cmp F G 3), .int .i64 (cmp F G 4)]) (by simp [results, Try.results10, go_sem, c0, c1, c2, c3, c4]) rfl ⟨rfl, ((((hbel.setCell (by simp; omega) _).setCell (by simp; omega) _).setCell (by simp; omega) _).setCell (by simp; omega) _).setCell (by simp; omega) _⟩
end Go.Proofs.Ytmhicimjoidonaa
