/- What wide.Run computes. Conditions: the slices read as functions. -/
import Derived.Test.YtmhicimjoidonaaWideGroup1
import Derived.Test.YtmhicimjoidonaaFirst
import Derived.BigGuardPart
namespace Go.Proofs.Ytmhicimjoidonaa
open Go.ChangeShapes Go.WideShapes Go.ChangeAt Go.RowKit
set_option linter.unusedVariables false
def noF (F : Nat → Int) (k : Nat) : Nat → Int := fun j => F (11 * k + 1 + j)
def yesF (F : Nat → Int) (k : Nat) : Nat → Int := fun j => F (11 * k + 6 + j)
def tE (inn : Int) (F : Nat → Int) (k : Nat) : Int := if F (11 * k) < 0 ∨ inn ≤ F (11 * k) then 4 else if perm (noF F k) ∧ perm (yesF F k) then 0 else 3
/-- the change of the first k orders -/
def rn (F : Nat → Int) (g : Nat → Bool) : Nat → Nat → Int
  | 0 => idF
  | k + 1 => cmp (rn F g k) (if g (F (11 * k)).toNat then yesF F k else noF F k)
def rE (inn : Int) (F : Nat → Int) (n p : Nat) : Int := if inn < 0 ∨ 5 < inn ∨ 300 < n then 1 else if fstE (tE inn F) n = 0 then (if (p : Int) = inn then 0 else 2) else fstE (tE inn F) n
def rF (inn : Int) (F : Nat → Int) (g : Nat → Bool) (n p : Nat) : Nat → Int := if rE inn F n p = 0 then rn F g n else fun _ => 0
theorem Rd.at11 {w : World} {A : Option Addr} {n : Nat} {F : Nat → Int} (h : Rd w A (n * 11) (fun q => .int .i64 (F q))) {k : Nat} (hk : k < n) :
    ∃ b off, A = some ⟨b, off, none⟩ ∧ b < w.heap.size ∧ w.cell? ⟨b, off + k * 11, none⟩ = some (.int .i64 (F (11 * k))) ∧
      (w.cell? ⟨b, off + k * 11 + 1, none⟩ = some (.int .i64 (noF F k 0)) ∧ w.cell? ⟨b, off + k * 11 + 2, none⟩ = some (.int .i64 (noF F k 1)) ∧ w.cell? ⟨b, off + k * 11 + 3, none⟩ = some (.int .i64 (noF F k 2)) ∧ w.cell? ⟨b, off + k * 11 + 4, none⟩ = some (.int .i64 (noF F k 3)) ∧ w.cell? ⟨b, off + k * 11 + 5, none⟩ = some (.int .i64 (noF F k 4))) ∧
      (w.cell? ⟨b, off + k * 11 + 6, none⟩ = some (.int .i64 (yesF F k 0)) ∧ w.cell? ⟨b, off + k * 11 + 7, none⟩ = some (.int .i64 (yesF F k 1)) ∧ w.cell? ⟨b, off + k * 11 + 8, none⟩ = some (.int .i64 (yesF F k 2)) ∧ w.cell? ⟨b, off + k * 11 + 9, none⟩ = some (.int .i64 (yesF F k 3)) ∧ w.cell? ⟨b, off + k * 11 + 10, none⟩ = some (.int .i64 (yesF F k 4))) := by
  obtain ⟨b, off, e, hb, hc⟩ := h (by omega)
  have e0 : k * 11 = 11 * k := Nat.mul_comm _ _
  have at_ : ∀ j, j < 11 → w.cell? ⟨b, off + k * 11 + j, none⟩ = some (.int .i64 (F (11 * k + j))) := fun j hj => by
    rw [e0, Nat.add_assoc]; exact hc _ (by omega)
  exact ⟨b, off, e, hb, at_ 0 (by omega), ⟨at_ 1 (by omega), at_ 2 (by omega), at_ 3 (by omega), at_ 4 (by omega), at_ 5 (by omega)⟩, at_ 6 (by omega), at_ 7 (by omega), at_ 8 (by omega), at_ 9 (by omega), at_ 10 (by omega)⟩
theorem bcell {W w1 : World} (hb : Below W.heap.size W w1) : (∀ b o, b < W.heap.size → w1.cell? ⟨b, o, none⟩ = W.cell? ⟨b, o, none⟩) ∧ (∀ b o, b < W.heap.size → w1.frozen? ⟨b, o, none⟩ = W.frozen? ⟨b, o, none⟩) :=
  ⟨fun b o h => hb.cell (p := ⟨b, o, none⟩) h, fun b o h => hb.frozen (p := ⟨b, o, none⟩) h⟩
theorem zero5 {w : World} {b : Nat} {t : TypeId} (h : w.rowIs b t 5 (fun _ => .int .i64 0)) :
    (w.cell? ⟨b, 0, none⟩ = some (.int .i64 0) ∧ w.cell? ⟨b, 1, none⟩ = some (.int .i64 0) ∧ w.cell? ⟨b, 2, none⟩ = some (.int .i64 0) ∧ w.cell? ⟨b, 3, none⟩ = some (.int .i64 0) ∧ w.cell? ⟨b, 4, none⟩ = some (.int .i64 0)) ∧
    (w.frozen? ⟨b, 0, none⟩ = false ∧ w.frozen? ⟨b, 1, none⟩ = false ∧ w.frozen? ⟨b, 2, none⟩ = false ∧ w.frozen? ⟨b, 3, none⟩ = false ∧ w.frozen? ⟨b, 4, none⟩ = false) :=
  ⟨⟨h.cell (by omega), h.cell (by omega), h.cell (by omega), h.cell (by omega), h.cell (by omega)⟩, h.frozen _, h.frozen _, h.frozen _, h.frozen _, h.frozen _⟩
theorem newrow5 (w : World) (F : Nat → Int) : (w.alloc (.cells #[.int .i64 (F 0), .int .i64 (F 1), .int .i64 (F 2), .int .i64 (F 3), .int .i64 (F 4)] 22)).rowIs w.heap.size 22 5 (fun x => .int .i64 (F x)) := row5 w _ _ _ _ _ _ _ rfl rfl rfl rfl rfl
theorem rn_bd {F : Nat → Int} {g : Nat → Bool} {k : Nat} (h : ∀ j, j < k → perm (noF F j) ∧ perm (yesF F j)) : perm (rn F g k) := by
  induction k with
  | zero => exact ⟨fun i hi => by show 0 ≤ (i : Int) ∧ (i : Int) ≤ 4; omega, fun j hj i hi => by show (i : Int) ≠ (j : Int); omega⟩
  | succ k ih =>
    show perm (cmp (rn F g k) (if g (F (11 * k)).toNat then yesF F k else noF F k))
    refine perm_cmp (ih fun j hj => h j (by omega)) ?_
    split
    · exact (h k (by omega)).2
    · exact (h k (by omega)).1
theorem tE_zero {inn : Int} {F : Nat → Int} {k : Nat} (h : tE inn F k = 0) : (0 ≤ F (11 * k) ∧ F (11 * k) < inn) ∧ perm (noF F k) ∧ perm (yesF F k) := by
  unfold tE at h
  by_cases h1 : F (11 * k) < 0 ∨ inn ≤ F (11 * k)
  · rw [if_pos h1] at h; omega
  · rw [if_neg h1] at h
    by_cases h2 : perm (noF F k) ∧ perm (yesF F k)
    · exact ⟨by omega, h2⟩
    · rw [if_neg h2] at h; omega
theorem turn_cells {w w1 : World} {bt : Int} {N Y : Nat → Int} (hb1 : Below (w.alloc (.cells #[.int .i64 bt, .int .i64 (N 0), .int .i64 (N 1), .int .i64 (N 2), .int .i64 (N 3), .int .i64 (N 4), .int .i64 (Y 0), .int .i64 (Y 1), .int .i64 (Y 2), .int .i64 (Y 3), .int .i64 (Y 4)] 43)).heap.size (w.alloc (.cells #[.int .i64 bt, .int .i64 (N 0), .int .i64 (N 1), .int .i64 (N 2), .int .i64 (N 3), .int .i64 (N 4), .int .i64 (Y 0), .int .i64 (Y 1), .int .i64 (Y 2), .int .i64 (Y 3), .int .i64 (Y 4)] 43)) w1) :
    w1.cell? ⟨w.heap.size, 6, none⟩ = some (.int .i64 (Y 0)) ∧ w1.cell? ⟨w.heap.size, 7, none⟩ = some (.int .i64 (Y 1)) ∧ w1.cell? ⟨w.heap.size, 8, none⟩ = some (.int .i64 (Y 2)) ∧ w1.cell? ⟨w.heap.size, 9, none⟩ = some (.int .i64 (Y 3)) ∧ w1.cell? ⟨w.heap.size, 10, none⟩ = some (.int .i64 (Y 4)) ∧ w.heap.size < w1.heap.size := by
  refine ⟨?_, ?_, ?_, ?_, ?_, ?_⟩
  · exact (hb1.cell (p := ⟨w.heap.size, 6, none⟩) (by simp)).trans (by simp [go_sem])
  · exact (hb1.cell (p := ⟨w.heap.size, 7, none⟩) (by simp)).trans (by simp [go_sem])
  · exact (hb1.cell (p := ⟨w.heap.size, 8, none⟩) (by simp)).trans (by simp [go_sem])
  · exact (hb1.cell (p := ⟨w.heap.size, 9, none⟩) (by simp)).trans (by simp [go_sem])
  · exact (hb1.cell (p := ⟨w.heap.size, 10, none⟩) (by simp)).trans (by simp [go_sem])
  · have := hb1.size; simp at this; omega
theorem zset5 {B : Nat} {a w : World} (h : Below B a w) (b : Nat) (hb : B ≤ b) (x0 x1 x2 x3 x4 : Value) : Below B a (((((w.setCell ⟨b, 0, none⟩ x0).setCell ⟨b, 1, none⟩ x1).setCell ⟨b, 2, none⟩ x2).setCell ⟨b, 3, none⟩ x3).setCell ⟨b, 4, none⟩ x4) :=
  ((((h.setCell (p := ⟨b, 0, none⟩) hb _).setCell (p := ⟨b, 1, none⟩) hb _).setCell (p := ⟨b, 2, none⟩) hb _).setCell (p := ⟨b, 3, none⟩) hb _).setCell (p := ⟨b, 4, none⟩) hb _
set_option maxRecDepth 100000 in
set_option maxHeartbeats 2000000 in
theorem run_any (inn : Int) (A B : Option Addr) (n c p d : Nat) (F : Nat → Int) (g : Nat → Bool) (w : World) (h : Rd w A (n * 11) (fun q => .int .i64 (F q))) (hg : Rd w B p (fun q => .bool (g q))) (hn : n ≤ maxLen) (hp : p ≤ maxLen) :
    Calls Try.prog 11 #[.int .i64 inn, .slice A n c, .slice B p d] w fun e w' => e = .returned (.tuple #[.agg #[.int .i64 (rF inn F g n p 0), .int .i64 (rF inn F g n p 1), .int .i64 (rF inn F g n p 2), .int .i64 (rF inn F g n p 3), .int .i64 (rF inn F g n p 4)], .int .i64 (rE inn F n p)]) ∧ Below w.heap.size w w' := by
  have H := Lib.hid h
  have G := Lib.hid hg
  unfold maxLen at hn hp
  clear h hg
  by_cases hl : inn < 0 ∨ 5 < inn ∨ 300 < n
  · have e1 : rE inn F n p = 1 := if_pos hl
    have e2 : rF inn F g n p = fun _ => 0 := if_neg (by rw [e1]; omega)
    rw [e1, e2]
    have HL : (decide (inn < 0) || decide (5 < inn) || decide (300 < (n : Int))) = true := by
      simp only [Bool.or_eq_true, decide_eq_true_eq]; omega
    clear e1 e2
    by_cases l1 : inn < 0
    · go_enter Try.func11, Try.ntmps11
      go_wp2_with fail
      exact bodyPost_ret (v := .tuple #[.agg #[.int .i64 0, .int .i64 0, .int .i64 0, .int .i64 0, .int .i64 0], .int .i64 1]) (by simp [results, Try.results11, go_sem]) rfl ⟨rfl, (Below.refl _ _).alloc (Nat.le_refl _) _⟩
    · by_cases l2 : 5 < inn
      · go_enter Try.func11, Try.ntmps11
        go_wp2_with fail
        exact bodyPost_ret (v := .tuple #[.agg #[.int .i64 0, .int .i64 0, .int .i64 0, .int .i64 0, .int .i64 0], .int .i64 1]) (by simp [results, Try.results11, go_sem]) rfl ⟨rfl, (Below.refl _ _).alloc (Nat.le_refl _) _⟩
      · have l3 : 300 < n := by omega
        go_enter Try.func11, Try.ntmps11
        go_wp2_with fail
        exact bodyPost_ret (v := .tuple #[.agg #[.int .i64 0, .int .i64 0, .int .i64 0, .int .i64 0, .int .i64 0], .int .i64 1]) (by simp [results, Try.results11, go_sem]) rfl ⟨rfl, (Below.refl _ _).alloc (Nat.le_refl _) _⟩
  · have i0 : 0 ≤ inn := by omega
    have i5 : inn ≤ 5 := by omega
    have n3 : n ≤ 300 := by omega
    have er : rE inn F n p = if fstE (tE inn F) n = 0 then (if (p : Int) = inn then 0 else 2) else fstE (tE inn F) n := if_neg hl
    have bad : ∀ x, x ≠ 0 → rE inn F n p = x → rF inn F g n p = fun _ => 0 := fun x hx e => if_neg (by rw [e]; exact hx)
    have ER := Lib.hid er
    have BAD := Lib.hid bad
    clear er bad hl hn
    go_enter Try.func11, Try.ntmps11
    go_wp2_with fail
    go_loopw [27] (fun i wr => ∃ k : Nat, k ≤ n ∧ i = .int .i64 k ∧ fstE (tE inn F) k = 0 ∧ wr.rowIs w.heap.size 22 5 (fun _ => .int .i64 0) ∧ Below w.heap.size w wr) (fun i _ => n - (intOf i).toNat)
    case atStart => exact ⟨0, Nat.zero_le _, rfl, rfl, newrow5 w (fun _ => 0), (Below.refl _ _).alloc (Nat.le_refl _) _⟩
    case round =>
      obtain ⟨wo, rfl⟩ : ∃ wo : World, wo = wr := ⟨_, rfl⟩
      obtain ⟨k, hk, rfl, hall0, hrow, hbel⟩ := hrel
      have hall := Lib.hid hall0
      clear hall0
      obtain ⟨⟨p0, p1, p2, p3, p4⟩, z0, z1, z2, z3, z4⟩ := zero5 hrow
      have sr := hrow.lt
      by_cases hlt : k < n
      · obtain ⟨b, off, rfl, hb, hc, ⟨c0, c1, c2, c3, c4⟩, ⟨d0, d1, d2, d3, d4⟩⟩ := (H.out.below hbel).at11 hlt
        have ht : tE inn F k = if F (11 * k) < 0 ∨ inn ≤ F (11 * k) then 4 else if perm (noF F k) ∧ perm (yesF F k) then 0 else 3 := rfl
        obtain ⟨bt, hbt⟩ : ∃ x, x = F (11 * k) := ⟨_, rfl⟩
        obtain ⟨N, hN⟩ : ∃ x, x = noF F k := ⟨_, rfl⟩
        obtain ⟨Y, hY⟩ : ∃ x, x = yesF F k := ⟨_, rfl⟩
        rw [← hbt, ← hN, ← hY] at ht
        rw [← hbt] at hc
        rw [← hN] at c0 c1 c2 c3 c4
        rw [← hY] at d0 d1 d2 d3 d4
        have HT := Lib.hid ht
        clear ht hbt hN hY
        have stop : ∀ x, x ≠ 0 → tE inn F k = x → rE inn F n p = x := fun x h0 h1 => by
          have := fstE_stop hall.out h1 h0 n hlt
          rw [ER.out, if_neg (by rw [this]; exact h0), this]
        have ST := Lib.hid stop
        clear stop
        by_cases h1 : bt < 0 ∨ inn ≤ bt
        · have er := ST.out 4 (by decide) (by rw [HT.out, if_pos h1])
          have eb := BAD.out 4 (by decide) er
          have ER2 := Lib.hid (And.intro er eb)
          clear er eb
          have hb2 := (zset5 hbel w.heap.size (Nat.le_refl _) (.int .i64 0) (.int .i64 0) (.int .i64 0) (.int .i64 0) (.int .i64 0)).alloc (by simp; omega) (.cells #[.int .i64 bt, .int .i64 (N 0), .int .i64 (N 1), .int .i64 (N 2), .int .i64 (N 3), .int .i64 (N 4), .int .i64 (Y 0), .int .i64 (Y 1), .int .i64 (Y 2), .int .i64 (Y 3), .int .i64 (Y 4)] 43)
          have HB2 := Lib.hid hb2
          clear hb2
          by_cases h2 : bt < 0
          · have h2' : True := trivial
            go_wp2_with fail
            exact bodyPost_ret (v := .tuple #[.agg #[.int .i64 0, .int .i64 0, .int .i64 0, .int .i64 0, .int .i64 0], .int .i64 4]) (by simp [results, Try.results11, go_sem, p0, p1, p2, p3, p4, sr]) rfl ⟨by rw [ER2.out.1, ER2.out.2], HB2.out⟩
          · have h3 : inn ≤ bt := by omega
            go_wp2_with fail
            exact bodyPost_ret (v := .tuple #[.agg #[.int .i64 0, .int .i64 0, .int .i64 0, .int .i64 0, .int .i64 0], .int .i64 4]) (by simp [results, Try.results11, go_sem, p0, p1, p2, p3, p4, sr]) rfl ⟨by rw [ER2.out.1, ER2.out.2], HB2.out⟩
        · have h2 : 0 ≤ bt := by omega
          have h3 : bt < inn := by omega
          go_wp2_with fail
          refine (is_any N _).mono ?_
          rintro e w1 ⟨rfl, hb1⟩
          have hrow1 := row_below (hrow.alloc _) hb1 (by simp; omega)
          obtain ⟨y0, y1, y2, y3, y4, s1⟩ := turn_cells hb1
          have B1 := (hbel.alloc hbel.size (.cells #[.int .i64 bt, .int .i64 (N 0), .int .i64 (N 1), .int .i64 (N 2), .int .i64 (N 3), .int .i64 (N 4), .int .i64 (Y 0), .int .i64 (Y 1), .int .i64 (Y 2), .int .i64 (Y 3), .int .i64 (Y 4)] 43)).trans (hb1.mono (by simp; omega))
          clear p0 p1 p2 p3 p4 z0 z1 z2 z3 z4 c0 c1 c2 c3 c4 d0 d1 d2 d3 d4 hc hb1 hrow hbel
          by_cases hpN : perm N
          · have i1 := isB_iff.2 hpN
            go_wp2_with fail
            refine (is_any Y _).mono ?_
            rintro e w2 ⟨rfl, hb2⟩
            have hrow2 := row_below hrow1 hb2 hrow1.lt
            have B2 := B1.trans (hb2.mono B1.size)
            clear y0 y1 y2 y3 y4 hb2 hrow1 B1
            by_cases hpY : perm Y
            · have i2 := isB_iff.2 hpY
              have hz := fstE_next hall.out (by rw [HT.out, if_neg h1, if_pos ⟨hpN, hpY⟩])
              have HZ := Lib.hid hz
              clear hz hpN hpY h1
              go_wp2_with fail
              go_roundw
              case rel => exact ⟨k + 1, by omega, by go_num, HZ.out, hrow2, B2⟩
              case measure => simp [intOf]; omega
            · have i2 := isB_no hpY
              have er := ST.out 3 (by decide) (by rw [HT.out, if_neg h1, if_neg fun h => hpY h.2])
              have eb := BAD.out 3 (by decide) er
              have ER2 := Lib.hid (And.intro er eb)
              obtain ⟨⟨p0, p1, p2, p3, p4⟩, z0, z1, z2, z3, z4⟩ := zero5 hrow2
              have sr2 := hrow2.lt
              clear er eb hpN hpY h1
              go_wp2_with fail
              exact bodyPost_ret (v := .tuple #[.agg #[.int .i64 0, .int .i64 0, .int .i64 0, .int .i64 0, .int .i64 0], .int .i64 3]) (by simp [results, Try.results11, go_sem, p0, p1, p2, p3, p4]) rfl ⟨by rw [ER2.out.1, ER2.out.2], zset5 B2 w.heap.size (Nat.le_refl _) (.int .i64 0) (.int .i64 0) (.int .i64 0) (.int .i64 0) (.int .i64 0)⟩
          · have i1 := isB_no hpN
            have er := ST.out 3 (by decide) (by rw [HT.out, if_neg h1, if_neg fun h => hpN h.1])
            have eb := BAD.out 3 (by decide) er
            have ER2 := Lib.hid (And.intro er eb)
            obtain ⟨⟨p0, p1, p2, p3, p4⟩, z0, z1, z2, z3, z4⟩ := zero5 hrow1
            have sr2 := hrow1.lt
            clear er eb hpN h1
            go_wp2_with fail
            exact bodyPost_ret (v := .tuple #[.agg #[.int .i64 0, .int .i64 0, .int .i64 0, .int .i64 0, .int .i64 0], .int .i64 3]) (by simp [results, Try.results11, go_sem, p0, p1, p2, p3, p4]) rfl ⟨by rw [ER2.out.1, ER2.out.2], zset5 B1 w.heap.size (Nat.le_refl _) (.int .i64 0) (.int .i64 0) (.int .i64 0) (.int .i64 0) (.int .i64 0)⟩
      · obtain rfl : k = n := by omega
        clear hk hlt
        have ok : ∀ j, j < k → tE inn F j = 0 := fstE_zero.1 hall.out
        have OK := Lib.hid ok
        clear ok
        by_cases hpi : (p : Int) = inn
        · have hq : ((p : Int) != inn) = false := by rw [bne_eq_false_iff_eq]; exact hpi
          have er : rE inn F k p = 0 := by rw [ER.out, if_pos hall.out, if_pos hpi]
          have ef : rF inn F g k p = rn F g k := if_pos er
          have ER2 := Lib.hid (And.intro er ef)
          have HPI := Lib.hid hpi
          clear er ef hpi
          go_wp2_with fail
          have hrow0 := newrow5 wo idF
          have hrow' := hrow.alloc (.cells #[.int .i64 (idF 0), .int .i64 (idF 1), .int .i64 (idF 2), .int .i64 (idF 3), .int .i64 (idF 4)] 22)
          have hbel' := hbel.alloc (by omega) (.cells #[.int .i64 (idF 0), .int .i64 (idF 1), .int .i64 (idF 2), .int .i64 (idF 3), .int .i64 (idF 4)] 22)
          obtain ⟨gB, hgB⟩ : ∃ x, x = wo.heap.size := ⟨_, rfl⟩
          have sgB : w.heap.size < gB := by omega
          go_loopw [61] (fun i wr => ∃ j : Nat, j ≤ k ∧ i = .int .i64 j ∧ wr.rowIs wo.heap.size 22 5 (fun x => .int .i64 (rn F g j x)) ∧ wr.rowIs w.heap.size 22 5 (fun _ => .int .i64 0) ∧ Below w.heap.size w wr) (fun i _ => k - (intOf i).toNat)
          case atStart => exact ⟨0, Nat.zero_le _, rfl, hrow0, hrow', hbel'⟩
          case round =>
            clear p0 p1 p2 p3 p4 z0 z1 z2 z3 z4 hrow0 hrow' hbel' hbel hrow
            rw [← hgB] at *
            obtain ⟨wq, rfl⟩ : ∃ wq : World, wq = wr := ⟨_, rfl⟩
            obtain ⟨j, hj, rfl, hrow0, hrow, hbel⟩ := hrel
            have sg := hrow0.lt
            have sw := hrow.lt
            by_cases hlt : j < k
            · obtain ⟨b, off, rfl, hb, hc, ⟨c0, c1, c2, c3, c4⟩, ⟨d0, d1, d2, d3, d4⟩⟩ := (H.out.below hbel).at11 hlt
              obtain ⟨⟨t0, t1⟩, pN, pY⟩ := tE_zero (OK.out j hlt)
              obtain ⟨bn, hbn⟩ := Int.eq_ofNat_of_zero_le t0
              rw [hbn] at hc t1
              have BN := Lib.hid hbn
              have t2 : bn < p := by have := HPI.out; omega
              obtain ⟨gb, goff, rfl, hgb, hgc⟩ := (G.out.below hbel).at_ t2
              have hR := rn_bd (F := F) (g := g) (k := j) fun i hi => (tE_zero (OK.out i (by omega))).2
              obtain ⟨RJ, hRJ⟩ : ∃ x, x = rn F g j := ⟨_, rfl⟩
              obtain ⟨N, hN⟩ : ∃ x, x = noF F j := ⟨_, rfl⟩
              obtain ⟨Y, hY⟩ : ∃ x, x = yesF F j := ⟨_, rfl⟩
              rw [← hRJ] at hR hrow0
              rw [← hN] at c0 c1 c2 c3 c4
              rw [← hY] at d0 d1 d2 d3 d4
              have HR := Lib.hid hR
              have HRJ := Lib.hid hRJ
              have HN := Lib.hid hN
              have HY := Lib.hid hY
              obtain ⟨q0, q1, q2, q3, q4⟩ := cells5 hrow0
              clear hbn hR hN hY hRJ pN pY t0
              cases hx : g bn
              · have hgv : g bn = false := hx
                have hs : rn F g (j + 1) = cmp RJ N := by
                  show cmp (rn F g j) (if g (F (11 * j)).toNat then yesF F j else noF F j) = _
                  rw [BN.out, Int.toNat_natCast, hx, ← HY.out, ← HN.out, ← HRJ.out]; rfl
                have HS := Lib.hid hs
                rw [hx] at hgc
                clear hs hx hgv
                go_wp2_with fail
                refine (then_any RJ N _ HR.out.1).mono ?_
                rintro e w3 ⟨rfl, hb3⟩
                have r3 := row_below (hrow0.alloc _) hb3 (by simp; omega)
                have r4 := row_below (hrow.alloc _) hb3 (by simp; omega)
                have B3 := (hbel.alloc hbel.size (.cells #[.int .i64 bn, .int .i64 (N 0), .int .i64 (N 1), .int .i64 (N 2), .int .i64 (N 3), .int .i64 (N 4), .int .i64 (Y 0), .int .i64 (Y 1), .int .i64 (Y 2), .int .i64 (Y 3), .int .i64 (Y 4)] 43)).trans (hb3.mono (by simp; omega))
                have z0 := r3.frozen 0
                have z1 := r3.frozen 1
                have z2 := r3.frozen 2
                have z3 := r3.frozen 3
                have z4 := r3.frozen 4
                obtain ⟨v0, v1, v2, v3, v4⟩ := cells5 r3
                clear hb3 q0 q1 q2 q3 q4 c0 c1 c2 c3 c4 d0 d1 d2 d3 d4 hc hgc
                go_wp2_with fail
                go_roundw
                case rel => exact ⟨j + 1, by omega, by go_num, (((((r3.set 0 _).set 1 _).set 2 _).set 3 _).set 4 _).congr (fun y hy => by
                  rw [HS.out]
                  match y, hy with
                  | 0, _ => simp
                  | 1, _ => simp
                  | 2, _ => simp
                  | 3, _ => simp
                  | 4, _ => simp), ((((r4.setOther (by simp; omega) _).setOther (by simp; omega) _).setOther (by simp; omega) _).setOther (by simp; omega) _).setOther (by simp; omega) _, zset5 B3 gB (by omega) _ _ _ _ _⟩
                case measure => simp [intOf]; omega
              · have hgv : g bn = true := hx
                have hs : rn F g (j + 1) = cmp RJ Y := by
                  show cmp (rn F g j) (if g (F (11 * j)).toNat then yesF F j else noF F j) = _
                  rw [BN.out, Int.toNat_natCast, hx, ← HY.out, ← HN.out, ← HRJ.out]; rfl
                have HS := Lib.hid hs
                rw [hx] at hgc
                clear hs hx hgv
                go_wp2_with fail
                refine (then_any RJ Y _ HR.out.1).mono ?_
                rintro e w3 ⟨rfl, hb3⟩
                have r3 := row_below (hrow0.alloc _) hb3 (by simp; omega)
                have r4 := row_below (hrow.alloc _) hb3 (by simp; omega)
                have B3 := (hbel.alloc hbel.size (.cells #[.int .i64 bn, .int .i64 (N 0), .int .i64 (N 1), .int .i64 (N 2), .int .i64 (N 3), .int .i64 (N 4), .int .i64 (Y 0), .int .i64 (Y 1), .int .i64 (Y 2), .int .i64 (Y 3), .int .i64 (Y 4)] 43)).trans (hb3.mono (by simp; omega))
                have z0 := r3.frozen 0
                have z1 := r3.frozen 1
                have z2 := r3.frozen 2
                have z3 := r3.frozen 3
                have z4 := r3.frozen 4
                obtain ⟨v0, v1, v2, v3, v4⟩ := cells5 r3
                clear hb3 q0 q1 q2 q3 q4 c0 c1 c2 c3 c4 d0 d1 d2 d3 d4 hc hgc
                go_wp2_with fail
                go_roundw
                case rel => exact ⟨j + 1, by omega, by go_num, (((((r3.set 0 _).set 1 _).set 2 _).set 3 _).set 4 _).congr (fun y hy => by
                  rw [HS.out]
                  match y, hy with
                  | 0, _ => simp
                  | 1, _ => simp
                  | 2, _ => simp
                  | 3, _ => simp
                  | 4, _ => simp), ((((r4.setOther (by simp; omega) _).setOther (by simp; omega) _).setOther (by simp; omega) _).setOther (by simp; omega) _).setOther (by simp; omega) _, zset5 B3 gB (by omega) _ _ _ _ _⟩
                case measure => simp [intOf]; omega
            · obtain rfl : j = k := by omega
              obtain ⟨q0, q1, q2, q3, q4⟩ := cells5 hrow0
              obtain ⟨⟨p0, p1, p2, p3, p4⟩, z0, z1, z2, z3, z4⟩ := zero5 hrow
              go_wp2_with fail
              exact bodyPost_ret (v := .tuple #[.agg #[.int .i64 (rn F g j 0), .int .i64 (rn F g j 1), .int .i64 (rn F g j 2), .int .i64 (rn F g j 3), .int .i64 (rn F g j 4)], .int .i64 0]) (by simp [results, Try.results11, go_sem, p0, p1, p2, p3, p4]) rfl ⟨by rw [ER2.out.1, ER2.out.2], zset5 hbel w.heap.size (Nat.le_refl _) _ _ _ _ _⟩
        · have hq : ((p : Int) != inn) = true := by rw [bne_iff_ne]; exact hpi
          have er : rE inn F k p = 2 := by rw [ER.out, if_pos hall.out, if_neg hpi]
          have eb := BAD.out 2 (by decide) er
          have ER2 := Lib.hid (And.intro er eb)
          clear er eb hpi
          go_wp2_with fail
          exact bodyPost_ret (v := .tuple #[.agg #[.int .i64 0, .int .i64 0, .int .i64 0, .int .i64 0, .int .i64 0], .int .i64 2]) (by simp [results, Try.results11, go_sem, p0, p1, p2, p3, p4]) rfl ⟨by rw [ER2.out.1, ER2.out.2], zset5 hbel w.heap.size (Nat.le_refl _) (.int .i64 0) (.int .i64 0) (.int .i64 0) (.int .i64 0) (.int .i64 0)⟩
end Go.Proofs.Ytmhicimjoidonaa
