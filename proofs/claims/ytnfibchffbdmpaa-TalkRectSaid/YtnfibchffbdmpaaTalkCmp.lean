/- Comparing places and lists of places: some number is told. Condition: the lists read as told. -/
import Derived.Test.YtnfibchffbdmpaaTalkTop
import Derived.BigQuiet
import Derived.Deep.RegionLaw
namespace Go.Proofs.Ytnfibchffbdmpaa
open Go.ChangeShapes Go.WideShapes Go.ChangeAt Go.RowKit
set_option linter.unusedVariables false
set_option linter.unusedSimpArgs false
set_option maxRecDepth 100000 in
theorem isNaN_any (x : Int) (w : World) : Calls Try.prog 35 #[.int .i64 x] w fun e w' => e = .returned (.bool false) ∧ w = w' := by
  have q : (x != x) = false := by simp
  go_enter Try.func35, Try.ntmps35
  go_wp2_with fail
  go_ret
  first
    | exact ⟨rfl, rfl⟩
    | exact ⟨ret_bool q, rfl⟩
set_option maxRecDepth 100000 in
theorem cmpI_any (x y : Int) (w : World) : Calls Try.prog 33 #[.int .i64 x, .int .i64 y] w fun e w' => (∃ r : Int, e = .returned (.int .i64 r)) ∧ w = w' := by
  have H1 := Lib.hid (isNaN_any x w)
  have H2 := Lib.hid (isNaN_any y w)
  by_cases h1 : x < y
  · go_enter Try.func33, Try.ntmps33
    go_wp2_with fail
    refine H1.out.mono ?_
    rintro e w1 ⟨rfl, rfl⟩
    go_wp2_with fail
    refine H2.out.mono ?_
    rintro e w1 ⟨rfl, rfl⟩
    go_wp2_with fail
    go_ret
    exact ⟨⟨_, rfl⟩, rfl⟩
  · by_cases h2 : y < x
    · go_enter Try.func33, Try.ntmps33
      go_wp2_with fail
      refine H1.out.mono ?_
      rintro e w1 ⟨rfl, rfl⟩
      go_wp2_with fail
      refine H2.out.mono ?_
      rintro e w1 ⟨rfl, rfl⟩
      go_wp2_with fail
      go_ret
      exact ⟨⟨_, rfl⟩, rfl⟩
    · go_enter Try.func33, Try.ntmps33
      go_wp2_with fail
      refine H1.out.mono ?_
      rintro e w1 ⟨rfl, rfl⟩
      go_wp2_with fail
      refine H2.out.mono ?_
      rintro e w1 ⟨rfl, rfl⟩
      go_wp2_with fail
      go_ret
      exact ⟨⟨_, rfl⟩, rfl⟩
set_option maxRecDepth 100000 in
set_option maxHeartbeats 2000000 in
theorem compI_any (A B : Option Addr) (m c n d : Nat) (f g : Nat → Int) (w : World) (h : Rd w A m (fun i => .int .i64 (f i))) (k : Rd w B n (fun i => .int .i64 (g i))) (hm : m ≤ 100) (hn : n ≤ 100) :
    Calls Try.prog 24 #[.slice A m c, .slice B n d] w fun e w' => (∃ r : Int, e = .returned (.int .i64 r)) ∧ w = w' := by
  have H := Lib.hid h
  have K := Lib.hid k
  clear h k
  go_enter Try.func24, Try.ntmps24
  go_wp2_with fail
  go_loop [11] (fun s11 => ∃ i : Nat, i ≤ m ∧ s11 = .int .i64 (i : Nat)) (fun s11 => m - (intOf s11).toNat)
  case atStart => exact ⟨0, Nat.zero_le _, rfl⟩
  case round =>
    obtain ⟨i, hi, rfl⟩ := hrel
    by_cases him : i < m
    · obtain ⟨b1, o1, rfl, _, c1⟩ := H.out.at_ him
      obtain ⟨x, hx⟩ : ∃ x, x = f i := ⟨_, rfl⟩
      rw [← hx] at c1
      clear hx
      by_cases hin : i < n
      · obtain ⟨b2, o2, rfl, _, c2⟩ := K.out.at_ hin
        obtain ⟨y, hy⟩ : ∃ x, x = g i := ⟨_, rfl⟩
        rw [← hy] at c2
        clear hy
        go_wp2_with fail
        refine (cmpI_any x y w).mono ?_
        rintro e w1 ⟨⟨r, rfl⟩, rfl⟩
        by_cases hr : r = 0
        · subst hr
          go_wp2_with fail
          go_round
          case rel => exact ⟨i + 1, by omega, by go_num⟩
          case measure => simp [intOf]; omega
        · have q : (r != 0) = true := by rw [bne_iff_ne]; exact hr
          go_wp2_with fail
          go_ret
          exact ⟨⟨_, rfl⟩, rfl⟩
      · go_wp2_with fail
        go_ret
        exact ⟨⟨_, rfl⟩, rfl⟩
    · obtain rfl : i = m := by omega
      by_cases hin : i < n
      · go_wp2_with fail
        go_ret
        exact ⟨⟨_, rfl⟩, rfl⟩
      · go_wp2_with fail
        go_ret
        exact ⟨⟨_, rfl⟩, rfl⟩
set_option maxRecDepth 100000 in
theorem fool1_any (a b c d : Int) (w : World) : Calls Try.prog 23 #[.agg #[.int .i64 a, .int .i64 b], .agg #[.int .i64 c, .int .i64 d]] w fun e w' => (∃ r : Int, e = .returned (.int .i64 r)) ∧ Below w.heap.size w w' := by
  obtain ⟨W2, hW2⟩ : ∃ X, X = (w.alloc (.cells #[.int .i64 a, .int .i64 b] 34)).alloc (.cells #[.int .i64 c, .int .i64 d] 34) := ⟨_, rfl⟩
  have r1 : Rd W2.drew (some ⟨w.heap.size, 0, none⟩) 2 (fun i => .int .i64 (if i = 0 then a else b)) := fun _ => ⟨_, _, rfl, by rw [hW2]; simp; omega, fun i hi => by
    have : i = 0 ∨ i = 1 := by omega
    rw [hW2]
    rcases this with rfl | rfl <;> simp⟩
  have r2 : Rd W2.drew (some ⟨w.heap.size + 1, 0, none⟩) 2 (fun i => .int .i64 (if i = 0 then c else d)) := fun _ => ⟨_, _, rfl, by rw [hW2]; simp, fun i hi => by
    have : i = 0 ∨ i = 1 := by omega
    rw [hW2]
    rcases this with rfl | rfl <;> simp⟩
  have hbe : Below w.heap.size w W2.drew := by rw [hW2]; exact ((((Below.refl w.heap.size w).alloc (Nat.le_refl _) _).alloc (by simp) _)).drew
  have HC := Lib.hid (compI_any _ _ 2 2 2 2 _ _ W2.drew r1 r2 (by omega) (by omega))
  have HW := Lib.hid hW2
  have HB := Lib.hid hbe
  clear hW2 r1 r2 hbe
  go_enter Try.func23, Try.ntmps23
  go_wp2_with fail
  rw [← HW.out]
  go_region_law (first
    | (go_simp; go_at_call 24; (with_reducible refine HC.out.mono ?_); rintro e w5 ⟨⟨r, rfl⟩, rfl⟩))
  all_goals
    go_wp2_with fail
    go_ret
    exact ⟨⟨_, rfl⟩, HB.out⟩
/-- the cells of a list of places -/
def cF (P : Nat → Nat × Nat) (i : Nat) : Nat := if i % 2 = 0 then (P (i / 2)).1 else (P (i / 2)).2
theorem cF_at {w : World} {A : Option Addr} {n : Nat} {P : Nat → Nat × Nat} (h : Rd w A (n * 2) (fun i => .int .i64 (cF P i : Nat))) {i : Nat} (hi : i < n) : ∃ b o, A = some ⟨b, o, none⟩ ∧ b < w.heap.size ∧ w.cell? ⟨b, o + i * 2, none⟩ = some (.int .i64 ((P i).1 : Nat)) ∧ w.cell? ⟨b, o + i * 2 + 1, none⟩ = some (.int .i64 ((P i).2 : Nat)) := by
  obtain ⟨b, o, e, hl, hc⟩ := h (by omega)
  refine ⟨b, o, e, hl, ?_, ?_⟩
  · rw [hc (i * 2) (by omega)]
    have : cF P (i * 2) = (P i).1 := by unfold cF; rw [if_pos (by omega), show i * 2 / 2 = i by omega]
    dsimp only
    rw [this]
  · rw [Nat.add_assoc, hc (i * 2 + 1) (by omega)]
    have : cF P (i * 2 + 1) = (P i).2 := by unfold cF; rw [if_neg (by omega), show (i * 2 + 1) / 2 = i by omega]
    dsimp only
    rw [this]
set_option maxRecDepth 100000 in
set_option maxHeartbeats 2000000 in
theorem compF_any (A B : Option Addr) (m c n d : Nat) (P Q : Nat → Nat × Nat) (w : World) (h : Rd w A (m * 2) (fun i => .int .i64 (cF P i : Nat))) (k : Rd w B (n * 2) (fun i => .int .i64 (cF Q i : Nat))) (hm : m ≤ 100) (hn : n ≤ 100) :
    Calls Try.prog 22 #[.slice A m c, .slice B n d, .func (.func 23) #[] #[]] w fun e w' => (∃ r : Int, e = .returned (.int .i64 r)) ∧ Below w.heap.size w w' := by
  have H := Lib.hid h
  have K := Lib.hid k
  clear h k
  go_enter Try.func22, Try.ntmps22
  go_wp2_with fail
  go_loopw [13] (fun s13 wr => ∃ i : Nat, i ≤ m ∧ s13 = .int .i64 (i : Nat) ∧ Hid (Below w.heap.size w wr)) (fun s13 _ => m - (intOf s13).toNat)
  case atStart => exact ⟨0, Nat.zero_le _, rfl, Lib.hid (Below.refl _ _)⟩
  case round =>
    obtain ⟨wo, rfl⟩ : ∃ wo : World, wo = wr := ⟨_, rfl⟩
    obtain ⟨i, hi, rfl, HB⟩ := hrel
    by_cases him : i < m
    · obtain ⟨b1, o1, rfl, hl1, c1, c1'⟩ := cF_at (H.out.below HB.out) him
      obtain ⟨x1, hx1⟩ : ∃ x : Int, x = ((P i).1 : Nat) := ⟨_, rfl⟩
      obtain ⟨x2, hx2⟩ : ∃ x : Int, x = ((P i).2 : Nat) := ⟨_, rfl⟩
      rw [← hx1] at c1
      rw [← hx2] at c1'
      clear hx1 hx2
      have hws := HB.out.size
      by_cases hin : i < n
      · obtain ⟨b2, o2, rfl, hl2, c2, c2'⟩ := cF_at (K.out.below HB.out) hin
        obtain ⟨y1, hy1⟩ : ∃ x : Int, x = ((Q i).1 : Nat) := ⟨_, rfl⟩
        obtain ⟨y2, hy2⟩ : ∃ x : Int, x = ((Q i).2 : Nat) := ⟨_, rfl⟩
        rw [← hy1] at c2
        rw [← hy2] at c2'
        clear hy1 hy2
        go_wp2_with fail
        refine (fool1_any x1 x2 y1 y2 _).mono ?_
        rintro e w1 ⟨⟨r, rfl⟩, hb⟩
        have HB2 : Hid (Below w.heap.size w w1) := Lib.hid (((HB.out.alloc hws _).alloc (by simp; omega) _).trans (hb.mono (by simp; omega)))
        clear hb c1 c1' c2 c2'
        by_cases hr : r = 0
        · subst hr
          go_wp2_with fail
          go_roundw
          case rel => exact ⟨i + 1, by omega, by go_num, HB2⟩
          case measure => simp [intOf]; omega
        · have q : (r != 0) = true := by rw [bne_iff_ne]; exact hr
          go_wp2_with fail
          go_ret
          exact ⟨⟨_, rfl⟩, HB2.out⟩
      · go_wp2_with fail
        go_ret
        exact ⟨⟨_, rfl⟩, HB.out.alloc hws _⟩
    · obtain rfl : i = m := by omega
      by_cases hin : i < n
      · go_wp2_with fail
        go_ret
        exact ⟨⟨_, rfl⟩, HB.out⟩
      · go_wp2_with fail
        go_ret
        exact ⟨⟨_, rfl⟩, HB.out⟩
end Go.Proofs.Ytnfibchffbdmpaa
