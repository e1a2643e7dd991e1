/- wide.behind, of a list of the call's own. No condition besides. -/
import Derived.Test.YtmhicimjoidonaaWideBehind
namespace Go.Proofs.Ytmhicimjoidonaa
open Go.ChangeShapes Go.WideShapes Go.ChangeAt Go.RowKit
set_option linter.unusedVariables false
set_option linter.unusedSimpArgs false
theorem Own.ofRow {w : World} {base g n c s : Nat} {e : TypeId} {R C : Nat → Value} (hr : w.rowIs g e (c * s) R) (hb : base ≤ g) (hn : n ≤ c) (hc : c ≤ maxLen) (h : ∀ i, i < n * s → R i = C i) : Own w base e s (some ⟨g, 0, none⟩) n c (n * s) C := by
  obtain ⟨cs, h1, h2, h3⟩ := hr
  refine ⟨⟨by simp, .inr ⟨g, c, cs, rfl, hb, h1, hn, hc, h2, ?_⟩⟩, by omega⟩
  apply List.ext_getElem?
  intro i
  by_cases hi : i < n * s
  · have hi2 : i < c * s := Nat.lt_of_lt_of_le hi (Nat.mul_le_mul_right s hn)
    have h4 := h3 i hi2
    rw [List.getElem?_take, if_pos hi, ← Array.getElem?_toList] at *
    rw [h4, h i hi]
    simp [hi]
  · rw [List.getElem?_take, if_neg hi]
    simp [hi]
theorem Own.row {w : World} {base s : Nat} {e : TypeId} {A : Option Addr} {n c k : Nat} {C : Nat → Value} (h : Own w base e s A n c k C) (hn : 0 < n) :
    ∃ g F, A = some ⟨g, 0, none⟩ ∧ base ≤ g ∧ w.rowIs g e (c * s) F ∧ n ≤ c ∧ ∀ i, i < k → F i = C i := by
  rcases h.1.2 with ⟨_, h0⟩ | ⟨g, cap, cur, hv, hb, hg, hnc, hc, hs, ht⟩
  · omega
  · have hk := h.len
    injection hv with hA _ hcc
    subst hA; subst hcc
    have hle : n * s ≤ c * s := Nat.mul_le_mul_right s hnc
    refine ⟨g, fun i => (cur[i]?).getD default, rfl, hb, ⟨cur, hg, hs, fun i hi => ?_⟩, hnc, fun i hi => ?_⟩
    · have : i < cur.size := by omega
      simp [this]
    · obtain ⟨b, off, e1, _, hcell⟩ := h.rd.at_ hi
      simp at e1
      obtain ⟨rfl, rfl⟩ := e1
      rw [Nat.zero_add, cell_of_row w g i cur e (0, 0) hg] at hcell
      show (cur[i]?).getD default = _
      rw [hcell]; rfl
theorem behind_any {base J c r : Nat} {A : Option Addr} {F : Nat → Int} (w : World) (h : Own w base 43 11 A (J + 1) c ((J + 1) * 11) (fun q => .int .i64 (F q))) (hJ : J ≤ 1000)
    (hN : ∀ i, i < 5 → 0 ≤ F (J * 11 + 1 + i) ∧ F (J * 11 + 1 + i) ≤ 4) (hY : ∀ i, i < 5 → 0 ≤ F (J * 11 + 6 + i) ∧ F (J * 11 + 6 + i) ≤ 4) :
    Calls Try.prog 20 #[.slice A (J + 1) c, .agg #[.int .i64 (eF r 0), .int .i64 (eF r 1), .int .i64 (eF r 2), .int .i64 (eF r 3), .int .i64 (eF r 4)]] w fun e w' => e = .returned (.slice A (J + 1) c) ∧ Own w' base 43 11 A (J + 1) c ((J + 1) * 11) (fun q => .int .i64 (behF F J r q)) ∧ Below base w w' := by
  obtain ⟨g, R, rfl, hbg, hrow, hle, hR⟩ := h.row (by omega)
  have hcm := h.le.2
  obtain ⟨N, hNe⟩ : ∃ N : Nat → Int, N = fun i => F (J * 11 + 1 + i) := ⟨_, rfl⟩
  obtain ⟨Y, hYe⟩ : ∃ Y : Nat → Int, Y = fun i => F (J * 11 + 6 + i) := ⟨_, rfl⟩
  have lg := hrow.lt
  have hlb : base ≤ w.heap.size := by omega
  have ha := hrow.alloc (.cells #[.int .i64 (eF r 0), .int .i64 (eF r 1), .int .i64 (eF r 2), .int .i64 (eF r 3), .int .i64 (eF r 4)] 22)
  have hx := row5 w 22 (.int .i64 (eF r 0)) (.int .i64 (eF r 1)) (.int .i64 (eF r 2)) (.int .i64 (eF r 3)) (.int .i64 (eF r 4)) (fun x => .int .i64 (eF r x)) rfl rfl rfl rfl rfl
  have hc : ∀ j, j < 11 → (w.alloc (.cells #[.int .i64 (eF r 0), .int .i64 (eF r 1), .int .i64 (eF r 2), .int .i64 (eF r 3), .int .i64 (eF r 4)] 22)).cell? ⟨g, J * 11 + j, none⟩ = some (.int .i64 (F (J * 11 + j))) := fun j hj => by
    have h1 := ha.cell (i := J * 11 + j) (by omega)
    rw [hR _ (by omega)] at h1
    exact h1
  have hz : ∀ j, (w.alloc (.cells #[.int .i64 (eF r 0), .int .i64 (eF r 1), .int .i64 (eF r 2), .int .i64 (eF r 3), .int .i64 (eF r 4)] 22)).frozen? ⟨g, J * 11 + j, none⟩ = false := fun j => ha.frozen _
  refine (behind_walk g c J r N Y (eF r) w lg hle (by omega) (by rw [hNe]; exact hN) (by rw [hYe]; exact hY) (by rw [hNe, hYe]; exact ⟨hc 1 (by omega), hc 2 (by omega), hc 3 (by omega), hc 4 (by omega), hc 5 (by omega), hc 6 (by omega), hc 7 (by omega), hc 8 (by omega), hc 9 (by omega), hc 10 (by omega), hx.cell (i := 0) (by omega), hx.cell (i := 1) (by omega), hx.cell (i := 2) (by omega), hx.cell (i := 3) (by omega), hx.cell (i := 4) (by omega), hz 1, hz 2, hz 3, hz 4, hz 5, hz 6, hz 7, hz 8, hz 9, hz 10⟩)).mono ?_
  rintro e w' ⟨rfl, w3, hb3, rfl⟩
  have hrow3 := hrow.of_block (hb3.block g lg)
  refine ⟨rfl, Own.ofRow ((((((((((hrow3.set (J * 11 + 1) (.int .i64 (cmp N (eF r) 0))).set (J * 11 + 2) (.int .i64 (cmp N (eF r) 1))).set (J * 11 + 3) (.int .i64 (cmp N (eF r) 2))).set (J * 11 + 4) (.int .i64 (cmp N (eF r) 3))).set (J * 11 + 5) (.int .i64 (cmp N (eF r) 4))).set (J * 11 + 6) (.int .i64 (cmp Y (eF r) 0))).set (J * 11 + 7) (.int .i64 (cmp Y (eF r) 1))).set (J * 11 + 8) (.int .i64 (cmp Y (eF r) 2))).set (J * 11 + 9) (.int .i64 (cmp Y (eF r) 3))).set (J * 11 + 10) (.int .i64 (cmp Y (eF r) 4))) hbg hle hcm (fun q hq => ?_), (((((((((((hb3.mono hlb).setCell (p := ⟨g, J * 11 + 1, none⟩) hbg _).setCell (p := ⟨g, J * 11 + 2, none⟩) hbg _).setCell (p := ⟨g, J * 11 + 3, none⟩) hbg _).setCell (p := ⟨g, J * 11 + 4, none⟩) hbg _).setCell (p := ⟨g, J * 11 + 5, none⟩) hbg _).setCell (p := ⟨g, J * 11 + 6, none⟩) hbg _).setCell (p := ⟨g, J * 11 + 7, none⟩) hbg _).setCell (p := ⟨g, J * 11 + 8, none⟩) hbg _).setCell (p := ⟨g, J * 11 + 9, none⟩) hbg _).setCell (p := ⟨g, J * 11 + 10, none⟩) hbg _)⟩
  have hRq := hR q hq
  subst hNe hYe
  by_cases e9 : q = J * 11 + 10
  · subst e9
    simp [behF]
  by_cases e8 : q = J * 11 + 9
  · subst e8
    simp [behF]
  by_cases e7 : q = J * 11 + 8
  · subst e7
    simp [behF]
  by_cases e6 : q = J * 11 + 7
  · subst e6
    simp [behF]
  by_cases e5 : q = J * 11 + 6
  · subst e5
    simp [behF]
  by_cases e4 : q = J * 11 + 5
  · subst e4
    simp [behF, Nat.add_sub_cancel_left]
  by_cases e3 : q = J * 11 + 4
  · subst e3
    simp [behF, Nat.add_sub_cancel_left]
  by_cases e2 : q = J * 11 + 3
  · subst e2
    simp [behF, Nat.add_sub_cancel_left]
  by_cases e1 : q = J * 11 + 2
  · subst e1
    simp [behF, Nat.add_sub_cancel_left]
  by_cases e0 : q = J * 11 + 1
  · subst e0
    simp [behF, Nat.add_sub_cancel_left]
  simp [e0, e1, e2, e3, e4, e5, e6, e7, e8, e9, hRq]
  unfold behF
  rw [if_neg (by omega), if_neg (by omega)]
end Go.Proofs.Ytmhicimjoidonaa
