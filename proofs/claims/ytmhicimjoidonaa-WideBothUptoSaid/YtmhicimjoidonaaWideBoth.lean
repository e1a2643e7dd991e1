/- The concatenation of two branching programs computes the composition of their permutations. Condition: the capacities of the second form. -/
import Derived.Test.YtmhicimjoidonaaWideRun
import Derived.Test.YtmhicimjoidonaaApp
import Derived.Test.YtmhicimjoidonaaFlat
namespace Go.Proofs.Ytmhicimjoidonaa.wideBoth
open Go.ChangeShapes Go.WideShapes Go.ChangeAt Go.RowKit
set_option linter.unusedVariables false
theorem ET : Elem Try.prog 32 43 11 88 := Elem.of Try.underlying32 (by kernel_rfl : (Try.prog.info? 43).map (fun i => (i.zero, i.size, i.bytes)) = some (some (.agg #[.int .i64 0, .int .i64 0, .int .i64 0, .int .i64 0, .int .i64 0, .int .i64 0, .int .i64 0, .int .i64 0, .int .i64 0, .int .i64 0, .int .i64 0]), 11, 88)) rfl (by omega)
def rot : Nat → Int
  | 0 => 1
  | 1 => 2
  | 2 => 3
  | 3 => 4
  | _ => 0
theorem then_rot (w : World) : Calls Try.prog 6 #[.agg #[.int .i64 1, .int .i64 2, .int .i64 3, .int .i64 4, .int .i64 0], .agg #[.int .i64 1, .int .i64 2, .int .i64 3, .int .i64 4, .int .i64 0]] w fun e w' => e = .returned (.tuple #[.agg #[.int .i64 2, .int .i64 3, .int .i64 4, .int .i64 0, .int .i64 1], .int .i64 0]) ∧ Below w.heap.size w w' :=
  Then_any rot rot w (by decide) (by decide)
/-- one list behind the other -/
def catF (F G : Nat → Int) (n : Nat) : Nat → Int := fun q => if q < n * 11 then F q else G (q - n * 11)
theorem catF_lt {F G : Nat → Int} {n q : Nat} (h : q < n * 11) : catF F G n q = F q := if_pos h
theorem catF_ge {F G : Nat → Int} {n q : Nat} : catF F G n (n * 11 + q) = G q := by unfold catF; rw [if_neg (by omega), Nat.add_sub_cancel_left]
theorem noF_lt {F G : Nat → Int} {n k : Nat} (h : k < n) : ∀ j, j < 5 → noF (catF F G n) k j = noF F k j := fun j hj => catF_lt (by omega)
theorem yesF_lt {F G : Nat → Int} {n k : Nat} (h : k < n) : ∀ j, j < 5 → yesF (catF F G n) k j = yesF F k j := fun j hj => catF_lt (by omega)
theorem noF_ge {F G : Nat → Int} {n k : Nat} : noF (catF F G n) (n + k) = noF G k := by
  funext j
  show catF F G n (11 * (n + k) + 1 + j) = G (11 * k + 1 + j)
  rw [show 11 * (n + k) + 1 + j = n * 11 + (11 * k + 1 + j) by omega]; exact catF_ge
theorem yesF_ge {F G : Nat → Int} {n k : Nat} : yesF (catF F G n) (n + k) = yesF G k := by
  funext j
  show catF F G n (11 * (n + k) + 6 + j) = G (11 * k + 6 + j)
  rw [show 11 * (n + k) + 6 + j = n * 11 + (11 * k + 6 + j) by omega]; exact catF_ge
theorem bit_ge {F G : Nat → Int} {n k : Nat} : catF F G n (11 * (n + k)) = G (11 * k) := by
  rw [show 11 * (n + k) = n * 11 + 11 * k by omega]; exact catF_ge
theorem perm_congr {F G : Nat → Int} (h : ∀ j, j < 5 → F j = G j) : perm F ↔ perm G := by
  unfold perm
  constructor
  · rintro ⟨h1, h2⟩
    exact ⟨fun i hi => by rw [← h i hi]; exact h1 i hi, fun j hj i hi => by rw [← h i (by omega), ← h j hj]; exact h2 j hj i hi⟩
  · rintro ⟨h1, h2⟩
    exact ⟨fun i hi => by rw [h i hi]; exact h1 i hi, fun j hj i hi => by rw [h i (by omega), h j hj]; exact h2 j hj i hi⟩
theorem tE_lt {inn : Int} {F G : Nat → Int} {n k : Nat} (h : k < n) : tE inn (catF F G n) k = tE inn F k := by
  unfold tE
  rw [catF_lt (show 11 * k < n * 11 by omega)]
  simp only [perm_congr (noF_lt (F := F) (G := G) h), perm_congr (yesF_lt (F := F) (G := G) h)]
theorem tE_ge {inn : Int} {F G : Nat → Int} {n k : Nat} : tE inn (catF F G n) (n + k) = tE inn G k := by
  unfold tE; rw [bit_ge, noF_ge, yesF_ge]
theorem rE_zero {inn : Int} {F : Nat → Int} {n p : Nat} : rE inn F n p = 0 ↔ (0 ≤ inn ∧ inn ≤ 5 ∧ n ≤ 300) ∧ (∀ k, k < n → tE inn F k = 0) ∧ (p : Int) = inn := by
  unfold rE
  by_cases h : inn < 0 ∨ 5 < inn ∨ 300 < n
  · rw [if_pos h]; constructor
    · intro h; omega
    · rintro ⟨h1, _⟩; omega
  · rw [if_neg h, ← fstE_zero]
    by_cases h2 : fstE (tE inn F) n = 0
    · rw [if_pos h2]
      by_cases h3 : (p : Int) = inn
      · rw [if_pos h3]; exact ⟨fun _ => ⟨by omega, h2, h3⟩, fun _ => rfl⟩
      · rw [if_neg h3]; exact ⟨fun h => by omega, fun h => absurd h.2.2 h3⟩
    · rw [if_neg h2]; exact ⟨fun h => absurd h h2, fun h => absurd h.2.1 h2⟩
theorem both_zero {inn : Int} {F G : Nat → Int} {n m p : Nat} (h : rE inn (catF F G n) (n + m) p = 0) : rE inn F n p = 0 ∧ rE inn G m p = 0 := by
  obtain ⟨h1, h2, h3⟩ := rE_zero.1 h
  exact ⟨rE_zero.2 ⟨by omega, fun k hk => by rw [← tE_lt hk]; exact h2 k (by omega), h3⟩, rE_zero.2 ⟨by omega, fun k hk => by rw [← tE_ge (F := F) (n := n)]; exact h2 _ (by omega), h3⟩⟩
theorem both_fit {inn : Int} {F G : Nat → Int} {n m p : Nat} (hF : rE inn F n p = 0) (hG : rE inn G m p = 0) (h : n + m ≤ 300) : rE inn (catF F G n) (n + m) p = 0 := by
  obtain ⟨h1, h2, h3⟩ := rE_zero.1 hF
  obtain ⟨g1, g2, g3⟩ := rE_zero.1 hG
  refine rE_zero.2 ⟨by omega, fun k hk => ?_, h3⟩
  by_cases e : k < n
  · rw [tE_lt e]; exact h2 k e
  · obtain ⟨j, rfl⟩ : ∃ j, k = n + j := ⟨k - n, by omega⟩
    rw [tE_ge]; exact g2 j (by omega)
theorem both_large {inn : Int} {F G : Nat → Int} {n m p : Nat} (h : 300 < n + m) : rE inn (catF F G n) (n + m) p = 1 := if_pos (.inr (.inr h))
theorem rn_lt {F G : Nat → Int} {g : Nat → Bool} {n : Nat} (hF : ∀ k, k < n → perm (noF F k) ∧ perm (yesF F k)) : ∀ k, k ≤ n → ∀ i, i < 5 → rn (catF F G n) g k i = rn F g k i := by
  intro k
  induction k with
  | zero => intro _ i _; rfl
  | succ k ih =>
    intro hk i hi
    have hp := rn_bd (g := g) fun j hj => hF j (show j < n by omega)
    have hb := (rn_bd (F := F) (g := g) (k := k) fun j hj => hF j (show j < n by omega)).1 i hi
    show (if g (catF F G n (11 * k)).toNat then yesF (catF F G n) k else noF (catF F G n) k) (rn (catF F G n) g k i).toNat = (if g (F (11 * k)).toNat then yesF F k else noF F k) (rn F g k i).toNat
    rw [ih (by omega) i hi, catF_lt (show 11 * k < n * 11 by omega)]
    by_cases e : g (F (11 * k)).toNat = true
    · rw [if_pos e, if_pos e]; exact yesF_lt (by omega) _ (by omega)
    · rw [if_neg e, if_neg e]; exact noF_lt (by omega) _ (by omega)
theorem rn_ge {F G : Nat → Int} {g : Nat → Bool} {n : Nat} (hF : ∀ k, k < n → perm (noF F k) ∧ perm (yesF F k)) : ∀ k i, i < 5 → rn (catF F G n) g (n + k) i = cmp (rn F g n) (rn G g k) i := by
  intro k
  induction k with
  | zero =>
    intro i hi
    have hb := (rn_bd (F := F) (g := g) (k := n) hF).1 i hi
    show rn (catF F G n) g n i = (((rn F g n i).toNat : Nat) : Int)
    rw [rn_lt hF n (Nat.le_refl _) i hi]; omega
  | succ k ih =>
    intro i hi
    show (if g (catF F G n (11 * (n + k))).toNat then yesF (catF F G n) (n + k) else noF (catF F G n) (n + k)) (rn (catF F G n) g (n + k) i).toNat = (if g (G (11 * k)).toNat then yesF G k else noF G k) (rn G g k (rn F g n i).toNat).toNat
    rw [ih i hi, bit_ge, yesF_ge, noF_ge]; rfl
theorem both_same {inn : Int} {F G : Nat → Int} {g : Nat → Bool} {n m p : Nat} (hF : rE inn F n p = 0) (hG : rE inn G m p = 0) (h : n + m ≤ 300) :
    (perm (rF inn F g n p) ∧ perm (rF inn G g m p)) ∧ eqB (rF inn (catF F G n) g (n + m) p) (thF (rF inn F g n p) (rF inn G g m p)) = true := by
  have e := both_fit hF hG h
  unfold rF
  rw [if_pos hF, if_pos hG, if_pos e]
  have f1 : ∀ k, k < n → perm (noF F k) ∧ perm (yesF F k) := fun k hk => (tE_zero ((rE_zero.1 hF).2.1 k hk)).2
  have f2 : ∀ k, k < m → perm (noF G k) ∧ perm (yesF G k) := fun k hk => (tE_zero ((rE_zero.1 hG).2.1 k hk)).2
  have p1 := rn_bd (g := g) f1
  have p2 := rn_bd (g := g) f2
  refine ⟨⟨p1, p2⟩, eqB_iff.2 fun i hi => ?_⟩
  rw [rn_ge f1 m i hi]
  show _ = (if perm (rn F g n) ∧ perm (rn G g m) then _ else _ : Nat → Int) i
  rw [if_pos ⟨p1, p2⟩]
set_option maxRecDepth 100000 in
set_option maxHeartbeats 2000000 in
theorem walk (w : World) (inn : Int) (A : Option Addr) (n c : Nat) (F : Nat → Int) (B : Option Addr) (m d : Nat) (G : Nat → Int) (C : Option Addr) (p q : Nat) (g : Nat → Bool) (wn : (Lit.int .i64 inn).wf = true)
    (h : Rd w A (n * 11) (fun q => .int .i64 (F q))) (wf : ∀ i, (Lit.int .i64 (F i)).wf = true) (hl : n ≤ c) (hm : c ≤ maxLen) (z : c ≤ 1048576) (h2 : Rd w B (m * 11) (fun q => .int .i64 (G q))) (wf2 : ∀ i, (Lit.int .i64 (G i)).wf = true) (hl2 : m ≤ d) (hm2 : d ≤ maxLen) (z2 : d ≤ 1048576) (h3 : Rd w C p (fun q => .bool (g q))) (hl3 : p ≤ q) (hm3 : q ≤ maxLen) (z3 : q ≤ 1048576) :
    Calls Try.prog 4 #[.int .i64 inn, .slice A n c, .slice B m d, .slice C p q] w fun e w' => e = .returned (.bool true) ∧ Below w.heap.size w w' := by
  have hnl : n ≤ 1048576 := by omega
  have hml : m ≤ 1048576 := by omega
  have hpl : p ≤ 1048576 := by omega
  have H := Lib.hid h
  have H2 := Lib.hid h2
  have H3 := Lib.hid h3
  clear wn wf hl hm z wf2 hl2 hm2 z2 hl3 hm3 z3 h h2 h3
  have hrot : ∀ W : World, (Op.equalIn 10000 22 (.agg #[.int .i64 2, .int .i64 3, .int .i64 4, .int .i64 0, .int .i64 1]) (.agg #[.int .i64 2, .int .i64 3, .int .i64 4, .int .i64 0, .int .i64 1])).run Try.prog W = .ok true W := fun W => eqI5 (cmp rot rot) (cmp rot rot) W
  go_enter Try.func4, Try.ntmps4
  go_wp2_with fail
  refine (then_rot _).mono ?_
  rintro e w1 ⟨rfl, hb1⟩
  have B1 := hb1.alloc hb1.size (.cells #[.int .i64 2, .int .i64 3, .int .i64 4, .int .i64 0, .int .i64 1] 22)
  have HB1 := Lib.hid B1
  clear hb1
  go_wp2_with fail
  refine (run_any inn A C n c p q F g _ (H.out.below B1) (H3.out.below B1) (by unfold maxLen; omega) (by unfold maxLen; omega)).mono ?_
  rintro e w2 ⟨rfl, hb2⟩
  have r2 := newrow5 w2 (rF inn F g n p)
  have B2 := (B1.trans (hb2.mono B1.size)).alloc (by have := B1.size; have := hb2.size; omega) (.cells #[.int .i64 (rF inn F g n p 0), .int .i64 (rF inn F g n p 1), .int .i64 (rF inn F g n p 2), .int .i64 (rF inn F g n p 3), .int .i64 (rF inn F g n p 4)] 22)
  clear hb2 B1 hrot
  go_wp2_with fail
  refine (run_any inn B C m d p q G g _ (H2.out.below B2) (H3.out.below B2) (by unfold maxLen; omega) (by unfold maxLen; omega)).mono ?_
  rintro e w3 ⟨rfl, hb3⟩
  have r3 := newrow5 w3 (rF inn G g m p)
  have s23 : w2.heap.size < w3.heap.size := by have := hb3.size; simp at this; omega
  have sz3 : w.heap.size ≤ w3.heap.size := by have := B2.size; have := hb3.size; omega
  have B3 := (B2.trans (hb3.mono B2.size)).alloc (by have := B2.size; have := hb3.size; omega) (.cells #[.int .i64 (rF inn G g m p 0), .int .i64 (rF inn G g m p 1), .int .i64 (rF inn G g m p 2), .int .i64 (rF inn G g m p 3), .int .i64 (rF inn G g m p 4)] 22)
  replace r2 := (row_below r2 hb3 (by simp)).alloc (.cells #[.int .i64 (rF inn G g m p 0), .int .i64 (rF inn G g m p 1), .int .i64 (rF inn G g m p 2), .int .i64 (rF inn G g m p 3), .int .i64 (rF inn G g m p 4)] 22)
  clear hb3 B2
  have hE := Own.empty (w3.alloc (.cells #[.int .i64 (rF inn G g m p 0), .int .i64 (rF inn G g m p 1), .int .i64 (rF inn G g m p 2), .int .i64 (rF inn G g m p 3), .int .i64 (rF inn G g m p 4)] 22)) (w3.alloc (.cells #[.int .i64 (rF inn G g m p 0), .int .i64 (rF inn G g m p 1), .int .i64 (rF inn G g m p 2), .int .i64 (rF inn G g m p 3), .int .i64 (rF inn G g m p 4)] 22)).heap.size 43 11 (fun _ => .int .i64 0) (Nat.le_refl _)
  rw [show (w3.alloc (.cells #[.int .i64 (rF inn G g m p 0), .int .i64 (rF inn G g m p 1), .int .i64 (rF inn G g m p 2), .int .i64 (rF inn G g m p 3), .int .i64 (rF inn G g m p 4)] 22)).heap.size = w3.heap.size + 1 by simp] at hE
  have B4 := B3.alloc B3.size (.cells #[] 43)
  have rA := H.out.below B4
  have q2 := r2.alloc (.cells #[] 43)
  have q3 := r3.alloc (.cells #[] 43)
  clear B3 r2 r3
  go_wp2_with (first
    | (at_builtin; refine wpList_app _ rfl (.tmp 48) (.tmp 49) 32 rfl ET rfl hE rfl (l := n * 11) rfl rA (fun _ _ => rfl) (by unfold maxLen; omega) (by omega) (by simp) n (n * 11) (by omega) (by omega) ?_; intro A2 c2 w4 hown2 hg2 hat2 hbl2; have B5 := B4.trans (hbl2.mono (by omega)); have rB := H2.out.below B5; have sz4 := hbl2.size)
    | (at_builtin; refine wpList_app _ rfl (.tmp 50) (.tmp 51) 32 rfl ET rfl hown2 rfl (l := m * 11) rfl rB (fun _ _ => rfl) (by unfold maxLen; omega) (by omega) (by simp at sz4; omega) (n + m) ((n + m) * 11) (by omega) (by omega) ?_; intro A3 c3 w5 hown3 hg3 hat3 hbl3))
  have B6 := B5.trans (hbl3.mono (by omega))
  have s2 := row_below (row_below q2 hbl2 (by omega)) hbl3 (by omega)
  have s3 := row_below (row_below q3 hbl2 (by omega)) hbl3 (by omega)
  have hcat : Rd w5 A3 ((n + m) * 11) (fun q => .int .i64 (catF F G n q)) := hown3.rd.congr fun q hq => by
    by_cases e : q < n * 11
    · rw [cat_lt e, cat_ge (Nat.zero_le _), catF_lt e, Nat.sub_zero]
    · rw [cat_ge (by omega)]
      unfold catF; rw [if_neg e]
  clear q2 q3 hown2 hg2 hat2 hbl2 hown3 hg3 hat3 hbl3 rA rB hE B4 B5 sz4
  refine (run_any inn A3 C (n + m) c3 p q (catF F G n) g w5 hcat (H3.out.below B6) (by unfold maxLen; omega) (by unfold maxLen; omega)).mono ?_
  rintro e w6 ⟨rfl, hb6⟩
  have B7 := (B6.trans (hb6.mono B6.size)).alloc (by have := B6.size; have := hb6.size; omega) (.cells #[.int .i64 (rF inn (catF F G n) g (n + m) p 0), .int .i64 (rF inn (catF F G n) g (n + m) p 1), .int .i64 (rF inn (catF F G n) g (n + m) p 2), .int .i64 (rF inn (catF F G n) g (n + m) p 3), .int .i64 (rF inn (catF F G n) g (n + m) p 4)] 22)
  have v2 := (row_below s2 hb6 s2.lt).alloc (.cells #[.int .i64 (rF inn (catF F G n) g (n + m) p 0), .int .i64 (rF inn (catF F G n) g (n + m) p 1), .int .i64 (rF inn (catF F G n) g (n + m) p 2), .int .i64 (rF inn (catF F G n) g (n + m) p 3), .int .i64 (rF inn (catF F G n) g (n + m) p 4)] 22)
  have v3 := (row_below s3 hb6 s3.lt).alloc (.cells #[.int .i64 (rF inn (catF F G n) g (n + m) p 0), .int .i64 (rF inn (catF F G n) g (n + m) p 1), .int .i64 (rF inn (catF F G n) g (n + m) p 2), .int .i64 (rF inn (catF F G n) g (n + m) p 3), .int .i64 (rF inn (catF F G n) g (n + m) p 4)] 22)
  have v6 := newrow5 w6 (rF inn (catF F G n) g (n + m) p)
  have sz6 : w2.heap.size < w6.heap.size ∧ w3.heap.size < w6.heap.size := ⟨by have := s2.lt; have := hb6.size; omega, by have := s3.lt; have := hb6.size; omega⟩
  obtain ⟨sz62, sz63⟩ := sz6
  clear hcat s2 s3 B6 hb6
  by_cases hz : rE inn F n p = 0 ∧ rE inn G m p = 0
  · obtain ⟨hX, hY⟩ := hz
    by_cases hnm : n + m ≤ 300
    · have hZ := both_fit hX hY hnm
      obtain ⟨⟨p1, p2⟩, hs⟩ := both_same (g := g) hX hY hnm
      have hth : thE (rF inn F g n p) (rF inn G g m p) = 0 := if_pos ⟨p1, p2⟩
      have heq := fun W => eqI5 (rF inn (catF F G n) g (n + m) p) (thF (rF inn F g n p) (rF inn G g m p)) W
      rw [hs] at heq
      obtain ⟨x0, x1, x2, x3, x4⟩ := cells5 v2
      obtain ⟨y0, y1, y2, y3, y4⟩ := cells5 v3
      clear p1 p2 hs
      go_wp2_with fail
      refine (Then_all (rF inn F g n p) (rF inn G g m p) _).mono ?_
      rintro e w8 ⟨rfl, hb8⟩
      have v8 := (row_below v6 hb8 (by simp)).alloc (.cells #[.int .i64 (thF (rF inn F g n p) (rF inn G g m p) 0), .int .i64 (thF (rF inn F g n p) (rF inn G g m p) 1), .int .i64 (thF (rF inn F g n p) (rF inn G g m p) 2), .int .i64 (thF (rF inn F g n p) (rF inn G g m p) 3), .int .i64 (thF (rF inn F g n p) (rF inn G g m p) 4)] 22)
      have B8 := (B7.trans (hb8.mono B7.size)).alloc (by have := B7.size; have := hb8.size; omega) (.cells #[.int .i64 (thF (rF inn F g n p) (rF inn G g m p) 0), .int .i64 (thF (rF inn F g n p) (rF inn G g m p) 1), .int .i64 (thF (rF inn F g n p) (rF inn G g m p) 2), .int .i64 (thF (rF inn F g n p) (rF inn G g m p) 3), .int .i64 (thF (rF inn F g n p) (rF inn G g m p) 4)] 22)
      have sz8 : w6.heap.size < w8.heap.size := by have := hb8.size; simp at this; omega
      obtain ⟨u0, u1, u2, u3, u4⟩ := cells5 v8
      clear x0 x1 x2 x3 x4 y0 y1 y2 y3 y4 hb8 v8 v2 v3 v6 B7
      go_wp2_with fail
      go_ret
      exact ⟨rfl, B8⟩
    · have hZ := both_large (inn := inn) (F := F) (G := G) (p := p) (show 300 < n + m by omega)
      have hnm' : (300 : Int) < (n : Int) + m := by omega
      clear hnm
      go_wp2_with fail
      go_ret
      exact ⟨rfl, B7⟩
  · have hne : rE inn (catF F G n) (n + m) p ≠ 0 := fun h => hz (both_zero h)
    have hq : (rE inn (catF F G n) (n + m) p != 0) = true := by rw [bne_iff_ne]; exact hne
    clear hne
    by_cases hX : rE inn F n p = 0
    · have hY : (rE inn G m p != 0) = true := by rw [bne_iff_ne]; exact fun h => hz ⟨hX, h⟩
      clear hz
      go_wp2_with fail
      go_ret
      exact ⟨rfl, B7⟩
    · have hX' : (rE inn F n p != 0) = true := by rw [bne_iff_ne]; exact hX
      clear hz hX
      go_wp2_with fail
      go_ret
      exact ⟨rfl, B7⟩
end Go.Proofs.Ytmhicimjoidonaa.wideBoth
