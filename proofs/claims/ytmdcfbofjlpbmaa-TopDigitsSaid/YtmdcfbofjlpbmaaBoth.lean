/- What code.Both computes; orders, and others behind them. Conditions: as each theorem states. -/
import Derived.Test.YtmdcfbofjlpbmaaMoved
import Derived.Test.YtmdcfbofjlpbmaaGivenLaw
namespace Go.Proofs.Ytmdcfbofjlpbmaa
open Go.ChangeShapes Go.WideShapes Go.ChangeAt Go.RowKit
set_option linter.unusedVariables false
/-- orders, and others behind them -/
def btF (F : Nat → Int) (n : Nat) (G : Nat → Int) (q : Nat) : Int := if q < 4 * n then F q else mvF G n (q - 4 * n)
theorem btF_lo (F G : Nat → Int) {n i : Nat} (h : i < n) : btF F n G (4 * i) = F (4 * i) ∧ btF F n G (4 * i + 1) = F (4 * i + 1) ∧ btF F n G (4 * i + 2) = F (4 * i + 2) ∧ btF F n G (4 * i + 3) = F (4 * i + 3) :=
  ⟨if_pos (by omega), if_pos (by omega), if_pos (by omega), if_pos (by omega)⟩
theorem btF_hi (F G : Nat → Int) (n i : Nat) : btF F n G (4 * (n + i)) = G (4 * i) ∧ btF F n G (4 * (n + i) + 1) = G (4 * i + 1) ∧ btF F n G (4 * (n + i) + 2) = G (4 * i + 2) + n ∧ btF F n G (4 * (n + i) + 3) = G (4 * i + 3) + n := by
  unfold btF mvF
  refine ⟨?_, ?_, ?_, ?_⟩
  · rw [if_neg (by omega), if_neg (by omega), show 4 * (n + i) - 4 * n = 4 * i by omega]
  · rw [if_neg (by omega), if_neg (by omega), show 4 * (n + i) + 1 - 4 * n = 4 * i + 1 by omega]
  · rw [if_neg (by omega), if_pos (by omega), show 4 * (n + i) + 2 - 4 * n = 4 * i + 2 by omega]
  · rw [if_neg (by omega), if_pos (by omega), show 4 * (n + i) + 3 - 4 * n = 4 * i + 3 by omega]
theorem oE_bt {cs : Int} {n m : Nat} {F G : Nat → Int} (hF : ∀ i, i < n → oE cs n F i = 0) (hG : ∀ i, i < m → oE cs m G i = 0) : ∀ i, i < n + m → oE cs (n + m) (btF F n G) i = 0 := fun i hi => by
  unfold oE
  by_cases h : i < n
  · obtain ⟨a, b, c, d⟩ := btF_lo F G h
    obtain ⟨o1, o2, o3, o4⟩ := oE_zero (hF i h)
    rw [a, b, c, d, if_neg (by omega), if_neg (by omega), if_neg (by omega)]
  · obtain ⟨j, rfl⟩ : ∃ j, i = n + j := ⟨i - n, by omega⟩
    obtain ⟨a, b, c, d⟩ := btF_hi F G n j
    obtain ⟨o1, o2, o3, o4⟩ := oE_zero (hG j (by omega))
    rw [a, b, c, d, if_neg (by omega), if_neg (by omega), if_neg (by omega)]
/-- as long as the first ones are at work -/
theorem both_first {cs : Int} {n m : Nat} {F G : Nat → Int} (hF : ∀ i, i < n → oE cs n F i = 0) (C : Nat → Int) : ∀ t, (∀ s, s < t → (runS F n C 0 s).2 < n) → runS (btF F n G) (n + m) C 0 t = runS F n C 0 t ∧ 0 ≤ (runS F n C 0 t).2 ∧ (runS F n C 0 t).2 ≤ n
  | 0, _ => ⟨rfl, Int.le_refl _, by show (0 : Int) ≤ n; omega⟩
  | t + 1, h => by
    obtain ⟨ih, p0, p1⟩ := both_first (m := m) (G := G) hF C t fun s hs => h s (by omega)
    have hlt := h t (by omega)
    show st1 _ _ (runS (btF F n G) (n + m) C 0 t) = st1 F n (runS F n C 0 t) ∧ 0 ≤ (st1 F n (runS F n C 0 t)).2 ∧ (st1 F n (runS F n C 0 t)).2 ≤ n
    rw [ih]
    generalize runS F n C 0 t = s at *
    obtain ⟨D, a⟩ := s
    obtain ⟨q, hq⟩ := Int.eq_ofNat_of_zero_le (show 0 ≤ a from p0)
    subst hq
    have hqn : q < n := by have : (q : Int) < n := hlt; omega
    rw [st1_go (s := (D, (q : Int))) (q := q) rfl hqn, st1_go (s := (D, (q : Int))) (q := q) rfl (by omega)]
    obtain ⟨a, b, c, d⟩ := btF_lo F G hqn
    obtain ⟨o1, o2, o3, o4⟩ := oE_zero (hF q hqn)
    rw [a, b, c, d]
    refine ⟨rfl, ?_⟩
    show 0 ≤ tN _ _ _ _ D ∧ tN _ _ _ _ D ≤ (n : Int)
    unfold tN
    by_cases h1 : F (4 * q) = 1
    · rw [if_pos h1]; exact o3
    · rw [if_neg h1]
      split
      · exact o4 (by omega)
      · exact o3
theorem both_then {cs : Int} {n m : Nat} {F G : Nat → Int} (hG : ∀ i, i < m → oE cs m G i = 0) (C : Nat → Int) : ∀ j, runS (btF F n G) (n + m) C n j = ((runS G m C 0 j).1, (runS G m C 0 j).2 + n) ∧ 0 ≤ (runS G m C 0 j).2 ∧ (runS G m C 0 j).2 ≤ m
  | 0 => ⟨by show (C, (n : Int)) = (C, 0 + (n : Int)); rw [Int.zero_add], Int.le_refl _, by show (0 : Int) ≤ m; omega⟩
  | j + 1 => by
    obtain ⟨ih, p0, p1⟩ := both_then (F := F) (n := n) hG C j
    show st1 _ _ (runS _ _ C n j) = ((st1 G m (runS G m C 0 j)).1, (st1 G m (runS G m C 0 j)).2 + n) ∧ 0 ≤ (st1 G m (runS G m C 0 j)).2 ∧ (st1 G m (runS G m C 0 j)).2 ≤ m
    rw [ih]
    generalize runS G m C 0 j = s at *
    obtain ⟨D, a⟩ := s
    obtain ⟨q, hq⟩ := Int.eq_ofNat_of_zero_le (show 0 ≤ a from p0)
    subst hq
    by_cases hlt : q < m
    · rw [st1_go (s := (D, (q : Int))) (q := q) rfl hlt, st1_go (s := (D, (q : Int) + (n : Int))) (q := n + q) (by show (q : Int) + n = _; omega) (by omega)]
      obtain ⟨a, b, c, d⟩ := btF_hi F G n q
      obtain ⟨o1, o2, o3, o4⟩ := oE_zero (hG q hlt)
      rw [a, b, c, d]
      show (tC _ _ D, tN _ _ _ _ D) = (tC _ _ D, tN _ _ _ _ D + n) ∧ 0 ≤ tN _ _ _ _ D ∧ tN _ _ _ _ D ≤ (m : Int)
      unfold tN
      by_cases h1 : G (4 * q) = 1
      · rw [if_pos h1, if_pos h1]; exact ⟨rfl, o3.1, o3.2⟩
      · rw [if_neg h1, if_neg h1]
        have h2 := o4 (by omega)
        split
        · exact ⟨rfl, h2.1, h2.2⟩
        · exact ⟨rfl, o3.1, o3.2⟩
    · rw [st1_stop (s := (D, (q : Int))) (by show ¬ (q : Int) < m; omega), st1_stop (s := (D, (q : Int) + (n : Int))) (by show ¬ (q : Int) + n < ((n + m : Nat) : Int); omega)]
      exact ⟨rfl, p0, p1⟩
/-- where a run stands: when it came there -/
theorem stands {F : Nat → Int} {n : Nat} {C : Nat → Int} : ∀ T, ¬ (runS F n C 0 T).2 < n → ∃ t, t ≤ T ∧ (∀ s, s < t → (runS F n C 0 s).2 < n) ∧ ¬ (runS F n C 0 t).2 < n ∧ runD F n C 0 T = t
  | 0, h => ⟨0, Nat.le_refl _, fun s hs => absurd hs (Nat.not_lt_zero _), h, rfl⟩
  | T + 1, h => by
    by_cases hT : (runS F n C 0 T).2 < n
    · refine ⟨T + 1, Nat.le_refl _, fun s hs => ?_, h, ?_⟩
      · rcases Nat.lt_or_ge s T with h1 | h1
        · refine Classical.byContradiction fun hn => ?_
          exact absurd hT (by rw [(runS_stop hn T (by omega)).1]; exact hn)
        · obtain rfl : s = T := by omega
          exact hT
      · have e : runD F n C 0 (T + 1) = if (runS F n C 0 T).2 < n then runD F n C 0 T + 1 else runD F n C 0 T := rfl
        rw [e, if_pos hT, runD_stands hT]
    · obtain ⟨t, h1, h2, h3, h4⟩ := stands T hT
      refine ⟨t, by omega, h2, h3, ?_⟩
      have e : runD F n C 0 (T + 1) = if (runS F n C 0 T).2 < n then runD F n C 0 T + 1 else runD F n C 0 T := rfl
      rw [e, if_neg hT, h4]
/-- TURING; GOEDEL: one behind the other -/
theorem both_law {cs : Int} {n m : Nat} {F G : Nat → Int} (hF : ∀ i, i < n → oE cs n F i = 0) (hG : ∀ i, i < m → oE cs m G i = 0) (C : Nat → Int) {T T2 : Nat} (hT : T + T ≤ T2)
    (h1 : ¬ (runS F n C 0 T).2 < n) (h2 : ¬ (runS G m (runS F n C 0 T).1 0 T).2 < m) :
    runS (btF F n G) (n + m) C 0 T2 = ((runS G m (runS F n C 0 T).1 0 T).1, (runS G m (runS F n C 0 T).1 0 T).2 + n) ∧ runD F n C 0 T + runD G m (runS F n C 0 T).1 0 T ≤ T + T := by
  obtain ⟨t, ht, ha, hb, hd⟩ := stands T h1
  obtain ⟨e1, p0, p1⟩ := both_first (m := m) (G := G) hF C t ha
  have est : runS F n C 0 T = runS F n C 0 t := (runS_stop hb T ht).1
  have hpos : (runS F n C 0 t).2 = (n : Int) := by omega
  rw [est] at h2 ⊢
  obtain ⟨u, hu, hc, hd2, he⟩ := stands T h2
  refine ⟨?_, by omega⟩
  obtain ⟨j, rfl⟩ : ∃ j, T2 = t + j := ⟨T2 - t, by omega⟩
  rw [runS_add, e1, hpos, (both_then hG _ j).1]
  have := (runS_stop h2 j (by omega)).1
  rw [this]
set_option maxRecDepth 100000 in
set_option maxHeartbeats 1000000 in
theorem both_any (cs : Int) (A1 : Option Addr) (M1 c1 : Nat) (g1 : Nat → Int) (A2 : Option Addr) (M2 c2 : Nat) (g2 : Nat → Int) (w : World) (r1 : Rd w A1 M1 (fun i => .int .i64 (g1 i))) (l1 : M1 ≤ c1) (m1 : c1 ≤ maxLen) (z1 : M1 * 8 ≤ 140737488351232) (r2 : Rd w A2 M2 (fun i => .int .i64 (g2 i))) (l2 : M2 ≤ c2) (m2 : c2 ≤ maxLen) (z2 : M2 * 8 ≤ 140737488351232) (h1 : ordE cs M1 g1 = 0) (h2 : ordE cs M2 g2 = 0) :
    Calls Try.prog 5 #[.int .i64 cs, .slice A1 M1 c1, .slice A2 M2 c2] w fun e w' => Below w.heap.size w w' ∧ ∃ A c, e = .returned (.tuple #[.slice A (4 * (M1 / 4 + M2 / 4)) c, .int .i64 0]) ∧ Rd w' A (4 * (M1 / 4 + M2 / 4)) (fun q => .int .i64 (dgF (btF g1 (M1 / 4) g2) q)) ∧ 4 * (M1 / 4 + M2 / 4) ≤ c ∧ c ≤ maxLen := by
  have HORD1 := Lib.hid (orders_any cs A1 M1 c1 g1 w r1 l1 m1 z1)
  have HORD2 := Lib.hid (fun W (hW : Below w.heap.size w W) => orders_any cs A2 M2 c2 g2 W (r2.below hW) l2 m2 z2)
  obtain ⟨⟨p1, p2, p3, p4⟩, p5⟩ := ord_bd h1
  obtain ⟨⟨q1, q2, q3, q4⟩, q5⟩ := ord_bd h2
  have H1 := Lib.hid h1
  have H2 := Lib.hid h2
  obtain ⟨n, hn⟩ : ∃ n, n = M1 / 4 := ⟨_, rfl⟩
  obtain ⟨m, hm⟩ : ∃ m, m = M2 / 4 := ⟨_, rfl⟩
  rw [← hn] at p1 p2 p5 ⊢
  rw [← hm] at q1 q2 q5 ⊢
  have HN := Lib.hid hn
  have HM := Lib.hid hm
  have HQ5 := Lib.hid q5
  clear r1 r2 l1 l2 m1 m2 z1 z2 h1 h2 p3 p4 p5 q3 q4 q5 hn hm
  go_enter Try.func5, Try.ntmps5
  go_wp2_with fail
  refine HORD1.out.mono ?_
  intro e w1 hr
  obtain ⟨hb1, hr⟩ := hr
  rcases hr with ⟨hne, _⟩ | ⟨_, A3, c3, rfl, hR3, hl3, hm3⟩
  · exact absurd H1.out hne
  rw [← HN.out] at hR3 hl3
  rw [← HN.out]
  have HB1 := Lib.hid hb1
  have HR3 := Lib.hid hR3
  clear hb1 hR3 HORD1
  go_wp2_with fail
  refine (HORD2.out _ HB1.out).mono ?_
  intro e w2 hr
  obtain ⟨hb2, hr⟩ := hr
  rcases hr with ⟨hne, _⟩ | ⟨_, A4, c4, rfl, hR4, hl4, hm4⟩
  · exact absurd H2.out hne
  rw [← HM.out] at hR4 hl4
  rw [← HM.out]
  have HB2 := Lib.hid (HB1.out.trans (hb2.mono HB1.out.size))
  have HR3b := Lib.hid (HR3.out.below hb2)
  have HR4 := Lib.hid hR4
  clear hb2 hR4 HORD2 HR3 HB1
  go_wp2_with fail
  refine (cloneOrd_any A3 n c3 g1 w2 HR3b.out (by omega)).mono ?_
  rintro e w3 ⟨A5, c5, rfl, hown5, hb3⟩
  have HB3 := Lib.hid (HB2.out.trans (hb3.mono HB2.out.size))
  have HO5 := Lib.hid (hown5.base_le HB2.out.size)
  have HR4b := Lib.hid (HR4.out.below hb3)
  clear hb3 hown5 HB2 HR3b HR4
  go_wp2_with fail
  refine (moved_any A4 m c4 g2 n w3 HR4b.out (by omega) (by omega) (by omega) (fun j hj => by have := HQ5.out j hj; omega)).mono ?_
  rintro e w4 ⟨A6, c6, rfl, hR6, hl6, hm6, hb4⟩
  have HO5b := Lib.hid (HO5.out.below hb4)
  have HB4 := Lib.hid (HB3.out.trans (hb4.mono HB3.out.size))
  have HR6 := Lib.hid hR6
  have hs4 := HB4.out.size
  clear hb4 hR6 HO5 HB3 HR4b
  go_wp2_with (at_builtin; refine wpList_app _ rfl (.tmp 30) (.tmp 34) 22 rfl EO4 rfl HO5b.out rfl (l := m * 4) rfl HR6.out (fun _ _ => rfl) (by unfold maxLen; omega) (by omega) hs4 (n + m) (n * 4 + m * 4) rfl rfl ?_; intro A7 c7 w5 hown7 hg7 hat7 hbl7; have HO7 := Lib.hid hown7; have HB5 := Lib.hid (HB4.out.trans hbl7); clear hown7 hbl7)
  have hrd : Rd w5 A7 ((n + m) * 4) (fun q => .int .i64 (btF g1 n g2 q)) := by
    have := HO7.out.rd
    rw [show n * 4 + m * 4 = (n + m) * 4 by omega] at this
    refine this.congr fun q hq => ?_
    unfold btF
    by_cases e : q < n * 4
    · rw [cat_lt e, if_pos (by omega)]
    · rw [cat_ge (by omega), if_neg (by omega), show q - 4 * n = q - n * 4 by omega]
  refine (digits_any A7 (n + m) c7 (btF g1 n g2) w5 hrd (by omega)).mono ?_
  rintro e w6 ⟨A8, c8, rfl, hown8, hb6⟩
  have HB6 := Lib.hid (HB5.out.trans (hb6.mono HB5.out.size))
  have hle8 := hown8.le
  have HR8 := Lib.hid hown8.rd
  clear hown8 hb6 hrd
  go_wp2_with fail
  go_ret2
  exact ⟨HB6.out, A8, c8, rfl, HR8.out, hle8.1, hle8.2⟩
end Go.Proofs.Ytmdcfbofjlpbmaa
