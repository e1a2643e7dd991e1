/- comb's Out; the references' Insted; Norm of any list. Conditions: the lists read as told. -/
import Derived.Test.YtmbemikhbcjfmaaCombOutF
namespace Go.Proofs.Ytmbemikhbcjfmaa
open Go.ChangeShapes Go.WideShapes Go.ChangeAt Go.RowKit
set_option linter.unusedVariables false
set_option linter.unusedSimpArgs false
set_option maxRecDepth 100000 in
set_option maxHeartbeats 2000000 in
theorem Out_any (A : Option Addr) (n c : Nat) (v : Int) (L : Nat → Cb) (w : World) (h : Rd w A (n * 4) (lcC L)) (hz : ckE L n = 0) (hv : 0 ≤ v ∧ v ≤ 1000) :
    Calls Try.prog 16 #[.slice A n c, .int .i64 v] w fun e w' => ToP (oT v (dec L (n - 1))) e w' ∧ Below w.heap.size w w' := by
  obtain ⟨hn, hok, hsz⟩ := ckE_zero hz
  have hck := check_any A n c L w h (by unfold maxLen; omega)
  rw [hz] at hck
  have HCK := Lib.hid hck
  have HRD := Lib.hid (fun X (hX : Below w.heap.size w X) => read_any A n c L X (h.below hX) hok (by omega))
  have hos := oT_sz v (dec L (n - 1))
  have HOS : Hid ((oT v (dec L (n - 1))).sz ≤ 100000) := Lib.hid (by omega)
  clear h hck hz hok hsz hos
  go_enter Try.func16, Try.ntmps16
  go_wp2_with fail
  refine HCK.out.mono ?_
  rintro e w1 ⟨rfl, hb1⟩
  have HB1 := Lib.hid hb1
  clear hb1
  go_wp2_with fail
  refine (HRD.out w1 HB1.out).mono ?_
  rintro e w2 ⟨⟨g, rfl, ht⟩, hb2⟩
  have HT := Lib.hid ht
  have HB2 := Lib.hid (HB1.out.trans (hb2.mono HB1.out.size))
  clear ht hb2
  go_wp2_with fail
  refine (out_any v _ g w2 HT.out).mono ?_
  rintro e w3 ⟨⟨g3, rfl, ht3⟩, hb3⟩
  have HT3 := Lib.hid ht3
  have HB3 := Lib.hid (HB2.out.trans (hb3.mono HB2.out.size))
  clear ht3 hb3
  go_wp2_with fail
  refine (told_any _ g3 w3 HT3.out HOS.out).mono ?_
  rintro e w4 ⟨hp, hb4⟩
  have HB4 := Lib.hid (HB3.out.trans (hb4.mono HB3.out.size))
  clear hb4
  rcases hp with ⟨hb, rfl⟩ | ⟨hl, A', c', rfl, h1, h2, h3⟩
  · go_wp2_with fail
    go_ret2
    exact ⟨.inl ⟨hb, rfl⟩, HB4.out⟩
  · have HP : Hid (ToP (oT v (dec L (n - 1))) (.returned (.tuple #[.slice A' (oT v (dec L (n - 1))).sz c', .int .i64 0])) w4) := Lib.hid (.inr ⟨hl, A', c', rfl, h1, h2, h3⟩)
    clear hl h1 h2 h3
    go_wp2_with fail
    go_ret2
    exact ⟨HP.out, HB4.out⟩
set_option maxRecDepth 100000 in
set_option maxHeartbeats 2000000 in
theorem Out_bad (A : Option Addr) (n c : Nat) (v : Int) (L : Nat → Cb) (w : World) (h : Rd w A (n * 4) (lcC L)) (hn : n ≤ maxLen) (hz : ckE L n ≠ 0 ∨ ¬ (0 ≤ v ∧ v ≤ 1000)) :
    Calls Try.prog 16 #[.slice A n c, .int .i64 v] w fun e w' => (∃ x : Int, (x != 0) = true ∧ e = .returned (.tuple #[.slice none 0 0, .int .i64 x])) ∧ Below w.heap.size w w' := by
  have hck := check_any A n c L w h hn
  clear h hn
  by_cases h0 : ckE L n = 0
  · have hv : ¬ (0 ≤ v ∧ v ≤ 1000) := by
      rcases hz with e | e
      · exact absurd h0 e
      · exact e
    rw [h0] at hck
    have HCK := Lib.hid hck
    clear hck hz h0
    by_cases h1 : v < 0
    · go_enter Try.func16, Try.ntmps16
      go_wp2_with fail
      refine HCK.out.mono ?_
      rintro e w2 ⟨rfl, hb⟩
      go_wp2_with fail
      go_ret2
      exact ⟨⟨4, rfl, rfl⟩, hb⟩
    · have h2 : 1000 < v := by omega
      go_enter Try.func16, Try.ntmps16
      go_wp2_with fail
      refine HCK.out.mono ?_
      rintro e w2 ⟨rfl, hb⟩
      go_wp2_with fail
      go_ret2
      exact ⟨⟨4, rfl, rfl⟩, hb⟩
  · obtain ⟨x, hx⟩ : ∃ x, x = ckE L n := ⟨_, rfl⟩
    rw [← hx] at hck h0
    have q : (x != 0) = true := by rw [bne_iff_ne]; exact h0
    have HCK := Lib.hid hck
    clear hck hz hx h0
    go_enter Try.func16, Try.ntmps16
    go_wp2_with fail
    refine HCK.out.mono ?_
    rintro e w2 ⟨rfl, hb⟩
    go_wp2_with fail
    go_ret2
    exact ⟨⟨x, q, rfl⟩, hb⟩
set_option maxRecDepth 100000 in
theorem rputT_any (w0 W : World) (ta tb : Tm) (ga gb : Nat) (ha : TAt 43 W ta ga) (hb : TAt 43 W tb gb) :
    Calls Try.prog 26 #[.pointer (some ⟨ga, 0, none⟩), .pointer (some ⟨gb, 0, none⟩)] W fun e w' => (∃ g, e = .returned (.pointer (some ⟨g, 0, none⟩)) ∧ TAt 43 w' (.ap ta tb) g) ∧ Below W.heap.size W w' := by
  have hbel : Below W.heap.size W (W.alloc (.cells #[.int .i64 4, .int .i64 0, .pointer (some ⟨ga, 0, none⟩), .pointer (some ⟨gb, 0, none⟩)] 43)) := (Below.refl _ _).alloc (Nat.le_refl _) _
  have HT : Hid (TAt 43 (W.alloc (.cells #[.int .i64 4, .int .i64 0, .pointer (some ⟨ga, 0, none⟩), .pointer (some ⟨gb, 0, none⟩)] 43)) (.ap ta tb) W.heap.size) := Lib.hid ⟨ga, gb, row4 W _ _ _ _ _ _ rfl rfl rfl rfl, ha.below hbel, hb.below hbel⟩
  clear ha hb hbel
  go_enter Try.func26, Try.ntmps26
  go_wp2_with fail
  go_ret
  exact ⟨⟨W.heap.size, rfl, HT.out⟩, (Below.refl _ _).alloc (Nat.le_refl _) _⟩
set_option maxRecDepth 100000 in
set_option maxHeartbeats 4000000 in
theorem insted_any (v : Int) (x : Tm) : ∀ (t : Tm) (g q : Nat) (w : World), TAt 43 w t g → TAt 43 w x q → Calls Try.prog 17 #[.pointer (some ⟨g, 0, none⟩), .int .i64 v, .pointer (some ⟨q, 0, none⟩)] w fun e w' => (∃ p, e = .returned (.pointer (some ⟨p, 0, none⟩)) ∧ TAt 43 w' (iT v x t) p) ∧ Below w.heap.size w w'
  | .lf k y, g, q, w, h, hx => by
    have c0 : w.cell? ⟨g, 0, none⟩ = some (.int .i64 k) := h.2.2.2.cell (i := 0) (by omega)
    have c1 : w.cell? ⟨g, 1, none⟩ = some (.int .i64 y) := h.2.2.2.cell (i := 1) (by omega)
    have q4 : (k == 4) = false := by rw [beq_eq_false_iff_ne]; exact h.1
    have HH := Lib.hid h
    have HX := Lib.hid hx
    clear h hx
    by_cases h3 : k = 3
    · subst h3
      by_cases hy : y = v
      · subst hy
        have hyy : (y == y) = true := by simp
        rw [show iT y x (.lf 3 y) = x by unfold iT; rw [if_pos ⟨rfl, rfl⟩]]
        go_enter Try.func17, Try.ntmps17
        go_wp2_with fail
        go_ret
        exact ⟨⟨q, rfl, HX.out⟩, Below.refl _ _⟩
      · have qy : (y == v) = false := by rw [beq_eq_false_iff_ne]; exact hy
        rw [show iT v x (.lf 3 y) = .lf 3 y by unfold iT; rw [if_neg (fun e => hy e.2)]]
        go_enter Try.func17, Try.ntmps17
        go_wp2_with fail
        go_ret
        exact ⟨⟨g, rfl, HH.out⟩, Below.refl _ _⟩
    · have q3 : (k == 3) = false := by rw [beq_eq_false_iff_ne]; exact h3
      rw [show iT v x (.lf k y) = .lf k y by unfold iT; rw [if_neg (fun e => h3 e.1)]]
      go_enter Try.func17, Try.ntmps17
      go_wp2_with fail
      go_ret
      exact ⟨⟨g, rfl, HH.out⟩, Below.refl _ _⟩
  | .ap a b, g, q, w, h, hx => by
    obtain ⟨ga, gb, hrow, hta, htb⟩ := h
    have hcs : ∀ X : World, Below w.heap.size w X → X.cell? ⟨g, 0, none⟩ = some (.int .i64 4) ∧ X.cell? ⟨g, 2, none⟩ = some (.pointer (some ⟨ga, 0, none⟩)) ∧ X.cell? ⟨g, 3, none⟩ = some (.pointer (some ⟨gb, 0, none⟩)) := fun X hX => by
      have hr := row_below hrow hX hrow.lt
      exact ⟨hr.cell (i := 0) (by omega), hr.cell (i := 2) (by omega), hr.cell (i := 3) (by omega)⟩
    have HCS := Lib.hid hcs
    have HA := Lib.hid (fun X (hX : Below w.heap.size w X) => insted_any v x a ga q X (hta.below hX) (hx.below hX))
    have HBB := Lib.hid (fun X (hX : Below w.heap.size w X) => insted_any v x b gb q X (htb.below hX) (hx.below hX))
    obtain ⟨d0, d2, d3⟩ := HCS.out _ (Below.refl _ _)
    have hr1 := Below.refl w.heap.size w
    have hr1d := (Below.refl w.heap.size w).drew
    rw [show iT v x (.ap a b) = .ap (iT v x a) (iT v x b) from rfl]
    clear hcs hrow hta htb hx
    go_enter Try.func17, Try.ntmps17
    go_wp2_with fail
    go_region_held3 (fun W => W.cell? ⟨g, 0, none⟩ = some (.int .i64 4) ∧ W.cell? ⟨g, 2, none⟩ = some (.pointer (some ⟨ga, 0, none⟩)) ∧ W.cell? ⟨g, 3, none⟩ = some (.pointer (some ⟨gb, 0, none⟩))) (first | exact cs6 | exact cs5 | exact cs4 | go_keep) (first
      | (go_at_call 26; (with_reducible refine (rputT_any w _ _ _ _ _ (ht4.below hb5) ht5).mono ?_); rintro e w6 ⟨⟨p6, rfl, ht6⟩, hb6⟩; have hbe6 := hbe5.trans (hb6.mono hbe5.size); have cs6 := HCS.out _ hbe6)
      | (go_at_call 17; (with_reducible refine (HBB.out _ hbe4).mono ?_); rintro e w5 ⟨⟨p5, rfl, ht5⟩, hb5⟩; have hbe5 := hbe4.trans (hb5.mono hbe4.size); have cs5 := HCS.out _ hbe5)
      | (go_at_call 17; (with_reducible refine (HA.out _ hr1).mono ?_); rintro e w4 ⟨⟨p4, rfl, ht4⟩, hb4⟩; have hbe4 := hr1.trans (hb4.mono hr1.size); have cs4 := HCS.out _ hbe4)
      | (go_at_call 17; (with_reducible refine (HA.out _ hr1d).mono ?_); rintro e w4 ⟨⟨p4, rfl, ht4⟩, hb4⟩; have hbe4 := hr1d.trans (hb4.mono hr1d.size); have cs4 := HCS.out _ hbe4))
    all_goals
      go_wp2_with fail
      go_ret
      exact ⟨⟨p6, rfl, ht6⟩, hbe6⟩
/-- Norm of any list, 60 steps -/
def N6 (L : Nat → Cb) (n : Nat) (e : Ending) (w' : World) : Prop :=
  (∃ x : Int, (x != 0) = true ∧ e = .returned (.tuple #[.slice none 0 0, .int .i64 0, .int .i64 x])) ∨
  (∃ (i : Nat) (u : Tm) (A : Option Addr) (c : Nat), i ≤ 60 ∧ Nrm (dec L (n - 1)) i u ∧ (i = 60 ∨ stp u = none) ∧ u.sz ≤ 300 ∧ e = .returned (.tuple #[.slice A u.sz c, .int .i64 (i : Nat), .int .i64 0]) ∧ Rd w' A (u.sz * 4) (lcC (wrF u (fun _ => (0, 0, 0, 0)) 0)))
set_option maxRecDepth 100000 in
set_option maxHeartbeats 2000000 in
theorem norm6_any (A : Option Addr) (n c : Nat) (L : Nat → Cb) (w : World) (h : Rd w A (n * 4) (lcC L)) (hn : n ≤ maxLen) :
    Calls Try.prog 6 #[.slice A n c, .int .i64 60] w fun e w' => N6 L n e w' ∧ Below w.heap.size w w' := by
  by_cases hz : ckE L n = 0
  · refine (norm_any A n c 60 L w h hz (by omega)).mono ?_
    rintro e w' ⟨hp, hb⟩
    refine ⟨?_, hb⟩
    rcases hp with ⟨rfl, _⟩ | ⟨i, u, A6, c6, hi, hnr, he, hus, rfl, hl6, hm6, hrd6⟩
    · exact .inl ⟨7, rfl, rfl⟩
    · exact .inr ⟨i, u, A6, c6, hi, hnr, he, hus, rfl, hrd6⟩
  · have hck := check_any A n c L w h hn
    obtain ⟨v, hv⟩ : ∃ v, v = ckE L n := ⟨_, rfl⟩
    rw [← hv] at hck hz
    have q : (v != 0) = true := by rw [bne_iff_ne]; exact hz
    have HCK := Lib.hid hck
    clear h hck hv hz hn
    go_enter Try.func6, Try.ntmps6
    go_wp2_with fail
    refine HCK.out.mono ?_
    rintro e w2 ⟨rfl, hb⟩
    go_wp2_with fail
    go_ret3
    exact ⟨.inl ⟨v, q, rfl⟩, hb⟩
end Go.Proofs.Ytmbemikhbcjfmaa
