/- guess.Zeros. Condition: the terms read as told. -/
import Derived.Test.YtoodmoliglhpiaaZeroLaw
import Derived.Test.YtoodmoliglhpiaaStillT
import Derived.Test.YtoodmoliglhpiaaRow
import Derived.IntWalk
import Derived.BigQuiet
import Derived.Deep.RegionLaw
import Derived.Deep.DeepMust
namespace Go.Proofs.Ytoodmoliglhpiaa
open Go.ChangeShapes Go.WideShapes Go.ChangeAt Go.RowKit Go.Maps PolyL
set_option linter.unusedVariables false
set_option linter.unusedSimpArgs false
theorem row1 (w : World) (t : TypeId) (a : Value) (F : Nat → Value) (h0 : F 0 = a) : (w.alloc (.cells #[a] t)).rowIs w.heap.size t 1 F :=
  World.rowIs_alloc w #[a] t F fun i hi => by
    have : i < 1 := hi
    match i, this with
    | 0, _ => simp [h0]
theorem row2 (w : World) (t : TypeId) (a b : Value) (F : Nat → Value) (h0 : F 0 = a) (h1 : F 1 = b) : (w.alloc (.cells #[a, b] t)).rowIs w.heap.size t 2 F :=
  World.rowIs_alloc w #[a, b] t F fun i hi => by
    have : i < 2 := hi
    match i, this with
    | 0, _ => simp [h0]
    | 1, _ => simp [h1]
theorem row3 (w : World) (t : TypeId) (a b c : Value) (F : Nat → Value) (h0 : F 0 = a) (h1 : F 1 = b) (h2 : F 2 = c) : (w.alloc (.cells #[a, b, c] t)).rowIs w.heap.size t 3 F :=
  World.rowIs_alloc w #[a, b, c] t F fun i hi => by
    have : i < 3 := hi
    match i, this with
    | 0, _ => simp [h0]
    | 1, _ => simp [h1]
    | 2, _ => simp [h2]
theorem grown_set (W : World) (g o : Nat) (v : Value) : W.grownBy (W.setCell ⟨g, o, none⟩ v) (some g) := ⟨rfl, rfl, rfl, by simp [World.setCell], fun i _ hne => Below.heap_setCell _ _ _ _ (fun e => hne (by rw [e]))⟩
theorem below_grown {w W W' : World} {g : Nat} (h : Below w.heap.size w W) (hg : W.grownBy W' (some g)) (hge : w.heap.size ≤ g) : Below w.heap.size w W' :=
  ⟨hg.os.trans h.os, hg.tape.trans h.tape, hg.output.trans h.output, Nat.le_trans h.size hg.size, fun i hi => (hg.block i (by have := h.size; omega) (by simp; omega)).trans (h.block i hi)⟩
theorem grown_trans {W W1 W2 : World} {g : Nat} (h : W.grownBy W1 (some g)) (h2 : W1.grownBy W2 (some g)) : W.grownBy W2 (some g) :=
  ⟨h2.os.trans h.os, h2.tape.trans h.tape, h2.output.trans h.output, Nat.le_trans h.size h2.size, fun i hi hne => (h2.block i (Nat.lt_of_lt_of_le hi h.size) hne).trans (h.block i hi hne)⟩
theorem grown_refl (W : World) (g : Nat) : W.grownBy W (some g) := ⟨rfl, rfl, rfl, Nat.le_refl _, fun _ _ _ => rfl⟩
theorem row_grown {W W' : World} {g b : Nat} {t : TypeId} {N : Nat} {R : Nat → Value} (h : W.rowIs b t N R) (hg : W.grownBy W' (some g)) (hne : b ≠ g) : W'.rowIs b t N R := h.of_block (hg.block b h.lt (by simp [hne]))
theorem make_intsZ (K : Nat) (hK : K ≤ 1000) (W : World) : (Instr.makeSlice 41 (.int .i64 (K : Int)) (.int .i64 (K : Int))).run Try.prog W = .ok (.slice (some ⟨W.heap.size, 0, none⟩) K K) (W.alloc (.cells (madeCells #[.int .i64 0] K) 3)) :=
  run_make_row' 41 3 (.int .i64 0) 8 Try.underlying41 (by kernel_rfl) rfl .i64 .i64 K (by omega) (by omega) W
/-- the point that v tells -/
def pOf (vb m : Nat) (W : World) : Nat :=
  (((W.cell? ⟨vb, 0, none⟩).map intOf).getD 0).toNat + (if 1 < m then 7 * (((W.cell? ⟨vb, 1, none⟩).map intOf).getD 0).toNat else 0) + (if 2 < m then 49 * (((W.cell? ⟨vb, 2, none⟩).map intOf).getD 0).toNat else 0)
theorem pOf_eq {vb m p : Nat} {W : World} (hm : 1 ≤ m ∧ m ≤ 3) (hp : p < 7 ^ m) (h : W.rowIs vb 3 m (fun j => .int .i64 (kd p j : Nat))) : pOf vb m W = p := by
  have c0 := h.cell (i := 0) (by omega)
  have h3 : m = 1 ∨ m = 2 ∨ m = 3 := by omega
  unfold pOf
  rcases h3 with rfl | rfl | rfl
  · rw [c0, if_neg (by omega), if_neg (by omega)]
    have hp' : p < 7 := hp
    simp [intOf, kd0]; omega
  · have c1 := h.cell (i := 1) (by omega)
    rw [c0, c1, if_pos (by omega), if_neg (by omega)]
    have hp' : p < 49 := hp
    simp [intOf, kd0, kd1]; omega
  · have c1 := h.cell (i := 1) (by omega)
    have c2 := h.cell (i := 2) (by omega)
    rw [c0, c1, c2, if_pos (by omega), if_pos (by omega)]
    have hp' : p < 343 := hp
    simp [intOf, kd0, kd1, kd2]; omega
set_option maxRecDepth 100000 in
set_option maxHeartbeats 8000000 in
theorem zeros_any (vars : Int) (A : Option Addr) (n c : Nat) (D : Nat → ST) (w : World) (hr : Rd w A (n * 2) (tcF D)) (hg : ∀ i, (D i).good w) (hn : n ≤ maxLen) (wv : (Lit.int .i64 vars).wf = true) :
    Calls Try.prog 6 #[.int .i64 vars, .slice A n c] w fun e w' => ZeR vars n D e ∧ Below w.heap.size w w' := by
  unfold maxLen at hn
  have HR := Lib.hid hr
  have HG := Lib.hid hg
  have hv := bounds_i64 wv
  clear hg wv
  by_cases h1 : vars < 1
  · have Q0 : Hid (¬ okZ vars n D) := Lib.hid fun h => by have := h.1; omega
    clear hr
    go_enter Try.func6, Try.ntmps6
    go_wp2_with fail
    go_ret3
    exact ⟨ZeR.bad 1 rfl (by decide) Q0.out, (Below.refl _ _).alloc (Nat.le_refl _) _⟩
  by_cases h3 : 3 < vars
  · have Q0 : Hid (¬ okZ vars n D) := Lib.hid fun h => by have := h.1; omega
    clear hr
    go_enter Try.func6, Try.ntmps6
    go_wp2_with fail
    go_ret3
    exact ⟨ZeR.bad 1 rfl (by decide) Q0.out, (Below.refl _ _).alloc (Nat.le_refl _) _⟩
  by_cases h12 : 12 < n
  · have Q0 : Hid (¬ okZ vars n D) := Lib.hid fun h => by have := h.2.1; omega
    clear hr
    go_enter Try.func6, Try.ntmps6
    go_wp2_with fail
    go_ret3
    exact ⟨ZeR.bad 1 rfl (by decide) Q0.out, (Below.refl _ _).alloc (Nat.le_refl _) _⟩
  obtain ⟨m, hm⟩ : ∃ m : Nat, vars = m := ⟨vars.toNat, by omega⟩
  subst hm
  have hm13 : 1 ≤ m ∧ m ≤ 3 := by omega
  obtain ⟨bx, hbx⟩ : ∃ b, b = w.heap.size := ⟨_, rfl⟩
  obtain ⟨W1, hW1⟩ : ∃ W, W = w.alloc (.cells #[.int .i64 (m : Nat)] 3) := ⟨_, rfl⟩
  have hb1 : Below w.heap.size w W1 := by rw [hW1]; exact (Below.refl _ _).alloc (Nat.le_refl _) _
  have hx1 : W1.rowIs bx 3 1 (fun _ => .int .i64 (m : Nat)) := by rw [hW1, hbx]; exact row1 w 3 _ _ rfl
  have hbw : w.heap.size ≤ bx := by omega
  have HW1 := Lib.hid hW1
  have HBX := Lib.hid hbx
  have HB1 := Lib.hid hb1
  have HX1 := Lib.hid hx1
  have HR1 := Lib.hid (HR.out.below hb1)
  clear hr hbx hW1 hb1 hx1
  go_enter Try.func6, Try.ntmps6
  go_wp2_with fail
  rw [← HBX.out, ← HW1.out]
  refine (containsT_any 16 #[.pointer (some ⟨bx, 0, none⟩)] A n c D (fun i => lenB (m : Nat) (D i)) W1 HR1.out (by omega) (fun _ _ => rfl) (fun i hi W hW => len1_any (m : Nat) bx (D i) W ((HX1.out.of_block (hW.block _ HX1.out.lt)).cell (i := 0) (by omega)))).mono ?_
  rintro e W2 ⟨rfl, hb2⟩
  have HB2 := Lib.hid (HB1.out.trans (hb2.mono HB1.out.size))
  have HX2 := Lib.hid (HX1.out.of_block (hb2.block _ HX1.out.lt))
  clear hb2
  by_cases ha : anyB (fun i => lenB (m : Nat) (D i)) n = true
  · have Q0 : Hid (¬ okZ m n D) := Lib.hid fun h => by
      have h2 : anyB (fun i => lenB (m : Nat) (D i)) n = false := anyB_no fun i hi => by
        have := h.2.2.1 i hi
        unfold lenB
        rw [this]; simp
      rw [h2] at ha; cases ha
    rw [ha]
    clear ha
    go_wp2_with fail
    go_ret3
    exact ⟨ZeR.bad 3 rfl (by decide) Q0.out, HB2.out⟩
  have ha2 : anyB (fun i => lenB (m : Nat) (D i)) n = false := by simpa using ha
  have hlen : ∀ i, i < n → (D i).s.n = m := fun i hi => by
    have h2 := anyB_false.1 ha2 i hi
    unfold lenB at h2
    have : ((D i).s.n : Int) = (m : Int) := by simpa using h2
    omega
  have HLEN := Lib.hid hlen
  rw [ha2]
  clear ha ha2 hlen
  go_wp2_with fail
  go_loopw [42] (fun s42 wr => ∃ t : Nat, t ≤ n ∧ s42 = .int .i64 (t : Nat) ∧ Hid (∀ i, i < t → (0 ≤ (D i).t ∧ (D i).t < 7) ∧ ∀ q, q < (D i).s.n → 0 ≤ (D i).s.f q ∧ (D i).s.f q ≤ 8) ∧ Hid (Below w.heap.size w wr) ∧ Hid (wr.rowIs bx 3 1 (fun _ => .int .i64 (m : Nat)))) (fun s42 _ => n - (intOf s42).toNat)
  case atStart => exact ⟨0, Nat.zero_le _, rfl, Lib.hid fun i h => absurd h (by omega), HB2, HX2⟩
  case round =>
    clear HB2 HX2
    obtain ⟨wo, rfl⟩ : ∃ wo : World, wo = wr := ⟨_, rfl⟩
    obtain ⟨t, ht, rfl, HAL, HB, HX⟩ := hrel
    by_cases hlt : t < n
    · obtain ⟨b, off, rfl, hlb, _⟩ := HR.out.at_ (show 0 < n * 2 by omega)
      obtain ⟨c0, c1⟩ := tc_at (HR.out.below HB.out) hlt
      have lb : b < wo.heap.size := Nat.lt_of_lt_of_le hlb HB.out.size
      have hgd := (HG.out t).2.below HB.out
      have hgt := (HG.out t).1
      obtain ⟨d, hd⟩ : ∃ d, d = D t := ⟨_, rfl⟩
      have HADD : Hid (¬ ((0 ≤ d.t ∧ d.t < 7) ∧ ∀ q, q < d.s.n → 0 ≤ d.s.f q ∧ d.s.f q ≤ 8) → ¬ okZ m n D) := Lib.hid fun h h2 => h (by rw [hd]; exact h2.2.2.2 t hlt)
      have HGO : Hid (((0 ≤ d.t ∧ d.t < 7) ∧ ∀ q, q < d.s.n → 0 ≤ d.s.f q ∧ d.s.f q ≤ 8) → ∀ i, i < t + 1 → (0 ≤ (D i).t ∧ (D i).t < 7) ∧ ∀ q, q < (D i).s.n → 0 ≤ (D i).s.f q ∧ (D i).s.f q ≤ 8) := Lib.hid fun h i hi => by
        by_cases e : i = t
        · subst e; rw [← hd]; exact h
        · exact HAL.out i (by omega)
      rw [← hd] at c0 c1 hgd hgt
      obtain ⟨dt, ⟨sA, sn, sc, sf⟩⟩ := d
      change _ = some (Value.slice sA sn sc) at c1
      change _ = some (Value.int .i64 dt) at c0
      obtain ⟨hsr, _, hsl, hsm⟩ := hgd
      change Rd wo sA sn (fun i => .int .i64 (sf i)) at hsr
      change sn ≤ sc at hsl
      change sc ≤ maxLen at hsm
      unfold maxLen at hsm
      have HSR := Lib.hid hsr
      clear hd hsr hgt
      by_cases hd0 : dt < 0
      · have Q0 := Lib.hid (HADD.out fun h => by have := h.1.1; change 0 ≤ dt at this; omega)
        go_wp2_with fail
        go_ret3
        exact ⟨ZeR.bad 4 rfl (by decide) Q0.out, HB.out.alloc HB.out.size _⟩
      by_cases hd7 : 7 ≤ dt
      · have Q0 := Lib.hid (HADD.out fun h => by have := h.1.2; change dt < 7 at this; omega)
        go_wp2_with fail
        go_ret3
        exact ⟨ZeR.bad 4 rfl (by decide) Q0.out, HB.out.alloc HB.out.size _⟩
      go_wp2_with fail
      refine (containsP_any 18 #[] sA sn sc sf (fun i => outP (sf i)) (wo.alloc (.cells #[.int .i64 dt, .slice sA sn sc] 43)) (HSR.out.alloc _) (by unfold maxLen; omega) (fun _ _ => rfl) (fun i hi => out2_any _ _)).mono ?_
      rintro e w3 ⟨rfl, rfl⟩
      by_cases ho : anyB (fun i => outP (sf i)) sn = true
      · have Q0 := Lib.hid (HADD.out fun h => by
          have h2 : anyB (fun i => outP (sf i)) sn = false := anyB_no fun i hi => outP_no (by have := h.2 i hi; change 0 ≤ sf i ∧ sf i ≤ 8 at this; omega)
          rw [h2] at ho; cases ho)
        rw [ho]
        go_wp2_with fail
        go_ret3
        exact ⟨ZeR.bad 4 rfl (by decide) Q0.out, HB.out.alloc HB.out.size _⟩
      have ho2 : anyB (fun i => outP (sf i)) sn = false := by simpa using ho
      have HOO := Lib.hid (HGO.out ⟨⟨by show 0 ≤ dt; omega, by show dt < 7; omega⟩, fun q hq => by
        have h2 := anyB_false.1 ho2 q hq
        unfold outP at h2
        simp at h2
        show 0 ≤ sf q ∧ sf q ≤ 8
        omega⟩)
      rw [ho2]
      clear ho ho2
      go_wp2_with fail
      go_roundw
      case rel => exact ⟨t + 1, by omega, by go_num, HOO, Lib.hid (HB.out.alloc HB.out.size _), Lib.hid (HX.out.alloc _)⟩
      case measure => simp [intOf]; omega
    · have hte : t = n := by omega
      have HOK : Hid (okZ m n D) := Lib.hid ⟨by omega, by omega, fun i hi => by rw [HLEN.out i hi], fun i hi => HAL.out i (by omega)⟩
      have htI : ¬ (t : Int) < (n : Int) := by omega
      have hn12 : n ≤ 12 := by omega
      obtain ⟨N, hN⟩ : ∃ N, N = 7 ^ m := ⟨_, rfl⟩
      have hN343 : N ≤ 343 := by rw [hN]; exact pow_le hm13
      have HN := Lib.hid hN
      obtain ⟨bm, hbm⟩ : ∃ b, b = wo.heap.size := ⟨_, rfl⟩
      obtain ⟨W4, hW4⟩ : ∃ W, W = wo.alloc (.map #[] 0) := ⟨_, rfl⟩
      have HM4 : Hid (MapZ W4 bm 0 N (fun _ => 0)) := Lib.hid (by rw [hW4, hbm]; exact MapZ.made wo N)
      have HB4 : Hid (Below w.heap.size w W4) := Lib.hid (by rw [hW4]; exact HB.out.alloc HB.out.size _)
      have HX4 : Hid (W4.rowIs bx 3 1 (fun _ => .int .i64 (m : Nat))) := Lib.hid (by rw [hW4]; exact HX.out.alloc _)
      have hxm : bx < bm := by rw [hbm]; exact HX.out.lt
      have HW4 := Lib.hid hW4
      have HBM := Lib.hid hbm
      clear hte HAL hN hW4 hbm HB HX
      have hmk := fun W => run_makeMap (P := Try.prog) 47 W
      go_wp2_with fail
      rw [← HBM.out, ← HW4.out]
      clear hmk
      clear HBM HW4
      go_loopw [63] (fun s63 wr => ∃ (t : Nat) (C : Nat → Int), t ≤ n ∧ s63 = .int .i64 (t : Nat) ∧ Hid (∀ e, 0 ≤ C e ∧ C e < 7) ∧ Hid (MapZ wr bm t N C) ∧ Hid (Below w.heap.size w wr) ∧ Hid (wr.rowIs bx 3 1 (fun _ => .int .i64 (m : Nat)))) (fun s63 _ => n - (intOf s63).toNat)
      case atStart => exact ⟨0, fun _ => 0, Nat.zero_le _, rfl, Lib.hid fun _ => (by decide : (0 : Int) ≤ 0 ∧ (0 : Int) < 7), HM4, HB4, HX4⟩
      case round =>
        clear HM4 HB4 HX4
        obtain ⟨wp, hwp⟩ : ∃ wp : World, wp = wr := ⟨_, rfl⟩
        subst hwp
        obtain ⟨t, C, ht, rfl, HC, HM, HB, HX⟩ := hrel
        by_cases hlt : t < n
        · obtain ⟨b, off, rfl, hlb, _⟩ := HR.out.at_ (show 0 < n * 2 by omega)
          obtain ⟨c0, c1⟩ := tc_at (HR.out.below HB.out) hlt
          have lb : b < wp.heap.size := Nat.lt_of_lt_of_le hlb HB.out.size
          have hgd := (HG.out t).2.below HB.out
          have hsn := HLEN.out t hlt
          have hok := HOK.out.2.2.2 t hlt
          obtain ⟨d, hd⟩ : ∃ d, d = D t := ⟨_, rfl⟩
          rw [← hd] at c0 c1 hgd hsn hok
          obtain ⟨dt, ⟨sA, sn, sc, sf⟩⟩ := d
          change _ = some (Value.slice sA sn sc) at c1
          change _ = some (Value.int .i64 dt) at c0
          change sn = m at hsn
          subst hsn
          obtain ⟨hdt, hsf⟩ := hok
          change 0 ≤ dt ∧ dt < 7 at hdt
          change ∀ q, q < sn → 0 ≤ sf q ∧ sf q ≤ 8 at hsf
          obtain ⟨hsr, _, hsl, hsm⟩ := hgd
          change Rd wp sA sn (fun i => .int .i64 (sf i)) at hsr
          change sn ≤ sc at hsl
          change sc ≤ maxLen at hsm
          unfold maxLen at hsm
          obtain ⟨gr, hgr⟩ : ∃ g, g = wp.heap.size := ⟨_, rfl⟩
          obtain ⟨W5, hW5⟩ : ∃ W, W = (wp.alloc (.cells #[.int .i64 dt, .slice sA sn sc] 43)).alloc (.cells #[.int .i64 0, .int .i64 0, .int .i64 0] 48) := ⟨_, rfl⟩
          have hb5 : Below wp.heap.size wp W5 := by rw [hW5]; exact ((Below.refl _ _).alloc (Nat.le_refl _) _).alloc (by simp) _
          have hs5 : W5.heap.size = gr + 2 := by rw [hW5, hgr]; simp
          have hr5 : W5.rowIs gr 43 2 (fun q => if q = 0 then .int .i64 dt else .slice sA sn sc) := by rw [hW5, hgr]; exact (row2 wp 43 _ _ (fun q => if q = 0 then .int .i64 dt else .slice sA sn sc) rfl rfl).alloc _
          have hk5 : W5.rowIs (gr + 1) 48 3 (fun q => .int .i64 (if q < 0 then redI (sf q) else 0)) := by
            rw [hW5, hgr]
            have := row3 (wp.alloc (.cells #[.int .i64 dt, .slice sA sn sc] 43)) 48 (.int .i64 0) (.int .i64 0) (.int .i64 0) (fun q => .int .i64 (if q < 0 then redI (sf q) else 0)) rfl rfl rfl
            rw [show (wp.alloc (.cells #[.int .i64 dt, .slice sA sn sc] 43)).heap.size = wp.heap.size + 1 by simp] at this
            exact this
          have HSF := Lib.hid hsf
          have HSRo : Hid (∀ b' o', sA = some ⟨b', o', none⟩ → b' < gr) := Lib.hid fun b' o' e' => by
            obtain ⟨b2, o2, e2, hl2, _⟩ := hsr (show 0 < sn by omega)
            rw [e'] at e2
            injection e2 with e2
            injection e2 with e3 e4
            omega
          have HSR5 := Lib.hid (hsr.below hb5)
          have HB5 := Lib.hid (HB.out.trans (hb5.mono HB.out.size))
          have HM5 := Lib.hid (HM.out.below hb5)
          have HX5 := Lib.hid (HX.out.of_block (hb5.block _ HX.out.lt))
          have HR5 := Lib.hid hr5
          have HK5 := Lib.hid hk5
          have HW5 := Lib.hid hW5
          have HGR := Lib.hid hgr
          have HS5 := Lib.hid hs5
          have hxr : bx < gr := by rw [hgr]; exact HX.out.lt
          have hmr : bm < gr := by rw [hgr]; exact HM.out.lt
          have hwr : w.heap.size ≤ gr := by rw [hgr]; exact HB.out.size
          clear hsf hsr hb5 hs5 hr5 hk5 hW5 hgr hd
          go_wp2_with fail
          rw [← HGR.out, ← HW5.out]
          clear HW5 HB HM HX
          go_loopw [70] (fun s70 wr => ∃ i : Nat, i ≤ sn ∧ s70 = .int .i64 (i : Nat) ∧ Hid (wr.rowIs (gr + 1) 48 3 (fun q => .int .i64 (if q < i then redI (sf q) else 0))) ∧ Hid (W5.grownBy wr (some (gr + 1)))) (fun s70 _ => sn - (intOf s70).toNat)
          case atStart => exact ⟨0, Nat.zero_le _, rfl, HK5, Lib.hid (grown_refl _ _)⟩
          case round =>
            clear HK5
            obtain ⟨wq, hwq⟩ : ∃ wq : World, wq = wr := ⟨_, rfl⟩
            subst hwq
            obtain ⟨i, hi, rfl, HK, HGW⟩ := hrel
            have hzq : gr + 2 ≤ wq.heap.size := by rw [← HS5.out]; exact HGW.out.size
            have lk : gr + 1 < wq.heap.size := by omega
            by_cases his : i < sn
            · have HSRq : Hid (Rd wq sA sn (fun i => .int .i64 (sf i))) := Lib.hid fun h0 => by
                obtain ⟨b', o', e', hl', hc'⟩ := HSR5.out h0
                refine ⟨b', o', e', Nat.lt_of_lt_of_le hl' HGW.out.size, fun q hq => ?_⟩
                rw [← hc' q hq]
                exact World.cell?_of_block (HGW.out.block b' hl' (by have := HSRo.out b' o' e'; simp; omega))
              obtain ⟨b', o', e', lb', hc⟩ := HSRq.out.at_ his
              subst e'
              obtain ⟨y, hy⟩ : ∃ y, y = sf i := ⟨_, rfl⟩
              rw [← hy] at hc
              have hy8 : 0 ≤ y ∧ y ≤ 8 := by rw [hy]; exact HSF.out i his
              have HY := Lib.hid hy
              have his3 : (i : Int) < 3 := by omega
              have hfz := HK.out.frozen i
              have hcell := HK.out.cell (i := i) (by omega)
              clear hy
              go_wp2_with fail
              refine (red_any y wq hy8).mono ?_
              rintro e w' ⟨rfl, rfl⟩
              obtain ⟨y2, hy2⟩ : ∃ y2, y2 = redI y := ⟨_, rfl⟩
              rw [← hy2]
              have HY2 := Lib.hid hy2
              clear hy2
              go_wp2_with fail
              go_roundw
              case rel => exact ⟨i + 1, by omega, by go_num, Lib.hid ((HK.out.set i _).congr fun j hj => by
                by_cases e : j = i
                · subst e; rw [if_pos rfl, if_pos (by omega), HY2.out, HY.out]
                · rw [if_neg e]
                  by_cases e2 : j < i
                  · rw [if_pos e2, if_pos (by omega)]
                  · rw [if_neg e2, if_neg (by omega)]), Lib.hid (grown_trans HGW.out (grown_set _ _ _ _))⟩
              case measure => simp [intOf]; omega
            · have hie : i = sn := by omega
              have hiI : ¬ (i : Int) < (sn : Int) := by omega
              obtain ⟨e, heN, HKD⟩ : ∃ e, e < N ∧ Hid (∀ q, q < 3 → (if q < i then redI (sf q) else 0) = ((kd e q : Nat) : Int)) := by
                have hk : ∀ q, q < 3 → 0 ≤ (if q < i then redI (sf q) else 0) ∧ (if q < i then redI (sf q) else 0) ≤ 6 := fun q _ => by
                  split
                  · have := HSF.out q (by omega)
                    unfold redI; split <;> omega
                  · omega
                obtain ⟨k0, e0⟩ : ∃ k0 : Nat, (if 0 < i then redI (sf 0) else 0) = k0 := ⟨_, (Int.toNat_of_nonneg (hk 0 (by omega)).1).symm⟩
                obtain ⟨k1, e1⟩ : ∃ k1 : Nat, (if 1 < i then redI (sf 1) else 0) = k1 := ⟨_, (Int.toNat_of_nonneg (hk 1 (by omega)).1).symm⟩
                obtain ⟨k2, e2⟩ : ∃ k2 : Nat, (if 2 < i then redI (sf 2) else 0) = k2 := ⟨_, (Int.toNat_of_nonneg (hk 2 (by omega)).1).symm⟩
                have b0 := (hk 0 (by omega)).2
                have b1 := (hk 1 (by omega)).2
                have b2 := (hk 2 (by omega)).2
                rw [e0] at b0
                rw [e1] at b1
                rw [e2] at b2
                refine ⟨k0 + 7 * k1 + 49 * k2, ?_, Lib.hid fun q hq => ?_⟩
                · rw [HN.out]
                  have h : sn = 1 ∨ sn = 2 ∨ sn = 3 := by omega
                  rcases h with h | h | h <;> rw [hie, h] at e1 e2 <;> rw [h]
                  · simp at e1 e2; show _ < 7; omega
                  · simp at e2; show _ < 49; omega
                  · show _ < 343; omega
                · have h : q = 0 ∨ q = 1 ∨ q = 2 := by omega
                  rcases h with rfl | rfl | rfl
                  · rw [e0, kd0]; omega
                  · rw [e1, kd1]; omega
                  · rw [e2, kd2]; omega
              clear hie
              obtain ⟨y, hy⟩ : ∃ y, y = C e := ⟨_, rfl⟩
              have hy7 : 0 ≤ y ∧ y < 7 := by rw [hy]; exact HC.out e
              have HMq := Lib.hid (HM5.out.kept HGW.out (by simp; omega))
              obtain ⟨q0, hq0⟩ : ∃ z : Int, z = (kd e 0 : Nat) := ⟨_, rfl⟩
              obtain ⟨q1, hq1⟩ : ∃ z : Int, z = (kd e 1 : Nat) := ⟨_, rfl⟩
              obtain ⟨q2, hq2⟩ : ∃ z : Int, z = (kd e 2 : Nat) := ⟨_, rfl⟩
              have x0 : wq.cell? ⟨gr + 1, 0, none⟩ = some (.int .i64 q0) := by have := HK.out.cell (i := 0) (by omega); rw [HKD.out 0 (by omega), ← hq0] at this; exact this
              have x1 : wq.cell? ⟨gr + 1, 1, none⟩ = some (.int .i64 q1) := by have := HK.out.cell (i := 1) (by omega); rw [HKD.out 1 (by omega), ← hq1] at this; exact this
              have x2 : wq.cell? ⟨gr + 1, 2, none⟩ = some (.int .i64 q2) := by have := HK.out.cell (i := 2) (by omega); rw [HKD.out 2 (by omega), ← hq2] at this; exact this
              have HRq := Lib.hid (row_grown HR5.out HGW.out (by omega))
              have d0 : wq.cell? ⟨gr, 0, none⟩ = some (.int .i64 dt) := HRq.out.cell (i := 0) (by omega)
              have hlk : Sem.run Try.prog (Instr.lookup 47 (.map (some bm)) (.agg #[.int .i64 q0, .int .i64 q1, .int .i64 q2]) false) wq.drew = .ok (.int .i64 y) wq.drew := by
                rw [hq0, hq1, hq2, hy]; exact HMq.out.look (by omega) wq.drew rfl
              obtain ⟨we, hrun, hme, hge⟩ := (HMq.out.below (Below.refl wq.heap.size wq).drew).update (by unfold maxLen; omega) heN hN343 ((y + dt) % 7) (by simp [Lit.wf, IntKind.min, IntKind.max, IntKind.signed, IntKind.bits]; omega)
              unfold zv at hrun
              rw [← hq0, ← hq1, ← hq2] at hrun
              have HME := Lib.hid hme
              have HXq := Lib.hid (row_grown HX5.out HGW.out (show bx ≠ gr + 1 by omega))
              have HGE := Lib.hid hge
              have HY := Lib.hid hy
              clear hme hge hy hq0 hq1 hq2
              go_wp2_with fail
              go_region
              go_wp2_with fail
              go_roundw
              case rel => exact ⟨t + 1, fun e' => if e' = e then (y + dt) % 7 else C e', by omega, by go_num, Lib.hid fun e' => by
                show 0 ≤ (if e' = e then (y + dt) % 7 else C e') ∧ (if e' = e then (y + dt) % 7 else C e') < 7
                split
                · omega
                · exact HC.out e', HME, Lib.hid (below_grown ((below_grown HB5.out HGW.out (by omega)).drew) HGE.out (by omega)), Lib.hid (row_grown (W := wq.drew) (HXq.out : wq.rowIs bx 3 1 (fun _ => .int .i64 (sn : Nat))) HGE.out (by omega))⟩
              case measure => simp [intOf]; omega
        · have htI2 : ¬ (t : Int) < (n : Int) := by omega
          have hwm : w.heap.size ≤ bm := by omega
          obtain ⟨D', hD', hDr⟩ := HM.out
          have HDR := Lib.hid hDr
          have HSZ := Lib.hid hD'.size_le
          have HDW := Lib.hid hD'
          have hxb := HX.out.lt
          clear hD' hDr HM
          go_wp2_with (first | (at_range; refine wpList_range_own _ rfl _ _ rfl 48 3 kZ Try.underlying47 _ bm t D' rfl HDW.out ?_; intro w0 hrg0 hg0 hs0))
          try go_frame
          have HB0 := Lib.hid (HB.out.grown (B := w.heap.size) hg0 (by have := HB.out.size; omega) (fun g hg => by cases hg))
          have HX0 : Hid (w0.rowIs bx 3 1 (fun _ => .int .i64 (m : Nat))) := Lib.hid (HX.out.of_block (hg0.block bx hxb (by simp)))
          obtain ⟨r, hrr⟩ : ∃ r, r = wp.heap.size := ⟨_, rfl⟩
          rw [← hrr] at hrg0 hs0 ⊢
          have hwr : w.heap.size ≤ r := by rw [hrr]; exact HB.out.size
          have hbr : bx < r := by rw [hrr]; exact hxb
          have HRG0 := Lib.hid hrg0
          clear hrr hg0 hrg0 hs0 HB HX hxb
          go_loopw [15] (fun s15 wr => ∃ (d : Int) (left : Lit → Bool) (cnt : Nat), s15 = .int .i64 d ∧ (-1 ≤ d ∧ d ≤ 18) ∧ Hid (wr.ranges Try.prog 48 (plainElem Try.prog 3) bm r t D' left cnt) ∧ Hid (DgRel m N C left d) ∧ Hid (∀ kl, left kl = true → Maps.has D' kl = true) ∧ Hid (Below w.heap.size w wr) ∧ Hid (wr.rowIs bx 3 1 (fun _ => .int .i64 (m : Nat)))) (fun _ wr => wr.rangeLeft bm r)
          case atStart => exact ⟨-1, _, _, rfl, by omega, HRG0, Lib.hid (DgRel.start HDR.out hN343), Lib.hid (fun _ h => h), HB0, HX0⟩
          case round =>
            clear HRG0 HB0 HX0
            obtain ⟨wq, hwq⟩ : ∃ wq : World, wq = wr := ⟨_, rfl⟩
            subst hwq
            obtain ⟨d, left, cnt, rfl, hd, HRG, HDG, HLE, HB, HX⟩ := hrel
            go_wp2_with (at_next; refine wpList_next_q _ rfl _ rfl bm r t N D' C left cnt hN343 rfl HRG.out HDR.out HLE.out ?_ ?_)
            case refine_1 =>
              intro hc0 hl0
              have HDD : Hid (DegR m C d) := Lib.hid (by have := HDG.out; rw [HN.out] at this; exact this.done hl0)
              have HRW := Lib.hid HRG.out.owns
              clear hl0 hc0 HDG HLE HRG
              have xb := HX.out.cell (i := 0) (by omega)
              have lxb := HX.out.lt
              have lbm := HRW.out.lt
              obtain ⟨vb, hvb⟩ : ∃ g, g = wq.heap.size := ⟨_, rfl⟩
              obtain ⟨W6, hW6⟩ : ∃ W, W = wq.alloc (.cells (madeCells #[.int .i64 0] m) 3) := ⟨_, rfl⟩
              have hrm := World.rowIs_made wq (.int .i64 0) m 3
              rw [← hW6, ← hvb] at hrm
              have HV6 : Hid (W6.rowIs vb 3 m (fun j => .int .i64 (kd 0 j : Nat))) := Lib.hid (hrm.congr fun j _ => by simp [kd])
              have HB6 : Hid (Below w.heap.size w W6) := Lib.hid (by rw [hW6]; exact HB.out.alloc HB.out.size _)
              have HX6 : Hid (W6.rowIs bx 3 1 (fun _ => .int .i64 (m : Nat))) := Lib.hid (by rw [hW6]; exact HX.out.alloc _)
              have HO6 : Hid (W6.ownsMap Try.prog 48 (plainElem Try.prog 3) bm t D') := Lib.hid (by rw [hW6]; exact HRW.out.alloc _)
              have hxv : bx < vb := by rw [hvb]; exact lxb
              have hmv : bm < vb := by rw [hvb]; exact lbm
              have hwv : w.heap.size ≤ vb := by rw [hvb]; exact HB.out.size
              have HW6 := Lib.hid hW6
              have HVB := Lib.hid hvb
              have hmk := make_intsZ m (by omega)
              have hN0 : 0 < N := by rw [HN.out]; exact Nat.pow_pos (by omega)
              clear hrm hW6 hvb HRW
              go_wp2_with fail
              rw [← HVB.out, ← HW6.out]
              clear HW6 HVB hmk HB HX xb lxb lbm
              go_loopw [18] (fun s18 wr => ∃ (p : Nat) (z : Int), p < N ∧ (0 ≤ z ∧ z ≤ p) ∧ s18 = .int .i64 z ∧ Hid (z = sumI (fun q => zr (val m C q)) p) ∧ Hid (wr.rowIs vb 3 m (fun j => .int .i64 (kd p j : Nat))) ∧ Hid (wr.ownsMap Try.prog 48 (plainElem Try.prog 3) bm t D') ∧ Hid (Below w.heap.size w wr) ∧ Hid (wr.rowIs bx 3 1 (fun _ => .int .i64 (m : Nat)))) (fun _ wr => N - pOf vb m wr)
              case atStart => exact ⟨0, 0, hN0, by omega, rfl, Lib.hid rfl, HV6, HO6, HB6, HX6⟩
              case round =>
                clear HV6 HO6 HB6 HX6
                obtain ⟨wo2, hwo2⟩ : ∃ wo2 : World, wo2 = wr := ⟨_, rfl⟩
                subst hwo2
                obtain ⟨p, z, hp, hz, rfl, HZ, HV, HO, HB, HX⟩ := hrel
                go_wp2_with (first | (at_range; refine wpList_range_own _ rfl _ _ rfl 48 3 kZ Try.underlying47 _ bm t D' rfl HO.out ?_; intro w0 hrg0 hg0 hs0))
                try go_frame
                have HB0 := Lib.hid (HB.out.grown (B := w.heap.size) hg0 (by have := HB.out.size; omega) (fun g hg => by cases hg))
                have HX0 : Hid (w0.rowIs bx 3 1 (fun _ => .int .i64 (m : Nat))) := Lib.hid (HX.out.of_block (hg0.block bx HX.out.lt (by simp)))
                have HV0 : Hid (w0.rowIs vb 3 m (fun j => .int .i64 (kd p j : Nat))) := Lib.hid (HV.out.of_block (hg0.block vb HV.out.lt (by simp)))
                obtain ⟨r2, hrr⟩ : ∃ r, r = wo2.heap.size := ⟨_, rfl⟩
                rw [← hrr] at hrg0 hs0 ⊢
                have hvr : vb < r2 := by rw [hrr]; exact HV.out.lt
                have HRG0 := Lib.hid hrg0
                clear hrr hg0 hrg0 hs0
                go_loopw [20] (fun s20 wr => ∃ (s : Int) (left : Lit → Bool) (cnt : Nat), s20 = .int .i64 s ∧ (0 ≤ s ∧ s + 7 * (cnt : Int) ≤ 84) ∧ Hid (wr.ranges Try.prog 48 (plainElem Try.prog 3) bm r2 t D' left cnt) ∧ Hid (SmRel m N C left p s) ∧ Hid (∀ kl, left kl = true → Maps.has D' kl = true) ∧ Hid (wr.rowIs vb 3 m (fun j => .int .i64 (kd p j : Nat))) ∧ Hid (Below w.heap.size w wr) ∧ Hid (wr.rowIs bx 3 1 (fun _ => .int .i64 (m : Nat)))) (fun _ wr => wr.rangeLeft bm r2)
                case atStart => exact ⟨0, _, _, rfl, ⟨by omega, by have := HSZ.out; omega⟩, HRG0, Lib.hid (SmRel.start HDR.out hN343 HN.out p), Lib.hid (fun _ h => h), HV0, HB0, HX0⟩
                case round =>
                  clear HRG0 HB0 HX0 HV0
                  obtain ⟨w7, hw7⟩ : ∃ w7 : World, w7 = wr := ⟨_, rfl⟩
                  subst hw7
                  obtain ⟨s, left, cnt, rfl, hs, HRG, HSM, HLE, HV7, HB7, HX7⟩ := hrel
                  go_wp2_with (at_next; refine wpList_next_q _ rfl _ rfl bm r2 t N D' C left cnt hN343 rfl HRG.out HDR.out HLE.out ?_ ?_)
                  case refine_1 =>
                    intro hc0 hl0
                    have HSD := Lib.hid (HSM.out.done hl0)
                    obtain ⟨w8, hw8⟩ : ∃ w8 : World, w8 = w7 := ⟨_, rfl⟩
                    have HO8 := Lib.hid HRG.out.owns
                    have HV8 := HV7
                    have HB8 := HB7
                    have HX8 := HX7
                    rw [← hw8] at HO8 HV8 HB8 HX8
                    rw [← hw8]
                    have xb8 := HX8.out.cell (i := 0) (by omega)
                    have lx8 := HX8.out.lt
                    clear hl0 hc0 HSM HLE HRG hw8 HV7 HB7 HX7
                    by_cases hs7 : s % 7 = 0
                    · skip
                      have HZ8 : Hid ((z + 1) = sumI (fun q => zr (val m C q)) (p + 1)) := Lib.hid (by
                        show (z + 1) = sumI _ p + zr (val m C p)
                        rw [zr_yes (by rw [← HSD.out]; exact hs7), ← HZ.out])
                      go_wp2_with fail
                      go_loopw [25] (fun s25 wr => ∃ i : Nat, i ≤ m ∧ s25 = .int .i64 (i : Nat) ∧ Hid (∀ j, j < i → kd p j = 6) ∧ Hid (wr.rowIs vb 3 m (fun j => .int .i64 (if j < i then 0 else ((kd p j : Nat) : Int)))) ∧ Hid (w8.grownBy wr (some vb))) (fun s25 _ => m - (intOf s25).toNat)
                      case atStart => exact ⟨0, Nat.zero_le _, rfl, Lib.hid fun j h => absurd h (by omega), Lib.hid (HV8.out.congr fun j _ => by rw [if_neg (by omega)]), Lib.hid (grown_refl _ _)⟩
                      case round =>
                        obtain ⟨w9, hw9⟩ : ∃ w9 : World, w9 = wr := ⟨_, rfl⟩
                        subst hw9
                        obtain ⟨i, hi, rfl, H6, HV9, HG9⟩ := hrel
                        have HX9 := Lib.hid (row_grown HX8.out HG9.out (by omega))
                        have xb9 := HX9.out.cell (i := 0) (by omega)
                        have lx9 := HX9.out.lt
                        have lv9 := HV9.out.lt
                        by_cases him : i < m
                        · have himI : (i : Int) < (m : Int) := by omega
                          have cv := HV9.out.cell (i := i) him
                          have fv := HV9.out.frozen i
                          rw [if_neg (by omega)] at cv
                          obtain ⟨dg9, hdg9⟩ : ∃ z : Int, z = ((kd p i : Nat) : Int) := ⟨_, rfl⟩
                          have hdb : 0 ≤ dg9 ∧ dg9 ≤ 6 := by rw [hdg9]; have := kd_lt p i; omega
                          rw [← hdg9] at cv
                          have HDG9 := Lib.hid hdg9
                          clear hdg9
                          by_cases h6 : dg9 = 6
                          · subst h6
                            go_wp2_with fail
                            go_roundw
                            case rel => exact ⟨i + 1, by omega, by go_num, Lib.hid fun j hj => by
                              by_cases e : j = i
                              · subst e; have := HDG9.out; omega
                              · exact H6.out j (by omega), Lib.hid ((HV9.out.set i _).congr fun j hj => by
                              by_cases e : j = i
                              · subst e; rw [if_pos rfl, if_pos (by omega)]
                              · rw [if_neg e]
                                by_cases e2 : j < i
                                · rw [if_pos e2, if_pos (by omega)]
                                · rw [if_neg e2, if_neg (by omega)]), Lib.hid (grown_trans HG9.out (grown_set _ _ _ _))⟩
                            case measure => simp [intOf]; omega
                          · have nb : (dg9 == 6) = false := beq_eq_false_iff_ne.2 h6
                            have nim : ((i : Int) == (m : Int)) = false := beq_eq_false_iff_ne.2 (by omega)
                            have hp1 : p + 1 < N := by rw [HN.out]; exact kd_not_last hm13 p i him (by rw [← HN.out]; exact hp) (by have := HDG9.out; omega)
                            have HVn : Hid ((w9.setCell ⟨vb, i, none⟩ (.int .i64 (dg9 + 1))).rowIs vb 3 m (fun j => .int .i64 (kd (p + 1) j : Nat))) := Lib.hid ((HV9.out.set i _).congr fun j hj => by
                              rw [kd_inc hm13 p i him H6.out (by have := HDG9.out; omega) j hj]
                              by_cases e2 : j < i
                              · rw [if_neg (by omega), if_pos e2, if_pos e2]; rfl
                              · by_cases e : j = i
                                · rw [if_pos e, if_neg e2, if_pos e, HDG9.out]; rfl
                                · rw [if_neg e, if_neg e2, if_neg e2, if_neg e])
                            have HGn : Hid (w8.grownBy (w9.setCell ⟨vb, i, none⟩ (.int .i64 (dg9 + 1))) (some vb)) := Lib.hid (grown_trans HG9.out (grown_set _ _ _ _))
                            go_wp2_with fail
                            go_roundw
                            case rel => exact ⟨p + 1, z + 1, hp1, by omega, by go_num, HZ8, HVn, Lib.hid (HO8.out.kept HGn.out (by simp; omega)), Lib.hid (below_grown HB8.out HGn.out (by omega)), Lib.hid (row_grown HX8.out HGn.out (by omega))⟩
                            case measure => rw [pOf_eq hm13 (by rw [← HN.out]; exact hp1) HVn.out, pOf_eq hm13 (by rw [← HN.out]; exact hp) HV.out]; omega
                        · have hie : i = m := by omega
                          have himI : ¬ (i : Int) < (m : Int) := by omega
                          have nim : ((i : Int) == (m : Int)) = true := by simp [hie]
                          have HLAST : Hid (p + 1 = 7 ^ m) := Lib.hid (kd_last hm13 p (by rw [← HN.out]; exact hp) fun j hj => H6.out j (by omega))
                          clear hie
                          go_wp2_with fail
                          go_ret3
                          exact ⟨⟨z + 1, d, 0, rfl, fun h => absurd HOK.out h, fun _ => ⟨rfl, C, HC.out, by rw [HZ8.out, HLAST.out]; rfl, HDD.out⟩⟩, below_grown HB8.out HG9.out (by omega)⟩
                    · skip
                      have HZ8 : Hid (z = sumI (fun q => zr (val m C q)) (p + 1)) := Lib.hid (by
                        show z = sumI _ p + zr (val m C p)
                        rw [zr_no (by rw [← HSD.out]; exact hs7), ← HZ.out]; simp)
                      go_wp2_with fail
                      go_loopw [25] (fun s25 wr => ∃ i : Nat, i ≤ m ∧ s25 = .int .i64 (i : Nat) ∧ Hid (∀ j, j < i → kd p j = 6) ∧ Hid (wr.rowIs vb 3 m (fun j => .int .i64 (if j < i then 0 else ((kd p j : Nat) : Int)))) ∧ Hid (w8.grownBy wr (some vb))) (fun s25 _ => m - (intOf s25).toNat)
                      case atStart => exact ⟨0, Nat.zero_le _, rfl, Lib.hid fun j h => absurd h (by omega), Lib.hid (HV8.out.congr fun j _ => by rw [if_neg (by omega)]), Lib.hid (grown_refl _ _)⟩
                      case round =>
                        obtain ⟨w9, hw9⟩ : ∃ w9 : World, w9 = wr := ⟨_, rfl⟩
                        subst hw9
                        obtain ⟨i, hi, rfl, H6, HV9, HG9⟩ := hrel
                        have HX9 := Lib.hid (row_grown HX8.out HG9.out (by omega))
                        have xb9 := HX9.out.cell (i := 0) (by omega)
                        have lx9 := HX9.out.lt
                        have lv9 := HV9.out.lt
                        by_cases him : i < m
                        · have himI : (i : Int) < (m : Int) := by omega
                          have cv := HV9.out.cell (i := i) him
                          have fv := HV9.out.frozen i
                          rw [if_neg (by omega)] at cv
                          obtain ⟨dg9, hdg9⟩ : ∃ z : Int, z = ((kd p i : Nat) : Int) := ⟨_, rfl⟩
                          have hdb : 0 ≤ dg9 ∧ dg9 ≤ 6 := by rw [hdg9]; have := kd_lt p i; omega
                          rw [← hdg9] at cv
                          have HDG9 := Lib.hid hdg9
                          clear hdg9
                          by_cases h6 : dg9 = 6
                          · subst h6
                            go_wp2_with fail
                            go_roundw
                            case rel => exact ⟨i + 1, by omega, by go_num, Lib.hid fun j hj => by
                              by_cases e : j = i
                              · subst e; have := HDG9.out; omega
                              · exact H6.out j (by omega), Lib.hid ((HV9.out.set i _).congr fun j hj => by
                              by_cases e : j = i
                              · subst e; rw [if_pos rfl, if_pos (by omega)]
                              · rw [if_neg e]
                                by_cases e2 : j < i
                                · rw [if_pos e2, if_pos (by omega)]
                                · rw [if_neg e2, if_neg (by omega)]), Lib.hid (grown_trans HG9.out (grown_set _ _ _ _))⟩
                            case measure => simp [intOf]; omega
                          · have nb : (dg9 == 6) = false := beq_eq_false_iff_ne.2 h6
                            have nim : ((i : Int) == (m : Int)) = false := beq_eq_false_iff_ne.2 (by omega)
                            have hp1 : p + 1 < N := by rw [HN.out]; exact kd_not_last hm13 p i him (by rw [← HN.out]; exact hp) (by have := HDG9.out; omega)
                            have HVn : Hid ((w9.setCell ⟨vb, i, none⟩ (.int .i64 (dg9 + 1))).rowIs vb 3 m (fun j => .int .i64 (kd (p + 1) j : Nat))) := Lib.hid ((HV9.out.set i _).congr fun j hj => by
                              rw [kd_inc hm13 p i him H6.out (by have := HDG9.out; omega) j hj]
                              by_cases e2 : j < i
                              · rw [if_neg (by omega), if_pos e2, if_pos e2]; rfl
                              · by_cases e : j = i
                                · rw [if_pos e, if_neg e2, if_pos e, HDG9.out]; rfl
                                · rw [if_neg e, if_neg e2, if_neg e2, if_neg e])
                            have HGn : Hid (w8.grownBy (w9.setCell ⟨vb, i, none⟩ (.int .i64 (dg9 + 1))) (some vb)) := Lib.hid (grown_trans HG9.out (grown_set _ _ _ _))
                            go_wp2_with fail
                            go_roundw
                            case rel => exact ⟨p + 1, z, hp1, by omega, rfl, HZ8, HVn, Lib.hid (HO8.out.kept HGn.out (by simp; omega)), Lib.hid (below_grown HB8.out HGn.out (by omega)), Lib.hid (row_grown HX8.out HGn.out (by omega))⟩
                            case measure => rw [pOf_eq hm13 (by rw [← HN.out]; exact hp1) HVn.out, pOf_eq hm13 (by rw [← HN.out]; exact hp) HV.out]; omega
                        · have hie : i = m := by omega
                          have himI : ¬ (i : Int) < (m : Int) := by omega
                          have nim : ((i : Int) == (m : Int)) = true := by simp [hie]
                          have HLAST : Hid (p + 1 = 7 ^ m) := Lib.hid (kd_last hm13 p (by rw [← HN.out]; exact hp) fun j hj => H6.out j (by omega))
                          clear hie
                          go_wp2_with fail
                          go_ret3
                          exact ⟨⟨z, d, 0, rfl, fun h => absurd HOK.out h, fun _ => ⟨rfl, C, HC.out, by rw [HZ8.out, HLAST.out]; rfl, HDD.out⟩⟩, below_grown HB8.out HG9.out (by omega)⟩
                  case refine_2 =>
                    intro e q0 q1 q2 y w1 cnt1 hqa hqb hqc hy he hle hrg1 hlt1 hg1 hs1 hen
                    obtain ⟨kb, hkb⟩ : ∃ kb, kb = w1.heap.size := ⟨_, rfl⟩
                    obtain ⟨W9, hW9⟩ : ∃ W, W = w1.alloc (.cells #[.int .i64 q0, .int .i64 q1, .int .i64 q2] 48) := ⟨_, rfl⟩
                    have HK9 : Hid (W9.rowIs kb 48 3 (fun q => .int .i64 (kd e q : Nat))) := Lib.hid (by
                      rw [hW9, hkb]; exact row3 w1 48 _ _ _ _ (by rw [hqa]) (by rw [hqb]) (by rw [hqc]))
                    have HV9 : Hid (W9.rowIs vb 3 m (fun j => .int .i64 (kd p j : Nat))) := Lib.hid (by rw [hW9]; exact (row_grown HV7.out hg1 (by omega)).alloc _)
                    have HX9 : Hid (W9.rowIs bx 3 1 (fun _ => .int .i64 (m : Nat))) := Lib.hid (by rw [hW9]; exact (row_grown HX7.out hg1 (by omega)).alloc _)
                    have HB9 : Hid (Below w.heap.size w W9) := Lib.hid (by rw [hW9]; have := below_grown HB7.out hg1 (by omega); exact this.alloc this.size _)
                    have HRG9 : Hid (W9.ranges Try.prog 48 (plainElem Try.prog 3) bm r2 t D' (fun z => left z && !z.sameKey (zk e)) cnt1) := Lib.hid (by rw [hW9]; exact hrg1.alloc _)
                    have HLE1 : Hid (∀ kl, (left kl && !kl.sameKey (zk e)) = true → Maps.has D' kl = true) := Lib.hid fun kl h => HLE.out kl (by simp at h; exact h.1)
                    have HSM9 : Hid (SmRel m N C (fun z => left z && !z.sameKey (zk e)) p (s + C e * pm m e p % 7)) := Lib.hid (HSM.out.next hN343 HN.out he hle hm13)
                    have hy7 : 0 ≤ y ∧ y < 7 := by rw [hy]; exact HC.out e
                    have HY := Lib.hid hy
                    have HEN := Lib.hid hen
                    have HW9 := Lib.hid hW9
                    have HKB := Lib.hid hkb
                    clear hqa hqb hqc hy he hle hrg1 hg1 hs1 hen hkb hW9 HSM HLE
                    have hen' := HEN.out
                    go_wp2_with fail
                    rw [← HKB.out, ← HW9.out]
                    clear HW9 HKB hen' HEN
                    go_loop [22, 120] (fun s22 s120 => ∃ (i : Nat) (f : Int), i ≤ m ∧ s120 = .int .i64 (i : Nat) ∧ s22 = .int .i64 f ∧ (0 ≤ f ∧ f < 7) ∧ Hid (f = y * pm i e p % 7)) (fun _ s120 => m - (intOf s120).toNat)
                    case atStart => exact ⟨0, y, Nat.zero_le _, rfl, rfl, hy7, Lib.hid (by show y = y * 1 % 7; omega)⟩
                    case round =>
                      obtain ⟨i, f, hi, rfl, rfl, hf, HF⟩ := hrel
                      by_cases him : i < m
                      · have himI : (i : Int) < (m : Int) := by omega
                        have hi3 : (i : Int) < 3 := by omega
                        have cv := HV9.out.cell him
                        have ck := HK9.out.cell (i := i) (by omega)
                        have lv := HV9.out.lt
                        have lk := HK9.out.lt
                        obtain ⟨x, hx⟩ : ∃ x : Int, x = ((kd p i : Nat) : Int) := ⟨_, rfl⟩
                        obtain ⟨kk, hkk⟩ : ∃ kk : Nat, kk = kd e i := ⟨_, rfl⟩
                        have hxb : 0 ≤ x ∧ x ≤ 6 := by rw [hx]; have := kd_lt p i; omega
                        have hkb : kk ≤ 6 := by rw [hkk]; have := kd_lt e i; omega
                        rw [← hx] at cv
                        rw [← hkk] at ck
                        have HXX := Lib.hid hx
                        have HKK := Lib.hid hkk
                        clear hx hkk
                        go_wp2_with fail
                        go_loop [22, 128] (fun s22 s128 => ∃ (j : Nat) (f2 : Int), j ≤ kk ∧ s128 = .int .i64 (j : Nat) ∧ s22 = .int .i64 f2 ∧ (0 ≤ f2 ∧ f2 < 7) ∧ Hid (f2 = y * pm i e p * x ^ j % 7)) (fun _ s128 => kk - (intOf s128).toNat)
                        case atStart => exact ⟨0, f, Nat.zero_le _, rfl, rfl, hf, Lib.hid (by rw [HF.out]; simp)⟩
                        case round =>
                          obtain ⟨j, f2, hj, rfl, rfl, hf2, HF2⟩ := hrel
                          by_cases hjk : j < kk
                          · obtain ⟨pr, hpr⟩ : ∃ pr, f2 * x = pr := ⟨_, rfl⟩
                            have hpr36 : 0 ≤ pr ∧ pr ≤ 36 := by
                              rw [← hpr]
                              refine ⟨Int.mul_nonneg hf2.1 hxb.1, ?_⟩
                              have := Int.mul_le_mul (show f2 ≤ 6 by omega) hxb.2 hxb.1 (by omega)
                              omega
                            have HPR := Lib.hid hpr
                            go_wp2_with fail
                            go_round
                            case rel => exact ⟨j + 1, pr % 7, by omega, by go_num, by go_num, by omega, Lib.hid (by rw [← pow_mod, ← HF2.out, HPR.out])⟩
                            case measure => simp [intOf]; omega
                          · have hje : j = kk := by omega
                            have HF3 : Hid (f2 = y * pm (i + 1) e p % 7) := Lib.hid (by rw [HF2.out, pm_s, hje, HXX.out, HKK.out, Int.mul_assoc])
                            have hjI : ¬ (j : Int) < (kk : Int) := by omega
                            clear hje
                            go_wp2_with fail
                            go_round
                            case rel => exact ⟨i + 1, f2, by omega, by go_num, rfl, hf2, HF3⟩
                            case measure => simp [intOf]; omega
                      · have hie : i = m := by omega
                        have himI : ¬ (i : Int) < (m : Int) := by omega
                        have HF3 : Hid (f = C e * pm m e p % 7) := Lib.hid (by rw [HF.out, hie, HY.out])
                        clear hie
                        go_wp2_with fail
                        go_roundw
                        case rel => exact ⟨s + f, _, _, by go_num, ⟨by omega, by omega⟩, HRG9, Lib.hid (by have := HSM9.out; rw [← HF3.out] at this; exact this), HLE1, HV9, HB9, HX9⟩
                        case measure => rw [HRG9.out.left_eq, HRG.out.left_eq]; exact hlt1
            case refine_2 =>
              intro e q0 q1 q2 y w1 cnt1 hqa hqb hqc hy he hle hrg1 hlt1 hg1 hs1 hen
              have hq : q0 = (kd e 0 : Nat) ∧ q1 = (kd e 1 : Nat) ∧ q2 = (kd e 2 : Nat) := ⟨hqa, hqb, hqc⟩
              clear hqa hqb hqc
              have hdg : ((dg m e : Nat) : Int) = q0 + q1 + q2 := by
                rw [dg_kd hm13 (by rw [← HN.out]; exact he), hq.1, hq.2.1, hq.2.2]; push_cast; rfl
              have hq7 : (0 ≤ q0 ∧ q0 ≤ 6) ∧ (0 ≤ q1 ∧ q1 ≤ 6) ∧ (0 ≤ q2 ∧ q2 ≤ 6) := by
                have := kd_lt e 0
                have := kd_lt e 1
                have := kd_lt e 2
                omega
              have HB1' := Lib.hid (below_grown HB.out hg1 hwr)
              have HX1' := Lib.hid (row_grown HX.out hg1 (by omega))
              have HLE1 : Hid (∀ kl, (left kl && !kl.sameKey (zk e)) = true → Maps.has D' kl = true) := Lib.hid fun kl h => HLE.out kl (by simp at h; exact h.1)
              have hrw1 := hrg1.lt
              have HRGa := Lib.hid (hrg1.alloc (.cells #[.int .i64 q0, .int .i64 q1, .int .i64 q2] 48))
              have HEN := Lib.hid hen
              have HDG2 := Lib.hid hdg
              clear hrg1 hg1 hs1 hle hdg hq
              by_cases hy0 : y = 0
              · have yb : (y != 0) = false := by simp [hy0]
                have HDX := Lib.hid (HDG.out.zero hN343 he (by rw [← hy]; exact hy0))
                clear hy0 hy
                have hen' := HEN.out
                go_wp2_with fail
                go_roundw
                case rel => exact ⟨d, _, _, rfl, hd, HRGa, HDX, HLE1, Lib.hid (HB1'.out.alloc HB1'.out.size _), Lib.hid (HX1'.out.alloc _)⟩
                case measure => rw [HRGa.out.left_eq, HRG.out.left_eq]; exact hlt1
              · have yb : (y != 0) = true := by simp [hy0]
                have HDX := Lib.hid (HDG.out.more hN343 he (by rw [← hy]; exact hy0))
                clear hy0 hy
                have hen' := HEN.out
                by_cases hdl : d < q0 + q1 + q2
                · go_wp2_with fail
                  go_roundw
                  case rel => exact ⟨q0 + q1 + q2, _, _, by go_num, by omega, HRGa, Lib.hid (by have := HDX.out; rw [HDG2.out, if_pos hdl] at this; exact this), HLE1, Lib.hid (HB1'.out.alloc HB1'.out.size _), Lib.hid (HX1'.out.alloc _)⟩
                  case measure => rw [HRGa.out.left_eq, HRG.out.left_eq]; exact hlt1
                · go_wp2_with fail
                  go_roundw
                  case rel => exact ⟨d, _, _, by go_num, by omega, HRGa, Lib.hid (by have := HDX.out; rw [HDG2.out, if_neg hdl] at this; exact this), HLE1, Lib.hid (HB1'.out.alloc HB1'.out.size _), Lib.hid (HX1'.out.alloc _)⟩
                  case measure => rw [HRGa.out.left_eq, HRG.out.left_eq]; exact hlt1
end Go.Proofs.Ytoodmoliglhpiaa
