/- Composition of changes is associative, a change done as often as its order says is none, and both products have the same order. No condition. -/
import Derived.Test.YtmhicimjoidonaaWideGroup1
import Derived.Deep.RegionWith
import Derived.Deep.RegionLaw
import Derived.Deep.RegionHeld3
import Derived.BigGuardPart
namespace Go.Proofs.Ytmhicimjoidonaa.wideGroup
open Go.ChangeShapes Go.WideShapes Go.ChangeAt Go.RowKit
set_option linter.unusedVariables false
def pw0 (F : Nat → Int) : Nat → Nat → Int
  | 0 => idF
  | k + 1 => cmp (pw0 F k) F
theorem pw0_succ (F : Nat → Int) (k : Nat) : ∀ i, i < 5 → pw0 F (k + 1) i = pw F k i := by
  induction k with
  | zero => intro i hi; show F (Int.toNat (i : Int)) = F i; rw [Int.toNat_natCast]
  | succ k ih => intro i hi; show F (pw0 F (k + 1) i).toNat = F (pw F k i).toNat; rw [ih i hi]
theorem pw0_bd {F : Nat → Int} (hF : ∀ i, i < 5 → 0 ≤ F i ∧ F i ≤ 4) (k : Nat) : ∀ i, i < 5 → 0 ≤ pw0 F k i ∧ pw0 F k i ≤ 4 := by
  cases k with
  | zero => intro i hi; show 0 ≤ (i : Int) ∧ (i : Int) ≤ 4; omega
  | succ k => intro i hi; rw [pw0_succ F k i hi]; exact pw_bd hF k i hi
theorem three5' (w : World) (F G K : Nat → Int) :
    ((((w.alloc (.cells #[.int .i64 (F 0), .int .i64 (F 1), .int .i64 (F 2), .int .i64 (F 3), .int .i64 (F 4)] 22)).alloc (.cells #[.int .i64 (G 0), .int .i64 (G 1), .int .i64 (G 2), .int .i64 (G 3), .int .i64 (G 4)] 22)).alloc (.cells #[.int .i64 (K 0), .int .i64 (K 1), .int .i64 (K 2), .int .i64 (K 3), .int .i64 (K 4)] 22)).rowIs w.heap.size 22 5 (fun x => .int .i64 (F x))) ∧
    ((((w.alloc (.cells #[.int .i64 (F 0), .int .i64 (F 1), .int .i64 (F 2), .int .i64 (F 3), .int .i64 (F 4)] 22)).alloc (.cells #[.int .i64 (G 0), .int .i64 (G 1), .int .i64 (G 2), .int .i64 (G 3), .int .i64 (G 4)] 22)).alloc (.cells #[.int .i64 (K 0), .int .i64 (K 1), .int .i64 (K 2), .int .i64 (K 3), .int .i64 (K 4)] 22)).rowIs (w.heap.size + 1) 22 5 (fun x => .int .i64 (G x))) ∧
    ((((w.alloc (.cells #[.int .i64 (F 0), .int .i64 (F 1), .int .i64 (F 2), .int .i64 (F 3), .int .i64 (F 4)] 22)).alloc (.cells #[.int .i64 (G 0), .int .i64 (G 1), .int .i64 (G 2), .int .i64 (G 3), .int .i64 (G 4)] 22)).alloc (.cells #[.int .i64 (K 0), .int .i64 (K 1), .int .i64 (K 2), .int .i64 (K 3), .int .i64 (K 4)] 22)).rowIs (w.heap.size + 1 + 1) 22 5 (fun x => .int .i64 (K x))) := by
  have r0 := row5 w 22 (.int .i64 (F 0)) (.int .i64 (F 1)) (.int .i64 (F 2)) (.int .i64 (F 3)) (.int .i64 (F 4)) (fun x => .int .i64 (F x)) rfl rfl rfl rfl rfl
  have r1 := row5 (w.alloc (.cells #[.int .i64 (F 0), .int .i64 (F 1), .int .i64 (F 2), .int .i64 (F 3), .int .i64 (F 4)] 22)) 22 (.int .i64 (G 0)) (.int .i64 (G 1)) (.int .i64 (G 2)) (.int .i64 (G 3)) (.int .i64 (G 4)) (fun x => .int .i64 (G x)) rfl rfl rfl rfl rfl
  have r2 := row5 ((w.alloc (.cells #[.int .i64 (F 0), .int .i64 (F 1), .int .i64 (F 2), .int .i64 (F 3), .int .i64 (F 4)] 22)).alloc (.cells #[.int .i64 (G 0), .int .i64 (G 1), .int .i64 (G 2), .int .i64 (G 3), .int .i64 (G 4)] 22)) 22 (.int .i64 (K 0)) (.int .i64 (K 1)) (.int .i64 (K 2)) (.int .i64 (K 3)) (.int .i64 (K 4)) (fun x => .int .i64 (K x)) rfl rfl rfl rfl rfl
  simp at r1 r2
  exact ⟨(r0.alloc _).alloc _, r1.alloc _, r2⟩
theorem newrow (w : World) (F : Nat → Int) : (w.alloc (.cells #[.int .i64 (F 0), .int .i64 (F 1), .int .i64 (F 2), .int .i64 (F 3), .int .i64 (F 4)] 22)).rowIs w.heap.size 22 5 (fun x => .int .i64 (F x)) := row5 w _ _ _ _ _ _ _ rfl rfl rfl rfl rfl
theorem thF_yes {F G : Nat → Int} (h : perm F) (h' : perm G) : thF F G = cmp F G := if_pos ⟨h, h'⟩
theorem thE_yes {F G : Nat → Int} (h : perm F) (h' : perm G) : thE F G = 0 := if_pos ⟨h, h'⟩
theorem thE_no {F G : Nat → Int} (h : ¬ (perm F ∧ perm G)) : thE F G = 3 := if_neg h
set_option maxRecDepth 100000 in
set_option maxHeartbeats 2000000 in
theorem walk (w : World) (a b c : Nat → Int) :
    Calls Try.prog 3 #[.agg #[.int .i64 (a 0), .int .i64 (a 1), .int .i64 (a 2), .int .i64 (a 3), .int .i64 (a 4)], .agg #[.int .i64 (b 0), .int .i64 (b 1), .int .i64 (b 2), .int .i64 (b 3), .int .i64 (b 4)], .agg #[.int .i64 (c 0), .int .i64 (c 1), .int .i64 (c 2), .int .i64 (c 3), .int .i64 (c 4)]] w fun e w' => e = .returned (.bool true) ∧ Below w.heap.size w w' := by
  obtain ⟨ra, rb, rc⟩ := three5' w a b c
  go_enter Try.func3, Try.ntmps3
  go_wp2_with fail
  refine (Then_all a b _).mono ?_
  rintro e w1 ⟨rfl, hb1⟩
  replace ra := row_below ra hb1 (by simp; try omega)
  replace rb := row_below rb hb1 (by simp; try omega)
  replace rc := row_below rc hb1 (by simp; try omega)
  have B : Below w.heap.size w w1 := (((((Below.refl _ _).alloc (Nat.le_refl _) _).alloc (by simp) _).alloc (by simp; omega) _)).trans (hb1.mono (by simp; omega))
  have sz := B.size
  clear hb1
  obtain ⟨pb0, pb1, pb2, pb3, pb4⟩ := cells5 rb
  obtain ⟨pc0, pc1, pc2, pc3, pc4⟩ := cells5 rc
  have la := ra.lt
  have lb := rb.lt
  have lc := rc.lt
  go_wp2_with fail
  refine (Then_all b c _).mono ?_
  rintro e w2 ⟨rfl, hb2⟩
  replace ra := row_below (ra.alloc (.cells #[.int .i64 (thF a b 0), .int .i64 (thF a b 1), .int .i64 (thF a b 2), .int .i64 (thF a b 3), .int .i64 (thF a b 4)] 22)) hb2 (by have := ra.lt; simp; omega)
  replace rb := row_below (rb.alloc (.cells #[.int .i64 (thF a b 0), .int .i64 (thF a b 1), .int .i64 (thF a b 2), .int .i64 (thF a b 3), .int .i64 (thF a b 4)] 22)) hb2 (by have := rb.lt; simp; omega)
  replace rc := row_below (rc.alloc (.cells #[.int .i64 (thF a b 0), .int .i64 (thF a b 1), .int .i64 (thF a b 2), .int .i64 (thF a b 3), .int .i64 (thF a b 4)] 22)) hb2 (by have := rc.lt; simp; omega)
  have rx := row_below (newrow w1 (thF a b)) hb2 (by simp)
  replace B := (B.alloc sz (.cells #[.int .i64 (thF a b 0), .int .i64 (thF a b 1), .int .i64 (thF a b 2), .int .i64 (thF a b 3), .int .i64 (thF a b 4)] 22)).trans (hb2.mono (by simp; omega))
  replace sz := B.size
  clear hb2
  replace la := ra.lt
  replace lb := rb.lt
  replace lc := rc.lt
  clear pb0 pb1 pb2 pb3 pb4 pc0 pc1 pc2 pc3 pc4 
  have lx := rx.lt
  obtain ⟨pa0, pa1, pa2, pa3, pa4⟩ := cells5 ra
  go_wp2_with fail
  refine (change_any a _).mono ?_
  rintro e w3 ⟨rfl, hb3⟩
  replace ra := row_below (ra.alloc (.cells #[.int .i64 (thF b c 0), .int .i64 (thF b c 1), .int .i64 (thF b c 2), .int .i64 (thF b c 3), .int .i64 (thF b c 4)] 22)) hb3 (by have := ra.lt; simp; omega)
  replace rb := row_below (rb.alloc (.cells #[.int .i64 (thF b c 0), .int .i64 (thF b c 1), .int .i64 (thF b c 2), .int .i64 (thF b c 3), .int .i64 (thF b c 4)] 22)) hb3 (by have := rb.lt; simp; omega)
  replace rc := row_below (rc.alloc (.cells #[.int .i64 (thF b c 0), .int .i64 (thF b c 1), .int .i64 (thF b c 2), .int .i64 (thF b c 3), .int .i64 (thF b c 4)] 22)) hb3 (by have := rc.lt; simp; omega)
  replace rx := row_below (rx.alloc (.cells #[.int .i64 (thF b c 0), .int .i64 (thF b c 1), .int .i64 (thF b c 2), .int .i64 (thF b c 3), .int .i64 (thF b c 4)] 22)) hb3 (by have := rx.lt; simp; omega)
  have ry := row_below (newrow w2 (thF b c)) hb3 (by simp)
  replace B := (B.alloc sz (.cells #[.int .i64 (thF b c 0), .int .i64 (thF b c 1), .int .i64 (thF b c 2), .int .i64 (thF b c 3), .int .i64 (thF b c 4)] 22)).trans (hb3.mono (by simp; omega))
  replace sz := B.size
  clear hb3
  obtain ⟨pb0, pb1, pb2, pb3, pb4⟩ := cells5 rb
  replace la := ra.lt
  replace lb := rb.lt
  replace lc := rc.lt
  replace lx := rx.lt
  clear pa0 pa1 pa2 pa3 pa4
  have ly := ry.lt
  by_cases ha : perm a
  · have i1 := isB_iff.2 ha
    go_wp2_with fail
    refine (change_any b _).mono ?_
    rintro e w4 ⟨rfl, hb4⟩
    replace ra := row_below ra hb4 ra.lt
    replace rb := row_below rb hb4 rb.lt
    replace rc := row_below rc hb4 rc.lt
    replace rx := row_below rx hb4 rx.lt
    replace ry := row_below ry hb4 ry.lt
    replace B := B.trans (hb4.mono sz)
    replace sz := B.size
    clear hb4
    obtain ⟨pc0, pc1, pc2, pc3, pc4⟩ := cells5 rc
    replace la := ra.lt
    replace lb := rb.lt
    replace lc := rc.lt
    replace lx := rx.lt
    replace ly := ry.lt
    clear pb0 pb1 pb2 pb3 pb4
    by_cases hbp : perm b
    · have i2 := isB_iff.2 hbp
      go_wp2_with fail
      refine (change_any c _).mono ?_
      rintro e w5 ⟨rfl, hb5⟩
      replace ra := row_below ra hb5 ra.lt
      replace rb := row_below rb hb5 rb.lt
      replace rc := row_below rc hb5 rc.lt
      replace rx := row_below rx hb5 rx.lt
      replace ry := row_below ry hb5 ry.lt
      replace B := B.trans (hb5.mono sz)
      replace sz := B.size
      clear hb5
      obtain ⟨px0, px1, px2, px3, px4⟩ := cells5 rx
      obtain ⟨pc0, pc1, pc2, pc3, pc4⟩ := cells5 rc
      replace la := ra.lt
      replace lb := rb.lt
      replace lc := rc.lt
      replace lx := rx.lt
      replace ly := ry.lt
      by_cases hcp : perm c
      · have i3 := isB_iff.2 hcp
        have e1 := thE_yes ha hbp
        have e2 := thE_yes hbp hcp
        rw [thF_yes ha hbp] at *
        rw [thF_yes hbp hcp] at *
        have hx := perm_cmp ha hbp
        have hy := perm_cmp hbp hcp
        have hw := perm_cmp hbp ha
        obtain ⟨od, o5, hod⟩ := Ord_ex hx
        have hod2 := Ord_turn ha hbp hod
        have HX := Lib.hid hx
        have HY := Lib.hid hy
        have HW := Lib.hid hw
        have HO := Lib.hid hod
        have HO2 := Lib.hid hod2
        have HA := Lib.hid ha
        have HB := Lib.hid hbp
        have HC := Lib.hid hcp
        clear hx hy hw hod hod2 ha hbp hcp
        go_wp2_with fail
        refine (Then_any (cmp a b) c _ HX.out HC.out).mono ?_
        rintro e w6 ⟨rfl, hb6⟩
        replace ra := row_below ra hb6 ra.lt
        replace rb := row_below rb hb6 rb.lt
        replace rc := row_below rc hb6 rc.lt
        replace rx := row_below rx hb6 rx.lt
        replace ry := row_below ry hb6 ry.lt
        replace B := B.trans (hb6.mono sz)
        replace sz := B.size
        clear hb6
        obtain ⟨pa0, pa1, pa2, pa3, pa4⟩ := cells5 ra
        obtain ⟨py0, py1, py2, py3, py4⟩ := cells5 ry
        replace la := ra.lt
        replace lb := rb.lt
        replace lc := rc.lt
        replace lx := rx.lt
        replace ly := ry.lt
        clear px0 px1 px2 px3 px4 pc0 pc1 pc2 pc3 pc4
        go_wp2_with fail
        refine (Then_any a (cmp b c) _ HA.out HY.out).mono ?_
        rintro e w7 ⟨rfl, hb7⟩
        replace ra := row_below (ra.alloc (.cells #[.int .i64 (cmp (cmp a b) c 0), .int .i64 (cmp (cmp a b) c 1), .int .i64 (cmp (cmp a b) c 2), .int .i64 (cmp (cmp a b) c 3), .int .i64 (cmp (cmp a b) c 4)] 22)) hb7 (by have := ra.lt; simp; omega)
        replace rb := row_below (rb.alloc (.cells #[.int .i64 (cmp (cmp a b) c 0), .int .i64 (cmp (cmp a b) c 1), .int .i64 (cmp (cmp a b) c 2), .int .i64 (cmp (cmp a b) c 3), .int .i64 (cmp (cmp a b) c 4)] 22)) hb7 (by have := rb.lt; simp; omega)
        replace rc := row_below (rc.alloc (.cells #[.int .i64 (cmp (cmp a b) c 0), .int .i64 (cmp (cmp a b) c 1), .int .i64 (cmp (cmp a b) c 2), .int .i64 (cmp (cmp a b) c 3), .int .i64 (cmp (cmp a b) c 4)] 22)) hb7 (by have := rc.lt; simp; omega)
        replace rx := row_below (rx.alloc (.cells #[.int .i64 (cmp (cmp a b) c 0), .int .i64 (cmp (cmp a b) c 1), .int .i64 (cmp (cmp a b) c 2), .int .i64 (cmp (cmp a b) c 3), .int .i64 (cmp (cmp a b) c 4)] 22)) hb7 (by have := rx.lt; simp; omega)
        replace ry := row_below (ry.alloc (.cells #[.int .i64 (cmp (cmp a b) c 0), .int .i64 (cmp (cmp a b) c 1), .int .i64 (cmp (cmp a b) c 2), .int .i64 (cmp (cmp a b) c 3), .int .i64 (cmp (cmp a b) c 4)] 22)) hb7 (by have := ry.lt; simp; omega)
        have ru := row_below (newrow w6 (cmp (cmp a b) c)) hb7 (by simp)
        replace B := (B.alloc sz (.cells #[.int .i64 (cmp (cmp a b) c 0), .int .i64 (cmp (cmp a b) c 1), .int .i64 (cmp (cmp a b) c 2), .int .i64 (cmp (cmp a b) c 3), .int .i64 (cmp (cmp a b) c 4)] 22)).trans (hb7.mono (by simp; omega))
        replace sz := B.size
        clear hb7
        obtain ⟨pb0, pb1, pb2, pb3, pb4⟩ := cells5 rb
        obtain ⟨pa0, pa1, pa2, pa3, pa4⟩ := cells5 ra
        replace la := ra.lt
        replace lb := rb.lt
        replace lc := rc.lt
        replace lx := rx.lt
        replace ly := ry.lt
        have lu := ru.lt
        go_wp2_with fail
        refine (Then_any b a _ HB.out HA.out).mono ?_
        rintro e w8 ⟨rfl, hb8⟩
        replace ra := row_below (ra.alloc (.cells #[.int .i64 (cmp a (cmp b c) 0), .int .i64 (cmp a (cmp b c) 1), .int .i64 (cmp a (cmp b c) 2), .int .i64 (cmp a (cmp b c) 3), .int .i64 (cmp a (cmp b c) 4)] 22)) hb8 (by have := ra.lt; simp; omega)
        replace rb := row_below (rb.alloc (.cells #[.int .i64 (cmp a (cmp b c) 0), .int .i64 (cmp a (cmp b c) 1), .int .i64 (cmp a (cmp b c) 2), .int .i64 (cmp a (cmp b c) 3), .int .i64 (cmp a (cmp b c) 4)] 22)) hb8 (by have := rb.lt; simp; omega)
        replace rc := row_below (rc.alloc (.cells #[.int .i64 (cmp a (cmp b c) 0), .int .i64 (cmp a (cmp b c) 1), .int .i64 (cmp a (cmp b c) 2), .int .i64 (cmp a (cmp b c) 3), .int .i64 (cmp a (cmp b c) 4)] 22)) hb8 (by have := rc.lt; simp; omega)
        replace rx := row_below (rx.alloc (.cells #[.int .i64 (cmp a (cmp b c) 0), .int .i64 (cmp a (cmp b c) 1), .int .i64 (cmp a (cmp b c) 2), .int .i64 (cmp a (cmp b c) 3), .int .i64 (cmp a (cmp b c) 4)] 22)) hb8 (by have := rx.lt; simp; omega)
        replace ry := row_below (ry.alloc (.cells #[.int .i64 (cmp a (cmp b c) 0), .int .i64 (cmp a (cmp b c) 1), .int .i64 (cmp a (cmp b c) 2), .int .i64 (cmp a (cmp b c) 3), .int .i64 (cmp a (cmp b c) 4)] 22)) hb8 (by have := ry.lt; simp; omega)
        replace ru := row_below (ru.alloc (.cells #[.int .i64 (cmp a (cmp b c) 0), .int .i64 (cmp a (cmp b c) 1), .int .i64 (cmp a (cmp b c) 2), .int .i64 (cmp a (cmp b c) 3), .int .i64 (cmp a (cmp b c) 4)] 22)) hb8 (by have := ru.lt; simp; omega)
        have rv := row_below (newrow w7 (cmp a (cmp b c))) hb8 (by simp)
        replace B := (B.alloc sz (.cells #[.int .i64 (cmp a (cmp b c) 0), .int .i64 (cmp a (cmp b c) 1), .int .i64 (cmp a (cmp b c) 2), .int .i64 (cmp a (cmp b c) 3), .int .i64 (cmp a (cmp b c) 4)] 22)).trans (hb8.mono (by simp; omega))
        replace sz := B.size
        clear hb8
        obtain ⟨px0, px1, px2, px3, px4⟩ := cells5 rx
        replace la := ra.lt
        replace lb := rb.lt
        replace lc := rc.lt
        replace lx := rx.lt
        replace ly := ry.lt
        replace lu := ru.lt
        have lv := rv.lt
        go_wp2_with fail
        refine (order_any (cmp a b) od _ HX.out HO.out o5).mono ?_
        rintro e w9 ⟨rfl, hb9⟩
        replace ra := row_below (ra.alloc (.cells #[.int .i64 (cmp b a 0), .int .i64 (cmp b a 1), .int .i64 (cmp b a 2), .int .i64 (cmp b a 3), .int .i64 (cmp b a 4)] 22)) hb9 (by have := ra.lt; simp; omega)
        replace rb := row_below (rb.alloc (.cells #[.int .i64 (cmp b a 0), .int .i64 (cmp b a 1), .int .i64 (cmp b a 2), .int .i64 (cmp b a 3), .int .i64 (cmp b a 4)] 22)) hb9 (by have := rb.lt; simp; omega)
        replace rc := row_below (rc.alloc (.cells #[.int .i64 (cmp b a 0), .int .i64 (cmp b a 1), .int .i64 (cmp b a 2), .int .i64 (cmp b a 3), .int .i64 (cmp b a 4)] 22)) hb9 (by have := rc.lt; simp; omega)
        replace rx := row_below (rx.alloc (.cells #[.int .i64 (cmp b a 0), .int .i64 (cmp b a 1), .int .i64 (cmp b a 2), .int .i64 (cmp b a 3), .int .i64 (cmp b a 4)] 22)) hb9 (by have := rx.lt; simp; omega)
        replace ry := row_below (ry.alloc (.cells #[.int .i64 (cmp b a 0), .int .i64 (cmp b a 1), .int .i64 (cmp b a 2), .int .i64 (cmp b a 3), .int .i64 (cmp b a 4)] 22)) hb9 (by have := ry.lt; simp; omega)
        replace ru := row_below (ru.alloc (.cells #[.int .i64 (cmp b a 0), .int .i64 (cmp b a 1), .int .i64 (cmp b a 2), .int .i64 (cmp b a 3), .int .i64 (cmp b a 4)] 22)) hb9 (by have := ru.lt; simp; omega)
        replace rv := row_below (rv.alloc (.cells #[.int .i64 (cmp b a 0), .int .i64 (cmp b a 1), .int .i64 (cmp b a 2), .int .i64 (cmp b a 3), .int .i64 (cmp b a 4)] 22)) hb9 (by have := rv.lt; simp; omega)
        have rq := row_below (newrow w8 (cmp b a)) hb9 (by simp)
        replace B := (B.alloc sz (.cells #[.int .i64 (cmp b a 0), .int .i64 (cmp b a 1), .int .i64 (cmp b a 2), .int .i64 (cmp b a 3), .int .i64 (cmp b a 4)] 22)).trans (hb9.mono (by simp; omega))
        replace sz := B.size
        clear hb9
        obtain ⟨pq0, pq1, pq2, pq3, pq4⟩ := cells5 rq
        replace la := ra.lt
        replace lb := rb.lt
        replace lc := rc.lt
        replace lx := rx.lt
        replace ly := ry.lt
        replace lu := ru.lt
        replace lv := rv.lt
        have lq := rq.lt
        go_wp2_with fail
        refine (order_any (cmp b a) od _ HW.out HO2.out o5).mono ?_
        rintro e w10 ⟨rfl, hb10⟩
        replace ra := row_below ra hb10 ra.lt
        replace rb := row_below rb hb10 rb.lt
        replace rc := row_below rc hb10 rc.lt
        replace rx := row_below rx hb10 rx.lt
        replace ry := row_below ry hb10 ry.lt
        replace ru := row_below ru hb10 ru.lt
        replace rv := row_below rv hb10 rv.lt
        replace rq := row_below rq hb10 rq.lt
        replace B := B.trans (hb10.mono sz)
        replace sz := B.size
        clear hb10
        replace la := ra.lt
        replace lb := rb.lt
        replace lc := rc.lt
        replace lx := rx.lt
        replace ly := ry.lt
        replace lu := ru.lt
        replace lv := rv.lt
        replace lq := rq.lt
        go_wp2_with fail
        refine (same_any _).mono ?_
        rintro e w11 ⟨rfl, hb11⟩
        replace ra := row_below ra hb11 ra.lt
        replace rb := row_below rb hb11 rb.lt
        replace rc := row_below rc hb11 rc.lt
        replace rx := row_below rx hb11 rx.lt
        replace ry := row_below ry hb11 ry.lt
        replace ru := row_below ru hb11 ru.lt
        replace rv := row_below rv hb11 rv.lt
        replace rq := row_below rq hb11 rq.lt
        replace B := B.trans (hb11.mono sz)
        replace sz := B.size
        clear hb11
        obtain ⟨px0, px1, px2, px3, px4⟩ := cells5 rx
        replace la := ra.lt
        replace lb := rb.lt
        replace lc := rc.lt
        replace lx := rx.lt
        replace ly := ry.lt
        replace lu := ru.lt
        replace lv := rv.lt
        replace lq := rq.lt
        go_wp2_with fail
        have dx := rx.lt
        have du := ru.lt
        have dv := rv.lt
        have dw := sz
        clear pc0 pc1 pc2 pc3 pc4 pb0 pb1 pb2 pb3 pb4 pa0 pa1 pa2 pa3 pa4 py0 py1 py2 py3 py4 pq0 pq1 pq2 pq3 pq4 e1 e2 i1 i2 i3 lx la lb lc ly lu lv lq ra rb rc ry rq
        go_loopw [22] (fun i wr => ∃ n : Nat, n ≤ od + 1 ∧ i = .int .i64 n ∧ wr.rowIs w1.heap.size 22 5 (fun x => .int .i64 (cmp a b x)) ∧ wr.rowIs w6.heap.size 22 5 (fun x => .int .i64 (cmp (cmp a b) c x)) ∧ wr.rowIs w7.heap.size 22 5 (fun x => .int .i64 (cmp a (cmp b c) x)) ∧ wr.rowIs w11.heap.size 22 5 (fun x => .int .i64 (pw0 (cmp a b) n x)) ∧ Below w.heap.size w wr) (fun i _ => od + 1 - (intOf i).toNat)
        case atStart => exact ⟨0, Nat.zero_le _, rfl, rx.alloc _, ru.alloc _, rv.alloc _, row5 w11 _ _ _ _ _ _ _ rfl rfl rfl rfl rfl, B.alloc sz _⟩
        case round =>
          clear px0 px1 px2 px3 px4
          obtain ⟨n, hn, rfl, qx, qu, qv, qn, qB⟩ := hrel
          obtain ⟨px0, px1, px2, px3, px4⟩ := cells5 qx
          obtain ⟨pn0, pn1, pn2, pn3, pn4⟩ := cells5 qn
          by_cases hlt : n < od + 1
          · have g1 : decide ((n : Int) < (od : Int) + 1) = true := by simp; omega
            have g2 : decide ((n : Int) < 10) = true := by simp; omega
            go_wp2_with fail
            refine (refThen_any (pw0 (cmp a b) n) (cmp a b) _ (pw0_bd HX.out.1 n)).mono ?_
            rintro e w12 ⟨rfl, hb12⟩
            have sx := qx.lt
            have su := qu.lt
            have sv := qv.lt
            have sn := qn.lt
            have sB := qB.size
            have tx := row_below qx hb12 sx
            have tu := row_below qu hb12 su
            have tv := row_below qv hb12 sv
            have tn := row_below qn hb12 sn
            have tB := qB.trans (hb12.mono sB)
            obtain ⟨c0, c1, c2, c3, c4⟩ := cells5 tn
            have z0 := tn.frozen 0
            have z1 := tn.frozen 1
            have z2 := tn.frozen 2
            have z3 := tn.frozen 3
            have z4 := tn.frozen 4
            clear px0 px1 px2 px3 px4 pn0 pn1 pn2 pn3 pn4 hb12
            go_wp2_with fail
            go_roundw
            case rel => exact ⟨n + 1, by omega, by go_num, ((((tx.setOther (by simp; omega) _).setOther (by simp; omega) _).setOther (by simp; omega) _).setOther (by simp; omega) _).setOther (by simp; omega) _, ((((tu.setOther (by simp; omega) _).setOther (by simp; omega) _).setOther (by simp; omega) _).setOther (by simp; omega) _).setOther (by simp; omega) _, ((((tv.setOther (by simp; omega) _).setOther (by simp; omega) _).setOther (by simp; omega) _).setOther (by simp; omega) _).setOther (by simp; omega) _, (((((tn.set 0 _).set 1 _).set 2 _).set 3 _).set 4 _).congr (fun j hj => by
              match j, hj with
              | 0, _ => simp [pw0]
              | 1, _ => simp [pw0]
              | 2, _ => simp [pw0]
              | 3, _ => simp [pw0]
              | 4, _ => simp [pw0]),
              ((((tB.setCell (by simp; omega) _).setCell (by simp; omega) _).setCell (by simp; omega) _).setCell (by simp; omega) _).setCell (by simp; omega) _⟩
            case measure => simp [intOf]; omega
          · obtain rfl : n = od + 1 := by omega
            obtain ⟨pu0, pu1, pu2, pu3, pu4⟩ := cells5 qu
            obtain ⟨pv0, pv1, pv2, pv3, pv4⟩ := cells5 qv
            have eu := eqI5 (cmp (cmp a b) c) (cmp a (cmp b c))
            have en := eqI5id (pw0 (cmp a b) (od + 1))
            have hu : eqB (cmp (cmp a b) c) (cmp a (cmp b c)) = true := eqB_iff.2 fun i hi => rfl
            have hn2 : eqB (pw0 (cmp a b) (od + 1)) idF = true := eqB_iff.2 fun i hi => by rw [pw0_succ _ _ i hi]; exact HO.out.1 i hi
            have h1 : decide ((1 : Int) ≤ (od : Int) + 1) = true := by rw [decide_eq_true_eq]; omega
            have h6 : decide ((od : Int) + 1 ≤ 6) = true := by simp; omega
            have sB := qB.size
            have su := qu.lt
            have sv := qv.lt
            have sn := qn.lt
            have g1 : decide ((((od + 1 : Nat) : Int)) < (od : Int) + 1) = false := by rw [decide_eq_false_iff_not]; omega
            have g3 : decide (((od : Int) + 1) < (od : Int) + 1) = false := by rw [decide_eq_false_iff_not]; omega
            go_wp2_with fail
            go_region_held3 (fun W => W.cell? ⟨w6.heap.size, 0, none⟩ = some (.int .i64 (cmp (cmp a b) c 0)) ∧ W.cell? ⟨w6.heap.size, 1, none⟩ = some (.int .i64 (cmp (cmp a b) c 1)) ∧ W.cell? ⟨w6.heap.size, 2, none⟩ = some (.int .i64 (cmp (cmp a b) c 2)) ∧ W.cell? ⟨w6.heap.size, 3, none⟩ = some (.int .i64 (cmp (cmp a b) c 3)) ∧ W.cell? ⟨w6.heap.size, 4, none⟩ = some (.int .i64 (cmp (cmp a b) c 4)) ∧ W.cell? ⟨w7.heap.size, 0, none⟩ = some (.int .i64 (cmp a (cmp b c) 0)) ∧ W.cell? ⟨w7.heap.size, 1, none⟩ = some (.int .i64 (cmp a (cmp b c) 1)) ∧ W.cell? ⟨w7.heap.size, 2, none⟩ = some (.int .i64 (cmp a (cmp b c) 2)) ∧ W.cell? ⟨w7.heap.size, 3, none⟩ = some (.int .i64 (cmp a (cmp b c) 3)) ∧ W.cell? ⟨w7.heap.size, 4, none⟩ = some (.int .i64 (cmp a (cmp b c) 4)) ∧ W.cell? ⟨w11.heap.size, 0, none⟩ = some (.int .i64 (pw0 (cmp a b) (od + 1) 0)) ∧ W.cell? ⟨w11.heap.size, 1, none⟩ = some (.int .i64 (pw0 (cmp a b) (od + 1) 1)) ∧ W.cell? ⟨w11.heap.size, 2, none⟩ = some (.int .i64 (pw0 (cmp a b) (od + 1) 2)) ∧ W.cell? ⟨w11.heap.size, 3, none⟩ = some (.int .i64 (pw0 (cmp a b) (od + 1) 3)) ∧ W.cell? ⟨w11.heap.size, 4, none⟩ = some (.int .i64 (pw0 (cmp a b) (od + 1) 4))) (first | go_keep | (go_split_ands; refine ⟨?_, ?_, ?_, ?_, ?_, ?_, ?_, ?_, ?_, ?_, ?_, ?_, ?_, ?_, ?_⟩ <;> (rw [hb12.cell (by simp; omega)]; assumption))) ((go_at_call 9; refine (same_any _).mono ?_; rintro e w12 ⟨rfl, hb12⟩))
            all_goals go_wp2_with fail
            all_goals go_ret
            all_goals exact ⟨rfl, qB.trans (((Below.refl _ _).drew.trans (hb12.mono (by simp))).mono sB)⟩
      · have i3 := isB_no hcp
        have e1 := thE_yes ha hbp
        have e2 := thE_no (F := b) (G := c) (fun hh => hcp hh.2)
        clear ha hbp hcp
        go_wp2_with fail
        go_ret
        exact ⟨rfl, B⟩
    · have i2 := isB_no hbp
      have e1 := thE_no (F := a) (G := b) (fun hh => hbp hh.2)
      clear ha hbp
      go_wp2_with fail
      go_ret
      exact ⟨rfl, B⟩
  · have i1 := isB_no ha
    have e1 := thE_no (F := a) (G := b) (fun hh => ha hh.1)
    clear ha
    go_wp2_with fail
    go_ret
    exact ⟨rfl, B⟩
end Go.Proofs.Ytmhicimjoidonaa.wideGroup
