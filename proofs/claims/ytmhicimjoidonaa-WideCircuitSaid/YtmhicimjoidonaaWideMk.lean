/- wide.both: two rounds, one behind the other, and both back. Conditions: wide.build does it of either gate. -/
import Derived.Test.YtmhicimjoidonaaWideSide
import Derived.Test.YtmhicimjoidonaaWideTw
import Derived.Deep.RegionLaw
import Derived.Deep.DeepCutAuto
namespace Go.Proofs.Ytmhicimjoidonaa
open Go.ChangeShapes Go.WideShapes Go.ChangeAt Go.RowKit
set_option linter.unusedVariables false
set_option linter.unusedSimpArgs false
theorem ETn : Elem Try.prog 32 43 11 88 := Elem.of Try.underlying32 (by kernel_rfl : (Try.prog.info? 43).map (fun i => (i.zero, i.size, i.bytes)) = some (some (.agg #[.int .i64 0, .int .i64 0, .int .i64 0, .int .i64 0, .int .i64 0, .int .i64 0, .int .i64 0, .int .i64 0, .int .i64 0, .int .i64 0, .int .i64 0]), 11, 88)) rfl (by omega)
/-- three boxes that hold changes -/
def RW (W : World) (x r f s : Nat) : Prop := XC W x (eF r) ∧ XC W (x + 1) (eF f) ∧ XC W (x + 1 + 1) (eF s)
theorem RW.below3 {W W' : World} {x r f s : Nat} (h : RW W x r f s) (hb : Below W.heap.size W W') (hx : x + 3 ≤ W.heap.size) : RW W' x r f s :=
  ⟨h.1.below hb (by omega), h.2.1.below hb (by omega), h.2.2.below hb (by omega)⟩
def Mid1 (x r : Nat) (W1 : World) (v : Value) (W : World) : Prop := ∃ p, v = .pointer (some ⟨p, 0, none⟩) ∧ x + 3 ≤ p ∧ W.rowIs p 22 5 (fun j => .int .i64 (eF (cC r) j)) ∧ W.rowIs (x + 1) 22 5 (fun j => .int .i64 (eF f0C j)) ∧ W.rowIs (x + 1 + 1) 22 5 (fun j => .int .i64 (eF s0C j)) ∧ W.rowIs x 22 5 (fun j => .int .i64 (eF r j)) ∧ Below (x + 3) W1 W
theorem XC.row {W : World} {x k : Nat} (h : W.rowIs x 22 5 (fun j => .int .i64 (eF k j))) : XC W x (eF k) :=
  ⟨h.cell (i := 0) (by omega), h.cell (i := 1) (by omega), h.cell (i := 2) (by omega), h.cell (i := 3) (by omega), h.cell (i := 4) (by omega)⟩
theorem zrow (w : World) : (w.alloc (.cells #[.int .i64 0, .int .i64 0, .int .i64 0, .int .i64 0, .int .i64 0] 22)).rowIs w.heap.size 22 5 (fun _ => .int .i64 0) := row5 w _ _ _ _ _ _ _ rfl rfl rfl rfl rfl
theorem row_set5 {W : World} {x : Nat} {G : Nat → Value} {F : Nat → Int} (h : W.rowIs x 22 5 G) :
    (((((W.setCell ⟨x, 0, none⟩ (.int .i64 (F 0))).setCell ⟨x, 1, none⟩ (.int .i64 (F 1))).setCell ⟨x, 2, none⟩ (.int .i64 (F 2))).setCell ⟨x, 3, none⟩ (.int .i64 (F 3))).setCell ⟨x, 4, none⟩ (.int .i64 (F 4))).rowIs x 22 5 (fun j => .int .i64 (F j)) :=
  (((((h.set 0 _).set 1 _).set 2 _).set 3 _).set 4 _).congr fun j hj => by
    match j, hj with
    | 0, _ => simp
    | 1, _ => simp
    | 2, _ => simp
    | 3, _ => simp
    | 4, _ => simp
theorem row_other5 {W : World} {x y : Nat} {F : Nat → Value} (h : W.rowIs x 22 5 F) (hne : x ≠ y) (v0 v1 v2 v3 v4 : Value) :
    (((((W.setCell ⟨y, 0, none⟩ v0).setCell ⟨y, 1, none⟩ v1).setCell ⟨y, 2, none⟩ v2).setCell ⟨y, 3, none⟩ v3).setCell ⟨y, 4, none⟩ v4).rowIs x 22 5 F :=
  ((((h.setOther hne _).setOther hne _).setOther hne _).setOther hne _).setOther hne _
set_option maxRecDepth 100000 in
set_option maxHeartbeats 8000000 in
theorem both_any (inn : Int) (A : Option Addr) (n c : Nat) (F : Nat → Int) (a b r : Nat) (nt : Bool) (hMa : 4 ^ dep F a ≤ 1000) (hMb : 4 ^ dep F b ≤ 1000) (hBa : BuildAt inn A n c F a) (hBb : BuildAt inn A n c F b) (hr : cyc r = true) (w : World) (h : Rd w A (n * 3) (fun q => .int .i64 (F q))) :
    Calls Try.prog 22 #[.slice A n c, .int .i64 a, .int .i64 b, .agg #[.int .i64 (eF r 0), .int .i64 (eF r 1), .int .i64 (eF r 2), .int .i64 (eF r 3), .int .i64 (eF r 4)], .bool nt] w fun e w' => Made inn (fun g => (xor nt (val F g a)) && (xor nt (val F g b))) r (2 * 4 ^ dep F a + 2 * 4 ^ dep F b) w.heap.size e w' ∧ Below w.heap.size w w' := by
  have HMa := Lib.hid hMa
  have HMb := Lib.hid hMb
  have HBa := Lib.hid hBa
  have HBb := Lib.hid hBb
  have HR := Lib.hid hr
  have HRD := Lib.hid h
  clear hMa hMb hBa hBb hr h
  go_enter Try.func22, Try.ntmps22
  go_upto_region 2 with (fail)
  obtain ⟨x, hx⟩ : ∃ x, x = w.heap.size := ⟨_, rfl⟩
  obtain ⟨W1, hW1⟩ : ∃ W1, W1 = ((w.alloc (.cells #[.int .i64 (eF r 0), .int .i64 (eF r 1), .int .i64 (eF r 2), .int .i64 (eF r 3), .int .i64 (eF r 4)] 22)).alloc (.cells #[.int .i64 1, .int .i64 2, .int .i64 3, .int .i64 4, .int .i64 0] 22)).alloc (.cells #[.int .i64 2, .int .i64 4, .int .i64 1, .int .i64 0, .int .i64 3] 22) := ⟨_, rfl⟩
  have hbw : Below w.heap.size w W1 := by rw [hW1]; exact (((Below.refl _ _).alloc (Nat.le_refl _) _).alloc (by simp) _).alloc (by simp; omega) _
  have hs1 : W1.heap.size = x + 3 := by rw [hW1, hx]; simp
  have hd0 : W1.rowIs x 22 5 (fun j => .int .i64 (eF r j)) := by
    rw [hW1, hx]
    exact ((newrow5 w (eF r)).alloc _).alloc _
  have hx1 : W1.rowIs (x + 1) 22 5 (fun j => .int .i64 (eF f0C j)) := by
    have hq := row5 (w.alloc (.cells #[.int .i64 (eF r 0), .int .i64 (eF r 1), .int .i64 (eF r 2), .int .i64 (eF r 3), .int .i64 (eF r 4)] 22)) 22 (.int .i64 1) (.int .i64 2) (.int .i64 3) (.int .i64 4) (.int .i64 0) (fun j => .int .i64 (eF f0C j)) (by rw [show eF f0C 0 = 1 from by decide]) (by rw [show eF f0C 1 = 2 from by decide]) (by rw [show eF f0C 2 = 3 from by decide]) (by rw [show eF f0C 3 = 4 from by decide]) (by rw [show eF f0C 4 = 0 from by decide])
    rw [hW1, hx]
    simp at hq
    exact hq.alloc _
  have hx2 : W1.rowIs (x + 1 + 1) 22 5 (fun j => .int .i64 (eF s0C j)) := by
    have hq := row5 ((w.alloc (.cells #[.int .i64 (eF r 0), .int .i64 (eF r 1), .int .i64 (eF r 2), .int .i64 (eF r 3), .int .i64 (eF r 4)] 22)).alloc (.cells #[.int .i64 1, .int .i64 2, .int .i64 3, .int .i64 4, .int .i64 0] 22)) 22 (.int .i64 2) (.int .i64 4) (.int .i64 1) (.int .i64 0) (.int .i64 3) (fun j => .int .i64 (eF s0C j)) (by rw [show eF s0C 0 = 2 from by decide]) (by rw [show eF s0C 1 = 4 from by decide]) (by rw [show eF s0C 2 = 1 from by decide]) (by rw [show eF s0C 3 = 0 from by decide]) (by rw [show eF s0C 4 = 3 from by decide])
    rw [hW1, hx]
    simp at hq
    exact hq
  rw [← hW1, ← hx]
  have HX := Lib.hid hx
  have HS1 := Lib.hid hs1
  have HBW := Lib.hid hbw
  have HX1 := Lib.hid hx1
  have HX2 := Lib.hid hx2
  have HD0 : Hid (RW W1.drew x r f0C s0C) := Lib.hid ⟨XC.row hd0, XC.row hx1, XC.row hx2⟩
  have HX0 := Lib.hid hd0
  clear hx hW1 hbw hs1 hd0 hx1 hx2
  go_cut [13] (fun s13 wx => Mid1 x r W1 s13 wx)
  case first =>
    have HSZ : Hid (x + 3 ≤ W1.drew.heap.size) := Lib.hid (by show x + 3 ≤ W1.heap.size; rw [HS1.out]; exact Nat.le_refl _)
    have HB : Hid (Below W1.heap.size W1 W1.drew) := Lib.hid (Below.refl _ _).drew
    have HD := HD0
    clear HD0
    refine wp_region_any (by kernel_rfl) ?_
    change wpAny _ _ _ _ _ _ _ (World.drew _)
    obtain ⟨w1, hw1⟩ : ∃ W, W = W1.drew := ⟨_, rfl⟩
    rw [← hw1] at HD HSZ HB
    rw [← hw1]
    clear hw1
    refine any_of_T (S := fun W => RW W x r f0C s0C) (c := 10) _ _ _ _ ?_
    refine anyT_takeL [10] (i := 0) (v := ?_) rfl (by decide +kernel) (by decide +kernel) (by decide +kernel) (by decide +kernel) (by decide +kernel) (by decide +kernel) (fun _ _ _ h => h) (Or.inl ⟨by rfl, ?_⟩) HD.out ?_
    rotate_left 1
    · intro w hS; obtain ⟨⟨s0, s1, s2, s3, s4⟩, ⟨t0, t1, t2, t3, t4⟩, ⟨u0, u1, u2, u3, u4⟩⟩ := hS; go_simp; with_reducible rfl
    simp only [Act.put, List.getElem_toArray, List.getElem_cons_zero, List.getElem_cons_succ, List.setIfInBounds_toArray, List.set_cons_zero, List.set_cons_succ]
    refine anyT_takeL [3, 5, 7, 8, 9, 10] (i := 1) (v := ?_) rfl (by decide +kernel) (by decide +kernel) (by decide +kernel) (by decide +kernel) (by decide +kernel) (by decide +kernel) (fun _ _ _ h => h) (Or.inl ⟨by rfl, ?_⟩) HD.out ?_
    rotate_left 1
    · intro w hS; obtain ⟨⟨s0, s1, s2, s3, s4⟩, ⟨t0, t1, t2, t3, t4⟩, ⟨u0, u1, u2, u3, u4⟩⟩ := hS; go_simp; with_reducible rfl
    simp only [Act.put, List.getElem_toArray, List.getElem_cons_zero, List.getElem_cons_succ, List.setIfInBounds_toArray, List.set_cons_zero, List.set_cons_succ]
    refine anyT_takeL [3, 5, 7, 8, 9, 10] (i := 2) (v := ?_) rfl (by decide +kernel) (by decide +kernel) (by decide +kernel) (by decide +kernel) (by decide +kernel) (by decide +kernel) (fun _ _ _ h => h) (Or.inl ⟨by rfl, ?_⟩) HD.out ?_
    rotate_left 1
    · intro w hS; obtain ⟨⟨s0, s1, s2, s3, s4⟩, ⟨t0, t1, t2, t3, t4⟩, ⟨u0, u1, u2, u3, u4⟩⟩ := hS; go_simp; with_reducible rfl
    simp only [Act.put, List.getElem_toArray, List.getElem_cons_zero, List.getElem_cons_succ, List.setIfInBounds_toArray, List.set_cons_zero, List.set_cons_succ]
    refine anyT_takeL [5, 7, 8, 9, 10] (i := 4) (v := ?_) rfl (by decide +kernel) (by decide +kernel) (by decide +kernel) (by decide +kernel) (by decide +kernel) (by decide +kernel) (fun _ _ _ h => h) (Or.inl ⟨by rfl, ?_⟩) HD.out ?_
    rotate_left 1
    · intro w hS; obtain ⟨⟨s0, s1, s2, s3, s4⟩, ⟨t0, t1, t2, t3, t4⟩, ⟨u0, u1, u2, u3, u4⟩⟩ := hS; go_simp; with_reducible rfl
    simp only [Act.put, List.getElem_toArray, List.getElem_cons_zero, List.getElem_cons_succ, List.setIfInBounds_toArray, List.set_cons_zero, List.set_cons_succ]
    refine anyT_takeL [7, 8, 9, 10] (i := 6) (v := ?_) rfl (by decide +kernel) (by decide +kernel) (by decide +kernel) (by decide +kernel) (by decide +kernel) (by decide +kernel) (fun _ _ _ h => h) (Or.inl ⟨by rfl, ?_⟩) HD.out ?_
    rotate_left 1
    · intro w hS; obtain ⟨⟨s0, s1, s2, s3, s4⟩, ⟨t0, t1, t2, t3, t4⟩, ⟨u0, u1, u2, u3, u4⟩⟩ := hS; go_simp; with_reducible rfl
    simp only [Act.put, List.getElem_toArray, List.getElem_cons_zero, List.getElem_cons_succ, List.setIfInBounds_toArray, List.set_cons_zero, List.set_cons_succ]
    refine anyT_two (i := 3) (j := 11) (by decide +kernel) rfl rfl (fun KK hK => ?_) (fun KK hK => ?_)
    · go_simp
      go_at_call 15
      refine (then_c f0C s0C w1).mono ?_
      rintro e w2 ⟨rfl, hbn⟩
      have HD' := Lib.hid (HD.out.below3 hbn HSZ.out)
      have HSZ' := Lib.hid (Nat.le_trans HSZ.out hbn.size)
      have HB' := Lib.hid (HB.out.trans (hbn.mono HB.out.size))
      clear HD HSZ HB hbn
      have HD := HD'
      have HSZ := HSZ'
      have HB := HB'
      clear HD' HSZ' HB'
      try go_simp
      refine hK.out _ _ (fun _ => HD.out) ?_
      clear hK KK
      try simp only [Act.put, List.getElem_toArray, List.getElem_cons_zero, List.getElem_cons_succ, List.setIfInBounds_toArray, List.set_cons_zero, List.set_cons_succ]
      refine anyT_two (i := 5) (j := 11) (by decide +kernel) rfl rfl (fun KK hK => ?_) (fun KK hK => ?_)
      · go_simp
        go_at_call 21
        refine (back_any f0C w2).mono ?_
        rintro e w3 ⟨rfl, hbn⟩
        have HD' := Lib.hid (HD.out.below3 hbn HSZ.out)
        have HSZ' := Lib.hid (Nat.le_trans HSZ.out hbn.size)
        have HB' := Lib.hid (HB.out.trans (hbn.mono HB.out.size))
        clear HD HSZ HB hbn
        have HD := HD'
        have HSZ := HSZ'
        have HB := HB'
        clear HD' HSZ' HB'
        try go_simp
        refine hK.out _ _ (fun _ => HD.out) ?_
        clear hK KK
        try simp only [Act.put, List.getElem_toArray, List.getElem_cons_zero, List.getElem_cons_succ, List.setIfInBounds_toArray, List.set_cons_zero, List.set_cons_succ]
        refine anyT_two (i := 7) (j := 11) (by decide +kernel) rfl rfl (fun KK hK => ?_) (fun KK hK => ?_)
        · go_simp
          go_at_call 21
          refine (back_any s0C w3).mono ?_
          rintro e w4 ⟨rfl, hbn⟩
          have HD' := Lib.hid (HD.out.below3 hbn HSZ.out)
          have HSZ' := Lib.hid (Nat.le_trans HSZ.out hbn.size)
          have HB' := Lib.hid (HB.out.trans (hbn.mono HB.out.size))
          clear HD HSZ HB hbn
          have HD := HD'
          have HSZ := HSZ'
          have HB := HB'
          clear HD' HSZ' HB'
          try go_simp
          refine hK.out _ _ (fun _ => HD.out) ?_
          clear hK KK
          try simp only [Act.put, List.getElem_toArray, List.getElem_cons_zero, List.getElem_cons_succ, List.setIfInBounds_toArray, List.set_cons_zero, List.set_cons_succ]
          refine anyT_two (i := 8) (j := 11) (by decide +kernel) rfl rfl (fun KK hK => ?_) (fun KK hK => ?_)
          · go_simp
            go_at_call 15
            refine (then_c (backC f0C) (backC s0C) w4).mono ?_
            rintro e w5 ⟨rfl, hbn⟩
            have HD' := Lib.hid (HD.out.below3 hbn HSZ.out)
            have HSZ' := Lib.hid (Nat.le_trans HSZ.out hbn.size)
            have HB' := Lib.hid (HB.out.trans (hbn.mono HB.out.size))
            clear HD HSZ HB hbn
            have HD := HD'
            have HSZ := HSZ'
            have HB := HB'
            clear HD' HSZ' HB'
            try go_simp
            refine hK.out _ _ (fun _ => HD.out) ?_
            clear hK KK
            try simp only [Act.put, List.getElem_toArray, List.getElem_cons_zero, List.getElem_cons_succ, List.setIfInBounds_toArray, List.set_cons_zero, List.set_cons_succ]
            refine anyT_two (i := 9) (j := 11) (by decide +kernel) rfl rfl (fun KK hK => ?_) (fun KK hK => ?_)
            · go_simp
              go_at_call 15
              refine (then_c (cmpC f0C s0C) (cmpC (backC f0C) (backC s0C)) w5).mono ?_
              rintro e w6 ⟨rfl, hbn⟩
              have HD' := Lib.hid (HD.out.below3 hbn HSZ.out)
              have HSZ' := Lib.hid (Nat.le_trans HSZ.out hbn.size)
              have HB' := Lib.hid (HB.out.trans (hbn.mono HB.out.size))
              clear HD HSZ HB hbn
              have HD := HD'
              have HSZ := HSZ'
              have HB := HB'
              clear HD' HSZ' HB'
              try go_simp
              refine hK.out _ _ (fun _ => HD.out) ?_
              clear hK KK
              try simp only [Act.put, List.getElem_toArray, List.getElem_cons_zero, List.getElem_cons_succ, List.setIfInBounds_toArray, List.set_cons_zero, List.set_cons_succ]
              refine anyT_two (i := 10) (j := 11) (by decide +kernel) rfl rfl (fun KK hK => ?_) (fun KK hK => ?_)
              · go_simp
                go_at_call 24
                refine (between_any r comC w6).mono ?_
                rintro e w7 ⟨rfl, hbn⟩
                have HD' := Lib.hid (HD.out.below3 hbn HSZ.out)
                have HSZ' := Lib.hid (Nat.le_trans HSZ.out hbn.size)
                have HB' := Lib.hid (HB.out.trans (hbn.mono HB.out.size))
                clear HD HSZ HB hbn
                have HD := HD'
                have HSZ := HSZ'
                have HB := HB'
                clear HD' HSZ' HB'
                try go_simp
                refine hK.out _ _ (fun h => absurd h (by decide +kernel)) ?_
                clear hK KK
                try simp only [Act.put, List.getElem_toArray, List.getElem_cons_zero, List.getElem_cons_succ, List.setIfInBounds_toArray, List.set_cons_zero, List.set_cons_succ]
                refine T_of_any _ _ _ _ (by decide +kernel) ?_
                refine wpAny_ready (rs := [11]) (by decide +kernel) (by simp) ?_
                refine AllReady.cons rfl (fun KK hK0 => ?_) AllReady.nil
                have hK := Lib.hid (fun a w (_ : True) h => hK0 a w h)
                go_simp
                have hba := (Below.refl w7.heap.size w7).alloc (Nat.le_refl _) (.cells #[.int .i64 0, .int .i64 0, .int .i64 0, .int .i64 0, .int .i64 0] 22)
                have HDA := Lib.hid (HD.out.below3 hba HSZ.out)
                have HBA := Lib.hid (HB.out.trans (hba.mono HB.out.size))
                have HZA := Lib.hid (zrow w7)
                have HSA := Lib.hid (Nat.le_trans HSZ.out hba.size)
                refine hK.out _ _ trivial ?_
                clear hK hK0 KK
                try simp only [Act.put, List.getElem_toArray, List.getElem_cons_zero, List.getElem_cons_succ, List.setIfInBounds_toArray, List.set_cons_zero, List.set_cons_succ]
                have HPX : Hid (x + 3 ≤ w7.heap.size) := HSZ
                have hpl : w7.heap.size < (w7.alloc (.cells #[.int .i64 0, .int .i64 0, .int .i64 0, .int .i64 0, .int .i64 0] 22)).heap.size := by simp
                obtain ⟨WA, hWA⟩ : ∃ WA, WA = w7.alloc (.cells #[.int .i64 0, .int .i64 0, .int .i64 0, .int .i64 0, .int .i64 0] 22) := ⟨_, rfl⟩
                rw [← hWA] at HDA HBA HZA HSA hpl
                rw [← hWA]
                obtain ⟨p, hp⟩ : ∃ p, p = w7.heap.size := ⟨_, rfl⟩
                rw [← hp] at HZA hpl HPX
                rw [← hp]
                have HPL := Lib.hid hpl
                clear HD HB HSZ hba hpl hWA hp
                have HD := HDA
                have HB := HBA
                have HZ := HZA
                have HSZ := HSA
                clear HDA HBA HZA HSA
                have p0 := HZ.out.cell (i := 0) (by omega)
                have p1 := HZ.out.cell (i := 1) (by omega)
                have p2 := HZ.out.cell (i := 2) (by omega)
                have p3 := HZ.out.cell (i := 3) (by omega)
                have p4 := HZ.out.cell (i := 4) (by omega)
                have z0 := HZ.out.frozen 0
                have z1 := HZ.out.frozen 1
                have z2 := HZ.out.frozen 2
                have z3 := HZ.out.frozen 3
                have z4 := HZ.out.frozen 4
                refine wpAny_ready (rs := [12]) (by decide +kernel) (by simp) ?_
                refine AllReady.cons rfl (fun KK hK => ?_) AllReady.nil
                go_simp
                refine hK _ _ ?_
                clear hK KK
                try simp only [Act.put, List.getElem_toArray, List.getElem_cons_zero, List.getElem_cons_succ, List.setIfInBounds_toArray, List.set_cons_zero, List.set_cons_succ]
                refine wpAny_done (by decide +kernel) ?_ _
                go_wp2_with fail
                go_meet
                exact ⟨p, rfl, HPX.out, row_set5 HZ.out, row_other5 (row_below HX1.out HB.out (by rw [HS1.out]; omega)) (by have := HPX.out; omega) _ _ _ _ _, row_other5 (row_below HX2.out HB.out (by rw [HS1.out]; omega)) (by have := HPX.out; omega) _ _ _ _ _, row_other5 (row_below HX0.out HB.out (by rw [HS1.out]; omega)) (by have := HPX.out; omega) _ _ _ _ _, zset5 (HB.out.mono (by rw [HS1.out]; exact Nat.le_refl _)) p HPX.out _ _ _ _ _⟩
              · go_simp
                have hba := (Below.refl w6.heap.size w6).alloc (Nat.le_refl _) (.cells #[.int .i64 0, .int .i64 0, .int .i64 0, .int .i64 0, .int .i64 0] 22)
                have HDA := Lib.hid (HD.out.below3 hba HSZ.out)
                have HBA := Lib.hid (HB.out.trans (hba.mono HB.out.size))
                have HZA := Lib.hid (zrow w6)
                have HSA := Lib.hid (Nat.le_trans HSZ.out hba.size)
                refine hK.out _ _ (fun _ => HDA.out) ?_
                clear hK KK
                try simp only [Act.put, List.getElem_toArray, List.getElem_cons_zero, List.getElem_cons_succ, List.setIfInBounds_toArray, List.set_cons_zero, List.set_cons_succ]
                have HPX : Hid (x + 3 ≤ w6.heap.size) := HSZ
                have hpl : w6.heap.size < (w6.alloc (.cells #[.int .i64 0, .int .i64 0, .int .i64 0, .int .i64 0, .int .i64 0] 22)).heap.size := by simp
                obtain ⟨WA, hWA⟩ : ∃ WA, WA = w6.alloc (.cells #[.int .i64 0, .int .i64 0, .int .i64 0, .int .i64 0, .int .i64 0] 22) := ⟨_, rfl⟩
                rw [← hWA] at HDA HBA HZA HSA hpl
                rw [← hWA]
                obtain ⟨p, hp⟩ : ∃ p, p = w6.heap.size := ⟨_, rfl⟩
                rw [← hp] at HZA hpl HPX
                rw [← hp]
                have HPL := Lib.hid hpl
                clear HD HB HSZ hba hpl hWA hp
                have HD := HDA
                have HB := HBA
                have HZ := HZA
                have HSZ := HSA
                clear HDA HBA HZA HSA
                refine anyT_one (i := 10) (by decide +kernel) rfl (fun KK hK => ?_)
                go_simp
                go_at_call 24
                refine (between_any r comC WA).mono ?_
                rintro e w7 ⟨rfl, hbn⟩
                have HD' := Lib.hid (HD.out.below3 hbn HSZ.out)
                have HSZ' := Lib.hid (Nat.le_trans HSZ.out hbn.size)
                have HB' := Lib.hid (HB.out.trans (hbn.mono HB.out.size))
                have HZ' := Lib.hid (HZ.out.of_block (w' := w7) (hbn.block p HPL.out))
                have HPL' := Lib.hid (Nat.lt_of_lt_of_le HPL.out hbn.size)
                clear HZ HPL
                have HZ := HZ'
                have HPL := HPL'
                clear HZ' HPL'
                clear HD HSZ HB hbn
                have HD := HD'
                have HSZ := HSZ'
                have HB := HB'
                clear HD' HSZ' HB'
                try go_simp
                refine hK.out _ _ (fun h => absurd h (by decide +kernel)) ?_
                clear hK KK
                try simp only [Act.put, List.getElem_toArray, List.getElem_cons_zero, List.getElem_cons_succ, List.setIfInBounds_toArray, List.set_cons_zero, List.set_cons_succ]
                refine T_of_any _ _ _ _ (by decide +kernel) ?_
                have p0 := HZ.out.cell (i := 0) (by omega)
                have p1 := HZ.out.cell (i := 1) (by omega)
                have p2 := HZ.out.cell (i := 2) (by omega)
                have p3 := HZ.out.cell (i := 3) (by omega)
                have p4 := HZ.out.cell (i := 4) (by omega)
                have z0 := HZ.out.frozen 0
                have z1 := HZ.out.frozen 1
                have z2 := HZ.out.frozen 2
                have z3 := HZ.out.frozen 3
                have z4 := HZ.out.frozen 4
                refine wpAny_ready (rs := [12]) (by decide +kernel) (by simp) ?_
                refine AllReady.cons rfl (fun KK hK => ?_) AllReady.nil
                go_simp
                refine hK _ _ ?_
                clear hK KK
                try simp only [Act.put, List.getElem_toArray, List.getElem_cons_zero, List.getElem_cons_succ, List.setIfInBounds_toArray, List.set_cons_zero, List.set_cons_succ]
                refine wpAny_done (by decide +kernel) ?_ _
                go_wp2_with fail
                go_meet
                exact ⟨p, rfl, HPX.out, row_set5 HZ.out, row_other5 (row_below HX1.out HB.out (by rw [HS1.out]; omega)) (by have := HPX.out; omega) _ _ _ _ _, row_other5 (row_below HX2.out HB.out (by rw [HS1.out]; omega)) (by have := HPX.out; omega) _ _ _ _ _, row_other5 (row_below HX0.out HB.out (by rw [HS1.out]; omega)) (by have := HPX.out; omega) _ _ _ _ _, zset5 (HB.out.mono (by rw [HS1.out]; exact Nat.le_refl _)) p HPX.out _ _ _ _ _⟩
            · go_simp
              have hba := (Below.refl w5.heap.size w5).alloc (Nat.le_refl _) (.cells #[.int .i64 0, .int .i64 0, .int .i64 0, .int .i64 0, .int .i64 0] 22)
              have HDA := Lib.hid (HD.out.below3 hba HSZ.out)
              have HBA := Lib.hid (HB.out.trans (hba.mono HB.out.size))
              have HZA := Lib.hid (zrow w5)
              have HSA := Lib.hid (Nat.le_trans HSZ.out hba.size)
              refine hK.out _ _ (fun _ => HDA.out) ?_
              clear hK KK
              try simp only [Act.put, List.getElem_toArray, List.getElem_cons_zero, List.getElem_cons_succ, List.setIfInBounds_toArray, List.set_cons_zero, List.set_cons_succ]
              have HPX : Hid (x + 3 ≤ w5.heap.size) := HSZ
              have hpl : w5.heap.size < (w5.alloc (.cells #[.int .i64 0, .int .i64 0, .int .i64 0, .int .i64 0, .int .i64 0] 22)).heap.size := by simp
              obtain ⟨WA, hWA⟩ : ∃ WA, WA = w5.alloc (.cells #[.int .i64 0, .int .i64 0, .int .i64 0, .int .i64 0, .int .i64 0] 22) := ⟨_, rfl⟩
              rw [← hWA] at HDA HBA HZA HSA hpl
              rw [← hWA]
              obtain ⟨p, hp⟩ : ∃ p, p = w5.heap.size := ⟨_, rfl⟩
              rw [← hp] at HZA hpl HPX
              rw [← hp]
              have HPL := Lib.hid hpl
              clear HD HB HSZ hba hpl hWA hp
              have HD := HDA
              have HB := HBA
              have HZ := HZA
              have HSZ := HSA
              clear HDA HBA HZA HSA
              refine anyT_one (i := 9) (by decide +kernel) rfl (fun KK hK => ?_)
              go_simp
              go_at_call 15
              refine (then_c (cmpC f0C s0C) (cmpC (backC f0C) (backC s0C)) WA).mono ?_
              rintro e w6 ⟨rfl, hbn⟩
              have HD' := Lib.hid (HD.out.below3 hbn HSZ.out)
              have HSZ' := Lib.hid (Nat.le_trans HSZ.out hbn.size)
              have HB' := Lib.hid (HB.out.trans (hbn.mono HB.out.size))
              have HZ' := Lib.hid (HZ.out.of_block (w' := w6) (hbn.block p HPL.out))
              have HPL' := Lib.hid (Nat.lt_of_lt_of_le HPL.out hbn.size)
              clear HZ HPL
              have HZ := HZ'
              have HPL := HPL'
              clear HZ' HPL'
              clear HD HSZ HB hbn
              have HD := HD'
              have HSZ := HSZ'
              have HB := HB'
              clear HD' HSZ' HB'
              try go_simp
              refine hK.out _ _ (fun _ => HD.out) ?_
              clear hK KK
              try simp only [Act.put, List.getElem_toArray, List.getElem_cons_zero, List.getElem_cons_succ, List.setIfInBounds_toArray, List.set_cons_zero, List.set_cons_succ]
              refine anyT_one (i := 10) (by decide +kernel) rfl (fun KK hK => ?_)
              go_simp
              go_at_call 24
              refine (between_any r comC w6).mono ?_
              rintro e w7 ⟨rfl, hbn⟩
              have HD' := Lib.hid (HD.out.below3 hbn HSZ.out)
              have HSZ' := Lib.hid (Nat.le_trans HSZ.out hbn.size)
              have HB' := Lib.hid (HB.out.trans (hbn.mono HB.out.size))
              have HZ' := Lib.hid (HZ.out.of_block (w' := w7) (hbn.block p HPL.out))
              have HPL' := Lib.hid (Nat.lt_of_lt_of_le HPL.out hbn.size)
              clear HZ HPL
              have HZ := HZ'
              have HPL := HPL'
              clear HZ' HPL'
              clear HD HSZ HB hbn
              have HD := HD'
              have HSZ := HSZ'
              have HB := HB'
              clear HD' HSZ' HB'
              try go_simp
              refine hK.out _ _ (fun h => absurd h (by decide +kernel)) ?_
              clear hK KK
              try simp only [Act.put, List.getElem_toArray, List.getElem_cons_zero, List.getElem_cons_succ, List.setIfInBounds_toArray, List.set_cons_zero, List.set_cons_succ]
              refine T_of_any _ _ _ _ (by decide +kernel) ?_
              have p0 := HZ.out.cell (i := 0) (by omega)
              have p1 := HZ.out.cell (i := 1) (by omega)
              have p2 := HZ.out.cell (i := 2) (by omega)
              have p3 := HZ.out.cell (i := 3) (by omega)
              have p4 := HZ.out.cell (i := 4) (by omega)
              have z0 := HZ.out.frozen 0
              have z1 := HZ.out.frozen 1
              have z2 := HZ.out.frozen 2
              have z3 := HZ.out.frozen 3
              have z4 := HZ.out.frozen 4
              refine wpAny_ready (rs := [12]) (by decide +kernel) (by simp) ?_
              refine AllReady.cons rfl (fun KK hK => ?_) AllReady.nil
              go_simp
              refine hK _ _ ?_
              clear hK KK
              try simp only [Act.put, List.getElem_toArray, List.getElem_cons_zero, List.getElem_cons_succ, List.setIfInBounds_toArray, List.set_cons_zero, List.set_cons_succ]
              refine wpAny_done (by decide +kernel) ?_ _
              go_wp2_with fail
              go_meet
              exact ⟨p, rfl, HPX.out, row_set5 HZ.out, row_other5 (row_below HX1.out HB.out (by rw [HS1.out]; omega)) (by have := HPX.out; omega) _ _ _ _ _, row_other5 (row_below HX2.out HB.out (by rw [HS1.out]; omega)) (by have := HPX.out; omega) _ _ _ _ _, row_other5 (row_below HX0.out HB.out (by rw [HS1.out]; omega)) (by have := HPX.out; omega) _ _ _ _ _, zset5 (HB.out.mono (by rw [HS1.out]; exact Nat.le_refl _)) p HPX.out _ _ _ _ _⟩
          · go_simp
            have hba := (Below.refl w4.heap.size w4).alloc (Nat.le_refl _) (.cells #[.int .i64 0, .int .i64 0, .int .i64 0, .int .i64 0, .int .i64 0] 22)
            have HDA := Lib.hid (HD.out.below3 hba HSZ.out)
            have HBA := Lib.hid (HB.out.trans (hba.mono HB.out.size))
            have HZA := Lib.hid (zrow w4)
            have HSA := Lib.hid (Nat.le_trans HSZ.out hba.size)
            refine hK.out _ _ (fun _ => HDA.out) ?_
            clear hK KK
            try simp only [Act.put, List.getElem_toArray, List.getElem_cons_zero, List.getElem_cons_succ, List.setIfInBounds_toArray, List.set_cons_zero, List.set_cons_succ]
            have HPX : Hid (x + 3 ≤ w4.heap.size) := HSZ
            have hpl : w4.heap.size < (w4.alloc (.cells #[.int .i64 0, .int .i64 0, .int .i64 0, .int .i64 0, .int .i64 0] 22)).heap.size := by simp
            obtain ⟨WA, hWA⟩ : ∃ WA, WA = w4.alloc (.cells #[.int .i64 0, .int .i64 0, .int .i64 0, .int .i64 0, .int .i64 0] 22) := ⟨_, rfl⟩
            rw [← hWA] at HDA HBA HZA HSA hpl
            rw [← hWA]
            obtain ⟨p, hp⟩ : ∃ p, p = w4.heap.size := ⟨_, rfl⟩
            rw [← hp] at HZA hpl HPX
            rw [← hp]
            have HPL := Lib.hid hpl
            clear HD HB HSZ hba hpl hWA hp
            have HD := HDA
            have HB := HBA
            have HZ := HZA
            have HSZ := HSA
            clear HDA HBA HZA HSA
            refine anyT_one (i := 8) (by decide +kernel) rfl (fun KK hK => ?_)
            go_simp
            go_at_call 15
            refine (then_c (backC f0C) (backC s0C) WA).mono ?_
            rintro e w5 ⟨rfl, hbn⟩
            have HD' := Lib.hid (HD.out.below3 hbn HSZ.out)
            have HSZ' := Lib.hid (Nat.le_trans HSZ.out hbn.size)
            have HB' := Lib.hid (HB.out.trans (hbn.mono HB.out.size))
            have HZ' := Lib.hid (HZ.out.of_block (w' := w5) (hbn.block p HPL.out))
            have HPL' := Lib.hid (Nat.lt_of_lt_of_le HPL.out hbn.size)
            clear HZ HPL
            have HZ := HZ'
            have HPL := HPL'
            clear HZ' HPL'
            clear HD HSZ HB hbn
            have HD := HD'
            have HSZ := HSZ'
            have HB := HB'
            clear HD' HSZ' HB'
            try go_simp
            refine hK.out _ _ (fun _ => HD.out) ?_
            clear hK KK
            try simp only [Act.put, List.getElem_toArray, List.getElem_cons_zero, List.getElem_cons_succ, List.setIfInBounds_toArray, List.set_cons_zero, List.set_cons_succ]
            refine anyT_one (i := 9) (by decide +kernel) rfl (fun KK hK => ?_)
            go_simp
            go_at_call 15
            refine (then_c (cmpC f0C s0C) (cmpC (backC f0C) (backC s0C)) w5).mono ?_
            rintro e w6 ⟨rfl, hbn⟩
            have HD' := Lib.hid (HD.out.below3 hbn HSZ.out)
            have HSZ' := Lib.hid (Nat.le_trans HSZ.out hbn.size)
            have HB' := Lib.hid (HB.out.trans (hbn.mono HB.out.size))
            have HZ' := Lib.hid (HZ.out.of_block (w' := w6) (hbn.block p HPL.out))
            have HPL' := Lib.hid (Nat.lt_of_lt_of_le HPL.out hbn.size)
            clear HZ HPL
            have HZ := HZ'
            have HPL := HPL'
            clear HZ' HPL'
            clear HD HSZ HB hbn
            have HD := HD'
            have HSZ := HSZ'
            have HB := HB'
            clear HD' HSZ' HB'
            try go_simp
            refine hK.out _ _ (fun _ => HD.out) ?_
            clear hK KK
            try simp only [Act.put, List.getElem_toArray, List.getElem_cons_zero, List.getElem_cons_succ, List.setIfInBounds_toArray, List.set_cons_zero, List.set_cons_succ]
            refine anyT_one (i := 10) (by decide +kernel) rfl (fun KK hK => ?_)
            go_simp
            go_at_call 24
            refine (between_any r comC w6).mono ?_
            rintro e w7 ⟨rfl, hbn⟩
            have HD' := Lib.hid (HD.out.below3 hbn HSZ.out)
            have HSZ' := Lib.hid (Nat.le_trans HSZ.out hbn.size)
            have HB' := Lib.hid (HB.out.trans (hbn.mono HB.out.size))
            have HZ' := Lib.hid (HZ.out.of_block (w' := w7) (hbn.block p HPL.out))
            have HPL' := Lib.hid (Nat.lt_of_lt_of_le HPL.out hbn.size)
            clear HZ HPL
            have HZ := HZ'
            have HPL := HPL'
            clear HZ' HPL'
            clear HD HSZ HB hbn
            have HD := HD'
            have HSZ := HSZ'
            have HB := HB'
            clear HD' HSZ' HB'
            try go_simp
            refine hK.out _ _ (fun h => absurd h (by decide +kernel)) ?_
            clear hK KK
            try simp only [Act.put, List.getElem_toArray, List.getElem_cons_zero, List.getElem_cons_succ, List.setIfInBounds_toArray, List.set_cons_zero, List.set_cons_succ]
            refine T_of_any _ _ _ _ (by decide +kernel) ?_
            have p0 := HZ.out.cell (i := 0) (by omega)
            have p1 := HZ.out.cell (i := 1) (by omega)
            have p2 := HZ.out.cell (i := 2) (by omega)
            have p3 := HZ.out.cell (i := 3) (by omega)
            have p4 := HZ.out.cell (i := 4) (by omega)
            have z0 := HZ.out.frozen 0
            have z1 := HZ.out.frozen 1
            have z2 := HZ.out.frozen 2
            have z3 := HZ.out.frozen 3
            have z4 := HZ.out.frozen 4
            refine wpAny_ready (rs := [12]) (by decide +kernel) (by simp) ?_
            refine AllReady.cons rfl (fun KK hK => ?_) AllReady.nil
            go_simp
            refine hK _ _ ?_
            clear hK KK
            try simp only [Act.put, List.getElem_toArray, List.getElem_cons_zero, List.getElem_cons_succ, List.setIfInBounds_toArray, List.set_cons_zero, List.set_cons_succ]
            refine wpAny_done (by decide +kernel) ?_ _
            go_wp2_with fail
            go_meet
            exact ⟨p, rfl, HPX.out, row_set5 HZ.out, row_other5 (row_below HX1.out HB.out (by rw [HS1.out]; omega)) (by have := HPX.out; omega) _ _ _ _ _, row_other5 (row_below HX2.out HB.out (by rw [HS1.out]; omega)) (by have := HPX.out; omega) _ _ _ _ _, row_other5 (row_below HX0.out HB.out (by rw [HS1.out]; omega)) (by have := HPX.out; omega) _ _ _ _ _, zset5 (HB.out.mono (by rw [HS1.out]; exact Nat.le_refl _)) p HPX.out _ _ _ _ _⟩
        · go_simp
          have hba := (Below.refl w3.heap.size w3).alloc (Nat.le_refl _) (.cells #[.int .i64 0, .int .i64 0, .int .i64 0, .int .i64 0, .int .i64 0] 22)
          have HDA := Lib.hid (HD.out.below3 hba HSZ.out)
          have HBA := Lib.hid (HB.out.trans (hba.mono HB.out.size))
          have HZA := Lib.hid (zrow w3)
          have HSA := Lib.hid (Nat.le_trans HSZ.out hba.size)
          refine hK.out _ _ (fun _ => HDA.out) ?_
          clear hK KK
          try simp only [Act.put, List.getElem_toArray, List.getElem_cons_zero, List.getElem_cons_succ, List.setIfInBounds_toArray, List.set_cons_zero, List.set_cons_succ]
          have HPX : Hid (x + 3 ≤ w3.heap.size) := HSZ
          have hpl : w3.heap.size < (w3.alloc (.cells #[.int .i64 0, .int .i64 0, .int .i64 0, .int .i64 0, .int .i64 0] 22)).heap.size := by simp
          obtain ⟨WA, hWA⟩ : ∃ WA, WA = w3.alloc (.cells #[.int .i64 0, .int .i64 0, .int .i64 0, .int .i64 0, .int .i64 0] 22) := ⟨_, rfl⟩
          rw [← hWA] at HDA HBA HZA HSA hpl
          rw [← hWA]
          obtain ⟨p, hp⟩ : ∃ p, p = w3.heap.size := ⟨_, rfl⟩
          rw [← hp] at HZA hpl HPX
          rw [← hp]
          have HPL := Lib.hid hpl
          clear HD HB HSZ hba hpl hWA hp
          have HD := HDA
          have HB := HBA
          have HZ := HZA
          have HSZ := HSA
          clear HDA HBA HZA HSA
          refine anyT_one (i := 7) (by decide +kernel) rfl (fun KK hK => ?_)
          go_simp
          go_at_call 21
          refine (back_any s0C WA).mono ?_
          rintro e w4 ⟨rfl, hbn⟩
          have HD' := Lib.hid (HD.out.below3 hbn HSZ.out)
          have HSZ' := Lib.hid (Nat.le_trans HSZ.out hbn.size)
          have HB' := Lib.hid (HB.out.trans (hbn.mono HB.out.size))
          have HZ' := Lib.hid (HZ.out.of_block (w' := w4) (hbn.block p HPL.out))
          have HPL' := Lib.hid (Nat.lt_of_lt_of_le HPL.out hbn.size)
          clear HZ HPL
          have HZ := HZ'
          have HPL := HPL'
          clear HZ' HPL'
          clear HD HSZ HB hbn
          have HD := HD'
          have HSZ := HSZ'
          have HB := HB'
          clear HD' HSZ' HB'
          try go_simp
          refine hK.out _ _ (fun _ => HD.out) ?_
          clear hK KK
          try simp only [Act.put, List.getElem_toArray, List.getElem_cons_zero, List.getElem_cons_succ, List.setIfInBounds_toArray, List.set_cons_zero, List.set_cons_succ]
          refine anyT_one (i := 8) (by decide +kernel) rfl (fun KK hK => ?_)
          go_simp
          go_at_call 15
          refine (then_c (backC f0C) (backC s0C) w4).mono ?_
          rintro e w5 ⟨rfl, hbn⟩
          have HD' := Lib.hid (HD.out.below3 hbn HSZ.out)
          have HSZ' := Lib.hid (Nat.le_trans HSZ.out hbn.size)
          have HB' := Lib.hid (HB.out.trans (hbn.mono HB.out.size))
          have HZ' := Lib.hid (HZ.out.of_block (w' := w5) (hbn.block p HPL.out))
          have HPL' := Lib.hid (Nat.lt_of_lt_of_le HPL.out hbn.size)
          clear HZ HPL
          have HZ := HZ'
          have HPL := HPL'
          clear HZ' HPL'
          clear HD HSZ HB hbn
          have HD := HD'
          have HSZ := HSZ'
          have HB := HB'
          clear HD' HSZ' HB'
          try go_simp
          refine hK.out _ _ (fun _ => HD.out) ?_
          clear hK KK
          try simp only [Act.put, List.getElem_toArray, List.getElem_cons_zero, List.getElem_cons_succ, List.setIfInBounds_toArray, List.set_cons_zero, List.set_cons_succ]
          refine anyT_one (i := 9) (by decide +kernel) rfl (fun KK hK => ?_)
          go_simp
          go_at_call 15
          refine (then_c (cmpC f0C s0C) (cmpC (backC f0C) (backC s0C)) w5).mono ?_
          rintro e w6 ⟨rfl, hbn⟩
          have HD' := Lib.hid (HD.out.below3 hbn HSZ.out)
          have HSZ' := Lib.hid (Nat.le_trans HSZ.out hbn.size)
          have HB' := Lib.hid (HB.out.trans (hbn.mono HB.out.size))
          have HZ' := Lib.hid (HZ.out.of_block (w' := w6) (hbn.block p HPL.out))
          have HPL' := Lib.hid (Nat.lt_of_lt_of_le HPL.out hbn.size)
          clear HZ HPL
          have HZ := HZ'
          have HPL := HPL'
          clear HZ' HPL'
          clear HD HSZ HB hbn
          have HD := HD'
          have HSZ := HSZ'
          have HB := HB'
          clear HD' HSZ' HB'
          try go_simp
          refine hK.out _ _ (fun _ => HD.out) ?_
          clear hK KK
          try simp only [Act.put, List.getElem_toArray, List.getElem_cons_zero, List.getElem_cons_succ, List.setIfInBounds_toArray, List.set_cons_zero, List.set_cons_succ]
          refine anyT_one (i := 10) (by decide +kernel) rfl (fun KK hK => ?_)
          go_simp
          go_at_call 24
          refine (between_any r comC w6).mono ?_
          rintro e w7 ⟨rfl, hbn⟩
          have HD' := Lib.hid (HD.out.below3 hbn HSZ.out)
          have HSZ' := Lib.hid (Nat.le_trans HSZ.out hbn.size)
          have HB' := Lib.hid (HB.out.trans (hbn.mono HB.out.size))
          have HZ' := Lib.hid (HZ.out.of_block (w' := w7) (hbn.block p HPL.out))
          have HPL' := Lib.hid (Nat.lt_of_lt_of_le HPL.out hbn.size)
          clear HZ HPL
          have HZ := HZ'
          have HPL := HPL'
          clear HZ' HPL'
          clear HD HSZ HB hbn
          have HD := HD'
          have HSZ := HSZ'
          have HB := HB'
          clear HD' HSZ' HB'
          try go_simp
          refine hK.out _ _ (fun h => absurd h (by decide +kernel)) ?_
          clear hK KK
          try simp only [Act.put, List.getElem_toArray, List.getElem_cons_zero, List.getElem_cons_succ, List.setIfInBounds_toArray, List.set_cons_zero, List.set_cons_succ]
          refine T_of_any _ _ _ _ (by decide +kernel) ?_
          have p0 := HZ.out.cell (i := 0) (by omega)
          have p1 := HZ.out.cell (i := 1) (by omega)
          have p2 := HZ.out.cell (i := 2) (by omega)
          have p3 := HZ.out.cell (i := 3) (by omega)
          have p4 := HZ.out.cell (i := 4) (by omega)
          have z0 := HZ.out.frozen 0
          have z1 := HZ.out.frozen 1
          have z2 := HZ.out.frozen 2
          have z3 := HZ.out.frozen 3
          have z4 := HZ.out.frozen 4
          refine wpAny_ready (rs := [12]) (by decide +kernel) (by simp) ?_
          refine AllReady.cons rfl (fun KK hK => ?_) AllReady.nil
          go_simp
          refine hK _ _ ?_
          clear hK KK
          try simp only [Act.put, List.getElem_toArray, List.getElem_cons_zero, List.getElem_cons_succ, List.setIfInBounds_toArray, List.set_cons_zero, List.set_cons_succ]
          refine wpAny_done (by decide +kernel) ?_ _
          go_wp2_with fail
          go_meet
          exact ⟨p, rfl, HPX.out, row_set5 HZ.out, row_other5 (row_below HX1.out HB.out (by rw [HS1.out]; omega)) (by have := HPX.out; omega) _ _ _ _ _, row_other5 (row_below HX2.out HB.out (by rw [HS1.out]; omega)) (by have := HPX.out; omega) _ _ _ _ _, row_other5 (row_below HX0.out HB.out (by rw [HS1.out]; omega)) (by have := HPX.out; omega) _ _ _ _ _, zset5 (HB.out.mono (by rw [HS1.out]; exact Nat.le_refl _)) p HPX.out _ _ _ _ _⟩
      · go_simp
        have hba := (Below.refl w2.heap.size w2).alloc (Nat.le_refl _) (.cells #[.int .i64 0, .int .i64 0, .int .i64 0, .int .i64 0, .int .i64 0] 22)
        have HDA := Lib.hid (HD.out.below3 hba HSZ.out)
        have HBA := Lib.hid (HB.out.trans (hba.mono HB.out.size))
        have HZA := Lib.hid (zrow w2)
        have HSA := Lib.hid (Nat.le_trans HSZ.out hba.size)
        refine hK.out _ _ (fun _ => HDA.out) ?_
        clear hK KK
        try simp only [Act.put, List.getElem_toArray, List.getElem_cons_zero, List.getElem_cons_succ, List.setIfInBounds_toArray, List.set_cons_zero, List.set_cons_succ]
        have HPX : Hid (x + 3 ≤ w2.heap.size) := HSZ
        have hpl : w2.heap.size < (w2.alloc (.cells #[.int .i64 0, .int .i64 0, .int .i64 0, .int .i64 0, .int .i64 0] 22)).heap.size := by simp
        obtain ⟨WA, hWA⟩ : ∃ WA, WA = w2.alloc (.cells #[.int .i64 0, .int .i64 0, .int .i64 0, .int .i64 0, .int .i64 0] 22) := ⟨_, rfl⟩
        rw [← hWA] at HDA HBA HZA HSA hpl
        rw [← hWA]
        obtain ⟨p, hp⟩ : ∃ p, p = w2.heap.size := ⟨_, rfl⟩
        rw [← hp] at HZA hpl HPX
        rw [← hp]
        have HPL := Lib.hid hpl
        clear HD HB HSZ hba hpl hWA hp
        have HD := HDA
        have HB := HBA
        have HZ := HZA
        have HSZ := HSA
        clear HDA HBA HZA HSA
        refine anyT_one (i := 5) (by decide +kernel) rfl (fun KK hK => ?_)
        go_simp
        go_at_call 21
        refine (back_any f0C WA).mono ?_
        rintro e w3 ⟨rfl, hbn⟩
        have HD' := Lib.hid (HD.out.below3 hbn HSZ.out)
        have HSZ' := Lib.hid (Nat.le_trans HSZ.out hbn.size)
        have HB' := Lib.hid (HB.out.trans (hbn.mono HB.out.size))
        have HZ' := Lib.hid (HZ.out.of_block (w' := w3) (hbn.block p HPL.out))
        have HPL' := Lib.hid (Nat.lt_of_lt_of_le HPL.out hbn.size)
        clear HZ HPL
        have HZ := HZ'
        have HPL := HPL'
        clear HZ' HPL'
        clear HD HSZ HB hbn
        have HD := HD'
        have HSZ := HSZ'
        have HB := HB'
        clear HD' HSZ' HB'
        try go_simp
        refine hK.out _ _ (fun _ => HD.out) ?_
        clear hK KK
        try simp only [Act.put, List.getElem_toArray, List.getElem_cons_zero, List.getElem_cons_succ, List.setIfInBounds_toArray, List.set_cons_zero, List.set_cons_succ]
        refine anyT_one (i := 7) (by decide +kernel) rfl (fun KK hK => ?_)
        go_simp
        go_at_call 21
        refine (back_any s0C w3).mono ?_
        rintro e w4 ⟨rfl, hbn⟩
        have HD' := Lib.hid (HD.out.below3 hbn HSZ.out)
        have HSZ' := Lib.hid (Nat.le_trans HSZ.out hbn.size)
        have HB' := Lib.hid (HB.out.trans (hbn.mono HB.out.size))
        have HZ' := Lib.hid (HZ.out.of_block (w' := w4) (hbn.block p HPL.out))
        have HPL' := Lib.hid (Nat.lt_of_lt_of_le HPL.out hbn.size)
        clear HZ HPL
        have HZ := HZ'
        have HPL := HPL'
        clear HZ' HPL'
        clear HD HSZ HB hbn
        have HD := HD'
        have HSZ := HSZ'
        have HB := HB'
        clear HD' HSZ' HB'
        try go_simp
        refine hK.out _ _ (fun _ => HD.out) ?_
        clear hK KK
        try simp only [Act.put, List.getElem_toArray, List.getElem_cons_zero, List.getElem_cons_succ, List.setIfInBounds_toArray, List.set_cons_zero, List.set_cons_succ]
        refine anyT_one (i := 8) (by decide +kernel) rfl (fun KK hK => ?_)
        go_simp
        go_at_call 15
        refine (then_c (backC f0C) (backC s0C) w4).mono ?_
        rintro e w5 ⟨rfl, hbn⟩
        have HD' := Lib.hid (HD.out.below3 hbn HSZ.out)
        have HSZ' := Lib.hid (Nat.le_trans HSZ.out hbn.size)
        have HB' := Lib.hid (HB.out.trans (hbn.mono HB.out.size))
        have HZ' := Lib.hid (HZ.out.of_block (w' := w5) (hbn.block p HPL.out))
        have HPL' := Lib.hid (Nat.lt_of_lt_of_le HPL.out hbn.size)
        clear HZ HPL
        have HZ := HZ'
        have HPL := HPL'
        clear HZ' HPL'
        clear HD HSZ HB hbn
        have HD := HD'
        have HSZ := HSZ'
        have HB := HB'
        clear HD' HSZ' HB'
        try go_simp
        refine hK.out _ _ (fun _ => HD.out) ?_
        clear hK KK
        try simp only [Act.put, List.getElem_toArray, List.getElem_cons_zero, List.getElem_cons_succ, List.setIfInBounds_toArray, List.set_cons_zero, List.set_cons_succ]
        refine anyT_one (i := 9) (by decide +kernel) rfl (fun KK hK => ?_)
        go_simp
        go_at_call 15
        refine (then_c (cmpC f0C s0C) (cmpC (backC f0C) (backC s0C)) w5).mono ?_
        rintro e w6 ⟨rfl, hbn⟩
        have HD' := Lib.hid (HD.out.below3 hbn HSZ.out)
        have HSZ' := Lib.hid (Nat.le_trans HSZ.out hbn.size)
        have HB' := Lib.hid (HB.out.trans (hbn.mono HB.out.size))
        have HZ' := Lib.hid (HZ.out.of_block (w' := w6) (hbn.block p HPL.out))
        have HPL' := Lib.hid (Nat.lt_of_lt_of_le HPL.out hbn.size)
        clear HZ HPL
        have HZ := HZ'
        have HPL := HPL'
        clear HZ' HPL'
        clear HD HSZ HB hbn
        have HD := HD'
        have HSZ := HSZ'
        have HB := HB'
        clear HD' HSZ' HB'
        try go_simp
        refine hK.out _ _ (fun _ => HD.out) ?_
        clear hK KK
        try simp only [Act.put, List.getElem_toArray, List.getElem_cons_zero, List.getElem_cons_succ, List.setIfInBounds_toArray, List.set_cons_zero, List.set_cons_succ]
        refine anyT_one (i := 10) (by decide +kernel) rfl (fun KK hK => ?_)
        go_simp
        go_at_call 24
        refine (between_any r comC w6).mono ?_
        rintro e w7 ⟨rfl, hbn⟩
        have HD' := Lib.hid (HD.out.below3 hbn HSZ.out)
        have HSZ' := Lib.hid (Nat.le_trans HSZ.out hbn.size)
        have HB' := Lib.hid (HB.out.trans (hbn.mono HB.out.size))
        have HZ' := Lib.hid (HZ.out.of_block (w' := w7) (hbn.block p HPL.out))
        have HPL' := Lib.hid (Nat.lt_of_lt_of_le HPL.out hbn.size)
        clear HZ HPL
        have HZ := HZ'
        have HPL := HPL'
        clear HZ' HPL'
        clear HD HSZ HB hbn
        have HD := HD'
        have HSZ := HSZ'
        have HB := HB'
        clear HD' HSZ' HB'
        try go_simp
        refine hK.out _ _ (fun h => absurd h (by decide +kernel)) ?_
        clear hK KK
        try simp only [Act.put, List.getElem_toArray, List.getElem_cons_zero, List.getElem_cons_succ, List.setIfInBounds_toArray, List.set_cons_zero, List.set_cons_succ]
        refine T_of_any _ _ _ _ (by decide +kernel) ?_
        have p0 := HZ.out.cell (i := 0) (by omega)
        have p1 := HZ.out.cell (i := 1) (by omega)
        have p2 := HZ.out.cell (i := 2) (by omega)
        have p3 := HZ.out.cell (i := 3) (by omega)
        have p4 := HZ.out.cell (i := 4) (by omega)
        have z0 := HZ.out.frozen 0
        have z1 := HZ.out.frozen 1
        have z2 := HZ.out.frozen 2
        have z3 := HZ.out.frozen 3
        have z4 := HZ.out.frozen 4
        refine wpAny_ready (rs := [12]) (by decide +kernel) (by simp) ?_
        refine AllReady.cons rfl (fun KK hK => ?_) AllReady.nil
        go_simp
        refine hK _ _ ?_
        clear hK KK
        try simp only [Act.put, List.getElem_toArray, List.getElem_cons_zero, List.getElem_cons_succ, List.setIfInBounds_toArray, List.set_cons_zero, List.set_cons_succ]
        refine wpAny_done (by decide +kernel) ?_ _
        go_wp2_with fail
        go_meet
        exact ⟨p, rfl, HPX.out, row_set5 HZ.out, row_other5 (row_below HX1.out HB.out (by rw [HS1.out]; omega)) (by have := HPX.out; omega) _ _ _ _ _, row_other5 (row_below HX2.out HB.out (by rw [HS1.out]; omega)) (by have := HPX.out; omega) _ _ _ _ _, row_other5 (row_below HX0.out HB.out (by rw [HS1.out]; omega)) (by have := HPX.out; omega) _ _ _ _ _, zset5 (HB.out.mono (by rw [HS1.out]; exact Nat.le_refl _)) p HPX.out _ _ _ _ _⟩
    · go_simp
      have hba := (Below.refl w1.heap.size w1).alloc (Nat.le_refl _) (.cells #[.int .i64 0, .int .i64 0, .int .i64 0, .int .i64 0, .int .i64 0] 22)
      have HDA := Lib.hid (HD.out.below3 hba HSZ.out)
      have HBA := Lib.hid (HB.out.trans (hba.mono HB.out.size))
      have HZA := Lib.hid (zrow w1)
      have HSA := Lib.hid (Nat.le_trans HSZ.out hba.size)
      refine hK.out _ _ (fun _ => HDA.out) ?_
      clear hK KK
      try simp only [Act.put, List.getElem_toArray, List.getElem_cons_zero, List.getElem_cons_succ, List.setIfInBounds_toArray, List.set_cons_zero, List.set_cons_succ]
      have HPX : Hid (x + 3 ≤ w1.heap.size) := HSZ
      have hpl : w1.heap.size < (w1.alloc (.cells #[.int .i64 0, .int .i64 0, .int .i64 0, .int .i64 0, .int .i64 0] 22)).heap.size := by simp
      obtain ⟨WA, hWA⟩ : ∃ WA, WA = w1.alloc (.cells #[.int .i64 0, .int .i64 0, .int .i64 0, .int .i64 0, .int .i64 0] 22) := ⟨_, rfl⟩
      rw [← hWA] at HDA HBA HZA HSA hpl
      rw [← hWA]
      obtain ⟨p, hp⟩ : ∃ p, p = w1.heap.size := ⟨_, rfl⟩
      rw [← hp] at HZA hpl HPX
      rw [← hp]
      have HPL := Lib.hid hpl
      clear HD HB HSZ hba hpl hWA hp
      have HD := HDA
      have HB := HBA
      have HZ := HZA
      have HSZ := HSA
      clear HDA HBA HZA HSA
      refine anyT_one (i := 3) (by decide +kernel) rfl (fun KK hK => ?_)
      go_simp
      go_at_call 15
      refine (then_c f0C s0C WA).mono ?_
      rintro e w2 ⟨rfl, hbn⟩
      have HD' := Lib.hid (HD.out.below3 hbn HSZ.out)
      have HSZ' := Lib.hid (Nat.le_trans HSZ.out hbn.size)
      have HB' := Lib.hid (HB.out.trans (hbn.mono HB.out.size))
      have HZ' := Lib.hid (HZ.out.of_block (w' := w2) (hbn.block p HPL.out))
      have HPL' := Lib.hid (Nat.lt_of_lt_of_le HPL.out hbn.size)
      clear HZ HPL
      have HZ := HZ'
      have HPL := HPL'
      clear HZ' HPL'
      clear HD HSZ HB hbn
      have HD := HD'
      have HSZ := HSZ'
      have HB := HB'
      clear HD' HSZ' HB'
      try go_simp
      refine hK.out _ _ (fun _ => HD.out) ?_
      clear hK KK
      try simp only [Act.put, List.getElem_toArray, List.getElem_cons_zero, List.getElem_cons_succ, List.setIfInBounds_toArray, List.set_cons_zero, List.set_cons_succ]
      refine anyT_one (i := 5) (by decide +kernel) rfl (fun KK hK => ?_)
      go_simp
      go_at_call 21
      refine (back_any f0C w2).mono ?_
      rintro e w3 ⟨rfl, hbn⟩
      have HD' := Lib.hid (HD.out.below3 hbn HSZ.out)
      have HSZ' := Lib.hid (Nat.le_trans HSZ.out hbn.size)
      have HB' := Lib.hid (HB.out.trans (hbn.mono HB.out.size))
      have HZ' := Lib.hid (HZ.out.of_block (w' := w3) (hbn.block p HPL.out))
      have HPL' := Lib.hid (Nat.lt_of_lt_of_le HPL.out hbn.size)
      clear HZ HPL
      have HZ := HZ'
      have HPL := HPL'
      clear HZ' HPL'
      clear HD HSZ HB hbn
      have HD := HD'
      have HSZ := HSZ'
      have HB := HB'
      clear HD' HSZ' HB'
      try go_simp
      refine hK.out _ _ (fun _ => HD.out) ?_
      clear hK KK
      try simp only [Act.put, List.getElem_toArray, List.getElem_cons_zero, List.getElem_cons_succ, List.setIfInBounds_toArray, List.set_cons_zero, List.set_cons_succ]
      refine anyT_one (i := 7) (by decide +kernel) rfl (fun KK hK => ?_)
      go_simp
      go_at_call 21
      refine (back_any s0C w3).mono ?_
      rintro e w4 ⟨rfl, hbn⟩
      have HD' := Lib.hid (HD.out.below3 hbn HSZ.out)
      have HSZ' := Lib.hid (Nat.le_trans HSZ.out hbn.size)
      have HB' := Lib.hid (HB.out.trans (hbn.mono HB.out.size))
      have HZ' := Lib.hid (HZ.out.of_block (w' := w4) (hbn.block p HPL.out))
      have HPL' := Lib.hid (Nat.lt_of_lt_of_le HPL.out hbn.size)
      clear HZ HPL
      have HZ := HZ'
      have HPL := HPL'
      clear HZ' HPL'
      clear HD HSZ HB hbn
      have HD := HD'
      have HSZ := HSZ'
      have HB := HB'
      clear HD' HSZ' HB'
      try go_simp
      refine hK.out _ _ (fun _ => HD.out) ?_
      clear hK KK
      try simp only [Act.put, List.getElem_toArray, List.getElem_cons_zero, List.getElem_cons_succ, List.setIfInBounds_toArray, List.set_cons_zero, List.set_cons_succ]
      refine anyT_one (i := 8) (by decide +kernel) rfl (fun KK hK => ?_)
      go_simp
      go_at_call 15
      refine (then_c (backC f0C) (backC s0C) w4).mono ?_
      rintro e w5 ⟨rfl, hbn⟩
      have HD' := Lib.hid (HD.out.below3 hbn HSZ.out)
      have HSZ' := Lib.hid (Nat.le_trans HSZ.out hbn.size)
      have HB' := Lib.hid (HB.out.trans (hbn.mono HB.out.size))
      have HZ' := Lib.hid (HZ.out.of_block (w' := w5) (hbn.block p HPL.out))
      have HPL' := Lib.hid (Nat.lt_of_lt_of_le HPL.out hbn.size)
      clear HZ HPL
      have HZ := HZ'
      have HPL := HPL'
      clear HZ' HPL'
      clear HD HSZ HB hbn
      have HD := HD'
      have HSZ := HSZ'
      have HB := HB'
      clear HD' HSZ' HB'
      try go_simp
      refine hK.out _ _ (fun _ => HD.out) ?_
      clear hK KK
      try simp only [Act.put, List.getElem_toArray, List.getElem_cons_zero, List.getElem_cons_succ, List.setIfInBounds_toArray, List.set_cons_zero, List.set_cons_succ]
      refine anyT_one (i := 9) (by decide +kernel) rfl (fun KK hK => ?_)
      go_simp
      go_at_call 15
      refine (then_c (cmpC f0C s0C) (cmpC (backC f0C) (backC s0C)) w5).mono ?_
      rintro e w6 ⟨rfl, hbn⟩
      have HD' := Lib.hid (HD.out.below3 hbn HSZ.out)
      have HSZ' := Lib.hid (Nat.le_trans HSZ.out hbn.size)
      have HB' := Lib.hid (HB.out.trans (hbn.mono HB.out.size))
      have HZ' := Lib.hid (HZ.out.of_block (w' := w6) (hbn.block p HPL.out))
      have HPL' := Lib.hid (Nat.lt_of_lt_of_le HPL.out hbn.size)
      clear HZ HPL
      have HZ := HZ'
      have HPL := HPL'
      clear HZ' HPL'
      clear HD HSZ HB hbn
      have HD := HD'
      have HSZ := HSZ'
      have HB := HB'
      clear HD' HSZ' HB'
      try go_simp
      refine hK.out _ _ (fun _ => HD.out) ?_
      clear hK KK
      try simp only [Act.put, List.getElem_toArray, List.getElem_cons_zero, List.getElem_cons_succ, List.setIfInBounds_toArray, List.set_cons_zero, List.set_cons_succ]
      refine anyT_one (i := 10) (by decide +kernel) rfl (fun KK hK => ?_)
      go_simp
      go_at_call 24
      refine (between_any r comC w6).mono ?_
      rintro e w7 ⟨rfl, hbn⟩
      have HD' := Lib.hid (HD.out.below3 hbn HSZ.out)
      have HSZ' := Lib.hid (Nat.le_trans HSZ.out hbn.size)
      have HB' := Lib.hid (HB.out.trans (hbn.mono HB.out.size))
      have HZ' := Lib.hid (HZ.out.of_block (w' := w7) (hbn.block p HPL.out))
      have HPL' := Lib.hid (Nat.lt_of_lt_of_le HPL.out hbn.size)
      clear HZ HPL
      have HZ := HZ'
      have HPL := HPL'
      clear HZ' HPL'
      clear HD HSZ HB hbn
      have HD := HD'
      have HSZ := HSZ'
      have HB := HB'
      clear HD' HSZ' HB'
      try go_simp
      refine hK.out _ _ (fun h => absurd h (by decide +kernel)) ?_
      clear hK KK
      try simp only [Act.put, List.getElem_toArray, List.getElem_cons_zero, List.getElem_cons_succ, List.setIfInBounds_toArray, List.set_cons_zero, List.set_cons_succ]
      refine T_of_any _ _ _ _ (by decide +kernel) ?_
      have p0 := HZ.out.cell (i := 0) (by omega)
      have p1 := HZ.out.cell (i := 1) (by omega)
      have p2 := HZ.out.cell (i := 2) (by omega)
      have p3 := HZ.out.cell (i := 3) (by omega)
      have p4 := HZ.out.cell (i := 4) (by omega)
      have z0 := HZ.out.frozen 0
      have z1 := HZ.out.frozen 1
      have z2 := HZ.out.frozen 2
      have z3 := HZ.out.frozen 3
      have z4 := HZ.out.frozen 4
      refine wpAny_ready (rs := [12]) (by decide +kernel) (by simp) ?_
      refine AllReady.cons rfl (fun KK hK => ?_) AllReady.nil
      go_simp
      refine hK _ _ ?_
      clear hK KK
      try simp only [Act.put, List.getElem_toArray, List.getElem_cons_zero, List.getElem_cons_succ, List.setIfInBounds_toArray, List.set_cons_zero, List.set_cons_succ]
      refine wpAny_done (by decide +kernel) ?_ _
      go_wp2_with fail
      go_meet
      exact ⟨p, rfl, HPX.out, row_set5 HZ.out, row_other5 (row_below HX1.out HB.out (by rw [HS1.out]; omega)) (by have := HPX.out; omega) _ _ _ _ _, row_other5 (row_below HX2.out HB.out (by rw [HS1.out]; omega)) (by have := HPX.out; omega) _ _ _ _ _, row_other5 (row_below HX0.out HB.out (by rw [HS1.out]; omega)) (by have := HPX.out; omega) _ _ _ _ _, zset5 (HB.out.mono (by rw [HS1.out]; exact Nat.le_refl _)) p HPX.out _ _ _ _ _⟩
  case rest =>
    obtain ⟨p, rfl, hpx, hp, hf, hs, hd0, hbc⟩ := hcut
    have HP := Lib.hid hp
    have HF := Lib.hid hf
    have HS := Lib.hid hs
    have lp := hp.lt
    have HD : Hid (RW wc.drew x r f0C s0C) := Lib.hid ⟨XC.row hd0, XC.row hf, XC.row hs⟩
    have HB := Lib.hid hbc
    have HPX := Lib.hid hpx
    have HLP := Lib.hid lp
    clear hp hf hs hd0 hbc hpx lp HD0 HX0 HX1 HX2
    go_wp2_with fail
    refine wp_region_any (by kernel_rfl) ?_
    change wpAny _ _ _ _ _ _ _ (World.drew _)
    refine any_of_T (S := fun W => RW W x r f0C s0C) (c := 5) _ _ _ _ ?_
    refine anyT_takeY (i := 0) (v := ?_) rfl (by decide +kernel) (by decide +kernel) (by decide +kernel) (by decide +kernel) (fun _ _ _ h => h) (Or.inl ⟨by rfl, ?_⟩) HD.out ?_
    rotate_left 1
    · intro w _; go_simp; with_reducible rfl
    simp only [Act.put, List.getElem_toArray, List.getElem_cons_zero, List.getElem_cons_succ, List.setIfInBounds_toArray, List.set_cons_zero, List.set_cons_succ]
    refine anyT_takeY (i := 3) (v := ?_) rfl (by decide +kernel) (by decide +kernel) (by decide +kernel) (by decide +kernel) (fun _ _ _ h => h) (Or.inl ⟨by rfl, ?_⟩) HD.out ?_
    rotate_left 1
    · intro w _; go_simp; with_reducible rfl
    simp only [Act.put, List.getElem_toArray, List.getElem_cons_zero, List.getElem_cons_succ, List.setIfInBounds_toArray, List.set_cons_zero, List.set_cons_succ]
    refine anyT_takeL [2, 5] (i := 1) (v := ?_) rfl (by decide +kernel) (by decide +kernel) (by decide +kernel) (by decide +kernel) (by decide +kernel) (by decide +kernel) (fun _ _ _ h => h) (Or.inl ⟨by rfl, ?_⟩) HD.out ?_
    rotate_left 1
    · intro w hS; obtain ⟨⟨s0, s1, s2, s3, s4⟩, ⟨t0, t1, t2, t3, t4⟩, ⟨u0, u1, u2, u3, u4⟩⟩ := hS; go_simp; with_reducible rfl
    simp only [Act.put, List.getElem_toArray, List.getElem_cons_zero, List.getElem_cons_succ, List.setIfInBounds_toArray, List.set_cons_zero, List.set_cons_succ]
    refine anyT_takeL [5] (i := 4) (v := ?_) rfl (by decide +kernel) (by decide +kernel) (by decide +kernel) (by decide +kernel) (by decide +kernel) (by decide +kernel) (fun _ _ _ h => h) (Or.inl ⟨by rfl, ?_⟩) HD.out ?_
    rotate_left 1
    · intro w hS; obtain ⟨⟨s0, s1, s2, s3, s4⟩, ⟨t0, t1, t2, t3, t4⟩, ⟨u0, u1, u2, u3, u4⟩⟩ := hS; go_simp; with_reducible rfl
    simp only [Act.put, List.getElem_toArray, List.getElem_cons_zero, List.getElem_cons_succ, List.setIfInBounds_toArray, List.set_cons_zero, List.set_cons_succ]
    refine anyT_one (i := 2) (by decide +kernel) rfl (fun KK hK => ?_)
    go_simp
    go_at_call 25
    refine (tw_any (cC r) f0C p wc.drew HLP.out HP.out).mono ?_
    rintro e w3 ⟨rfl, hb3⟩
    have sz : x + 3 ≤ wc.drew.heap.size := by have := HPX.out; have := HLP.out; show x + 3 ≤ wc.heap.size; omega
    have HD3 := Lib.hid (HD.out.below3 hb3 sz)
    have HSZ3 := Lib.hid (Nat.le_trans sz hb3.size)
    have HB3 := Lib.hid (((Below.refl wc.heap.size wc).drew).trans hb3)
    have HLP3 := Lib.hid (Nat.lt_of_lt_of_le HLP.out hb3.size)
    clear sz hb3
    try go_simp
    refine hK.out _ _ (fun _ => HD3.out) ?_
    clear hK KK
    try simp only [Act.put, List.getElem_toArray, List.getElem_cons_zero, List.getElem_cons_succ, List.setIfInBounds_toArray, List.set_cons_zero, List.set_cons_succ]
    refine anyT_one (i := 5) (by decide +kernel) rfl (fun KK hK => ?_)
    go_simp
    go_at_call 25
    refine (tw_any (cC r) s0C p w3 HLP3.out (row_below HP.out HB3.out HLP.out)).mono ?_
    rintro e w4 ⟨rfl, hb4⟩
    have HB4 := Lib.hid (HB3.out.trans (hb4.mono HB3.out.size))
    clear hb4
    try go_simp
    refine hK.out _ _ (fun h => absurd h (by decide +kernel)) ?_
    clear hK KK
    try simp only [Act.put, List.getElem_toArray, List.getElem_cons_zero, List.getElem_cons_succ, List.setIfInBounds_toArray, List.set_cons_zero, List.set_cons_succ]
    refine T_of_any _ _ _ _ (by decide +kernel) ?_
    have hf4 := row_below HF.out HB4.out HF.out.lt
    have hs4 := row_below HS.out HB4.out HS.out.lt
    have HF4 := Lib.hid hf4
    have HS4 := Lib.hid hs4
    have p0 := hf4.cell (i := 0) (by omega)
    have pz0 := hf4.frozen 0
    have p1 := hf4.cell (i := 1) (by omega)
    have pz1 := hf4.frozen 1
    have p2 := hf4.cell (i := 2) (by omega)
    have pz2 := hf4.frozen 2
    have p3 := hf4.cell (i := 3) (by omega)
    have pz3 := hf4.frozen 3
    have p4 := hf4.cell (i := 4) (by omega)
    have pz4 := hf4.frozen 4
    have q0 := hs4.cell (i := 0) (by omega)
    have qz0 := hs4.frozen 0
    have q1 := hs4.cell (i := 1) (by omega)
    have qz1 := hs4.frozen 1
    have q2 := hs4.cell (i := 2) (by omega)
    have qz2 := hs4.frozen 2
    have q3 := hs4.cell (i := 3) (by omega)
    have qz3 := hs4.frozen 3
    have q4 := hs4.cell (i := 4) (by omega)
    have qz4 := hs4.frozen 4
    clear hf4 hs4
    refine wpAny_ready (rs := [6]) (by decide +kernel) (by simp) ?_
    refine AllReady.cons rfl (fun KK hK => ?_) AllReady.nil
    go_simp
    refine hK _ _ ?_
    clear hK KK
    try simp only [Act.put, List.getElem_toArray, List.getElem_cons_zero, List.getElem_cons_succ, List.setIfInBounds_toArray, List.set_cons_zero, List.set_cons_succ]
    refine wpAny_ready (rs := [7]) (by decide +kernel) (by simp) ?_
    refine AllReady.cons rfl (fun KK hK => ?_) AllReady.nil
    go_simp
    refine hK _ _ ?_
    clear hK KK
    try simp only [Act.put, List.getElem_toArray, List.getElem_cons_zero, List.getElem_cons_succ, List.setIfInBounds_toArray, List.set_cons_zero, List.set_cons_succ]
    refine wpAny_done (by decide +kernel) ?_ _
    obtain ⟨W6, hW6⟩ : ∃ W6, W6 = ((((((((((w4.setCell ⟨x + 1, 0, none⟩ (.int .i64 (eF (turnC (cC r) f0C) 0))).setCell ⟨x + 1, 1, none⟩ (.int .i64 (eF (turnC (cC r) f0C) 1))).setCell ⟨x + 1, 2, none⟩ (.int .i64 (eF (turnC (cC r) f0C) 2))).setCell ⟨x + 1, 3, none⟩ (.int .i64 (eF (turnC (cC r) f0C) 3))).setCell ⟨x + 1, 4, none⟩ (.int .i64 (eF (turnC (cC r) f0C) 4))).setCell ⟨x + 1 + 1, 0, none⟩ (.int .i64 (eF (turnC (cC r) s0C) 0))).setCell ⟨x + 1 + 1, 1, none⟩ (.int .i64 (eF (turnC (cC r) s0C) 1))).setCell ⟨x + 1 + 1, 2, none⟩ (.int .i64 (eF (turnC (cC r) s0C) 2))).setCell ⟨x + 1 + 1, 3, none⟩ (.int .i64 (eF (turnC (cC r) s0C) 3))).setCell ⟨x + 1 + 1, 4, none⟩ (.int .i64 (eF (turnC (cC r) s0C) 4))) := ⟨_, rfl⟩
    rw [← hW6]
    have hg : x + 3 ≤ W6.heap.size := by rw [hW6]; simp; exact Nat.le_trans (show x + 3 ≤ wc.heap.size by have := HPX.out; have := HLP.out; omega) HB4.out.size
    have hb6 : Below w.heap.size w W6 := by
      rw [hW6]
      have h1 := HBW.out.trans ((HB.out.trans (HB4.out.mono (by have := HPX.out; have := HLP.out; omega))).mono (by rw [← HX.out]; omega))
      exact zset5 (zset5 h1 (x + 1) (by rw [← HX.out]; omega) _ _ _ _ _) (x + 1 + 1) (by rw [← HX.out]; omega) _ _ _ _ _
    have hf6 : W6.rowIs (x + 1) 22 5 (fun j => .int .i64 (eF (fC r) j)) := by rw [hW6]; exact row_other5 (row_set5 HF4.out) (by omega) _ _ _ _ _
    have hs6 : W6.rowIs (x + 1 + 1) 22 5 (fun j => .int .i64 (eF (sC r) j)) := by rw [hW6]; exact row_set5 (row_other5 HS4.out (by omega) _ _ _ _ _)
    clear p0 pz0 q0 qz0 p1 pz1 q1 qz1 p2 pz2 q2 qz2 p3 pz3 q3 qz3 p4 pz4 q4 qz4
    have HF6 := Lib.hid hf6
    have HS6 := Lib.hid hs6
    have HB6 := Lib.hid hb6
    have HG := Lib.hid hg
    clear hf6 hs6 hb6 hg hW6 HF4 HS4 HB4 HB3 HSZ3 HLP3 HD3 HF HS HP HB HPX HLP HBW HD HS1
    have fa := facts_of HR.out
    have HFA := Lib.hid fa
    clear fa
    obtain ⟨s0, s1, s2, s3, s4⟩ := XC.row HF6.out
    have HBG : Hid (Below W6.heap.size W6 W6) := Lib.hid (Below.refl _ _)
    have HO0 : Hid (Own W6 W6.heap.size 43 11 none 0 0 0 (fun q => .int .i64 (F q))) := Lib.hid (Own.nil _ _ _ _ _)
    go_wp2_with fail
    have hrd := HRD.out.below (HB6.out.trans (HBG.out.mono HB6.out.size))
    refine (side_any inn A n c F a (fC r) nt HMa.out HBa.out HFA.out.2.1 W6 hrd).mono ?_
    rintro e x0 ⟨hmd, hbx⟩
    clear hrd
    obtain ⟨A0, m0, c0, G0, rfl, ho, hp⟩ := hmd
    have szc := HBG.out.size
    have HP0 := Lib.hid hp
    have HQ0 := Lib.hid ho.rd
    have lm0 : m0 ≤ 1000 := Nat.le_trans hp.2.1 HMa.out
    have HBGn := Lib.hid (HBG.out.trans (hbx.mono szc))
    have HON := Lib.hid (HO0.out.below (hbx.mono (by have := HO0.out; omega)))
    clear HBG HO0 hbx szc ho hp
    have HBG := HBGn
    have HO0 := HON
    clear HBGn HON
    have szc := HBG.out.size
    have bx0 : W6.heap.size ≤ x0.heap.size := szc
    go_wp2_with (at_builtin; refine wpList_app _ rfl (.tmp 36) (.tmp 41) 32 rfl ETn rfl HO0.out rfl (l := m0 * 11) rfl HQ0.out (fun _ _ => rfl) (by unfold maxLen; omega) (by omega) bx0 (m0) ((m0) * 11) (by omega) (by omega) ?_; intro B1 d1 v1 hown hgr hat hbv; have HO1 : Hid (Own v1 W6.heap.size 43 11 B1 (m0) d1 ((m0) * 11) (fun q => .int .i64 ((G0) q))) := Lib.hid (hown.congr fun i hi => by unfold cat; rw [if_neg (by omega), Nat.sub_zero]); have HBGn := Lib.hid (HBG.out.trans hbv); clear hown hgr hat hbv HBG; have HBG := HBGn; clear HBGn; obtain ⟨s0, s1, s2, s3, s4⟩ := XC.row (row_below HS6.out HBG.out HS6.out.lt))
    clear szc bx0
    go_wp2_with fail
    have hrd := HRD.out.below (HB6.out.trans (HBG.out.mono HB6.out.size))
    refine (side_any inn A n c F b (sC r) nt HMb.out HBb.out HFA.out.2.2.1 v1 hrd).mono ?_
    rintro e x1 ⟨hmd, hbx⟩
    clear hrd
    obtain ⟨A1, m1, c1, G1, rfl, ho, hp⟩ := hmd
    have szc := HBG.out.size
    have HP1 := Lib.hid hp
    have HQ1 := Lib.hid ho.rd
    have lm1 : m1 ≤ 1000 := Nat.le_trans hp.2.1 HMb.out
    have HBGn := Lib.hid (HBG.out.trans (hbx.mono szc))
    have HON := Lib.hid (HO1.out.below (hbx.mono (by have := HO1.out; omega)))
    clear HBG HO1 hbx szc ho hp
    have HBG := HBGn
    have HO1 := HON
    clear HBGn HON
    have szc := HBG.out.size
    have bx1 : W6.heap.size ≤ x1.heap.size := szc
    go_wp2_with (at_builtin; refine wpList_app _ rfl (.tmp 43) (.tmp 48) 32 rfl ETn rfl HO1.out rfl (l := m1 * 11) rfl HQ1.out (fun _ _ => rfl) (by unfold maxLen; omega) (by omega) bx1 (m0 + m1) ((m0 + m1) * 11) (by omega) (by omega) ?_; intro B2 d2 v2 hown hgr hat hbv; have HO2 : Hid (Own v2 W6.heap.size 43 11 B2 (m0 + m1) d2 ((m0 + m1) * 11) (fun q => .int .i64 ((catO m0 G0 G1) q))) := Lib.hid (hown.congr fun i hi => by unfold cat; unfold catO; split <;> rfl); have HBGn := Lib.hid (HBG.out.trans hbv); clear hown hgr hat hbv HBG; have HBG := HBGn; clear HBGn; obtain ⟨s0, s1, s2, s3, s4⟩ := XC.row (row_below HF6.out HBG.out HF6.out.lt))
    clear szc bx1
    go_wp2_with fail
    refine (back_any (fC r) v2).mono ?_
    rintro e u2 ⟨rfl, hbu⟩
    have szu := hbu.size
    have szc := HBG.out.size
    have HBGn := Lib.hid (HBG.out.trans (hbu.mono szc))
    have HON := Lib.hid (HO2.out.below (hbu.mono (by omega)))
    clear HBG HO2 hbu szu szc
    have HBG := HBGn
    have HO2 := HON
    clear HBGn HON
    go_wp2_with fail
    have hrd := HRD.out.below (HB6.out.trans (HBG.out.mono HB6.out.size))
    refine (side_any inn A n c F a (backC (fC r)) nt HMa.out HBa.out HFA.out.2.2.2.1 u2 hrd).mono ?_
    rintro e x2 ⟨hmd, hbx⟩
    clear hrd
    obtain ⟨A2, m2, c2, G2, rfl, ho, hp⟩ := hmd
    have szc := HBG.out.size
    have HP2 := Lib.hid hp
    have HQ2 := Lib.hid ho.rd
    have lm2 : m2 ≤ 1000 := Nat.le_trans hp.2.1 HMa.out
    have HBGn := Lib.hid (HBG.out.trans (hbx.mono szc))
    have HON := Lib.hid (HO2.out.below (hbx.mono (by have := HO2.out; omega)))
    clear HBG HO2 hbx szc ho hp
    have HBG := HBGn
    have HO2 := HON
    clear HBGn HON
    have szc := HBG.out.size
    have bx2 : W6.heap.size ≤ x2.heap.size := szc
    go_wp2_with (at_builtin; refine wpList_app _ rfl (.tmp 50) (.tmp 56) 32 rfl ETn rfl HO2.out rfl (l := m2 * 11) rfl HQ2.out (fun _ _ => rfl) (by unfold maxLen; omega) (by omega) bx2 (m0 + m1 + m2) ((m0 + m1 + m2) * 11) (by omega) (by omega) ?_; intro B3 d3 v3 hown hgr hat hbv; have HO3 : Hid (Own v3 W6.heap.size 43 11 B3 (m0 + m1 + m2) d3 ((m0 + m1 + m2) * 11) (fun q => .int .i64 ((catO (m0 + m1) (catO m0 G0 G1) G2) q))) := Lib.hid (hown.congr fun i hi => by unfold cat; unfold catO; split <;> rfl); have HBGn := Lib.hid (HBG.out.trans hbv); clear hown hgr hat hbv HBG; have HBG := HBGn; clear HBGn; obtain ⟨s0, s1, s2, s3, s4⟩ := XC.row (row_below HS6.out HBG.out HS6.out.lt))
    clear szc bx2
    go_wp2_with fail
    refine (back_any (sC r) v3).mono ?_
    rintro e u3 ⟨rfl, hbu⟩
    have szu := hbu.size
    have szc := HBG.out.size
    have HBGn := Lib.hid (HBG.out.trans (hbu.mono szc))
    have HON := Lib.hid (HO3.out.below (hbu.mono (by omega)))
    clear HBG HO3 hbu szu szc
    have HBG := HBGn
    have HO3 := HON
    clear HBGn HON
    go_wp2_with fail
    have hrd := HRD.out.below (HB6.out.trans (HBG.out.mono HB6.out.size))
    refine (side_any inn A n c F b (backC (sC r)) nt HMb.out HBb.out HFA.out.2.2.2.2.1 u3 hrd).mono ?_
    rintro e x3 ⟨hmd, hbx⟩
    clear hrd
    obtain ⟨A3, m3, c3, G3, rfl, ho, hp⟩ := hmd
    have szc := HBG.out.size
    have HP3 := Lib.hid hp
    have HQ3 := Lib.hid ho.rd
    have lm3 : m3 ≤ 1000 := Nat.le_trans hp.2.1 HMb.out
    have HBGn := Lib.hid (HBG.out.trans (hbx.mono szc))
    have HON := Lib.hid (HO3.out.below (hbx.mono (by have := HO3.out; omega)))
    clear HBG HO3 hbx szc ho hp
    have HBG := HBGn
    have HO3 := HON
    clear HBGn HON
    have szc := HBG.out.size
    have bx3 : W6.heap.size ≤ x3.heap.size := szc
    go_wp2_with (at_builtin; refine wpList_app _ rfl (.tmp 58) (.tmp 64) 32 rfl ETn rfl HO3.out rfl (l := m3 * 11) rfl HQ3.out (fun _ _ => rfl) (by unfold maxLen; omega) (by omega) bx3 (m0 + m1 + m2 + m3) ((m0 + m1 + m2 + m3) * 11) (by omega) (by omega) ?_; intro B4 d4 v4 hown hgr hat hbv; have HO4 : Hid (Own v4 W6.heap.size 43 11 B4 (m0 + m1 + m2 + m3) d4 ((m0 + m1 + m2 + m3) * 11) (fun q => .int .i64 ((catO (m0 + m1 + m2) (catO (m0 + m1) (catO m0 G0 G1) G2) G3) q))) := Lib.hid (hown.congr fun i hi => by unfold cat; unfold catO; split <;> rfl); have HBGn := Lib.hid (HBG.out.trans hbv); clear hown hgr hat hbv HBG; have HBG := HBGn; clear HBGn)
    clear szc bx3
    have HFIN := Lib.hid (HB6.out.trans (HBG.out.mono HB6.out.size))
    exact bodyPost_ret (v := .slice B4 (m0 + m1 + m2 + m3) d4) (by simp [results, Try.results22, go_sem]) rfl ⟨⟨B4, m0 + m1 + m2 + m3, d4, _, rfl, HO4.out.base_le HB6.out.size, OrdP.four HR.out HP0.out HP1.out HP2.out HP3.out⟩, HFIN.out⟩

end Go.Proofs.Ytmhicimjoidonaa
