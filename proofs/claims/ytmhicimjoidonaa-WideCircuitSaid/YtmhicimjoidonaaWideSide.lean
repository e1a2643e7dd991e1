/- wide.side: orders of a gate, or of what it is not. Conditions: wide.build does it of that gate. -/
import Derived.Test.YtmhicimjoidonaaWideOrds
import Derived.Test.YtmhicimjoidonaaWideOwn
import Derived.Test.YtmhicimjoidonaaHeldMore
import Derived.Test.YtmhicimjoidonaaGrowLaw
import Derived.Test.YtmhicimjoidonaaGateDeep
import Derived.Deep.RegionLaw
namespace Go.Proofs.Ytmhicimjoidonaa
open Go.ChangeShapes Go.WideShapes Go.ChangeAt Go.RowKit
set_option linter.unusedVariables false
set_option linter.unusedSimpArgs false
/-- what is asked of wide.build at a gate -/
def BuildAt (inn : Int) (A : Option Addr) (n c : Nat) (F : Nat → Int) (i : Nat) : Prop :=
  ∀ (r : Nat), cyc r = true → ∀ (w : World), Rd w A (n * 3) (fun q => .int .i64 (F q)) →
    Calls Try.prog 17 #[.slice A n c, .int .i64 i, .agg #[.int .i64 (eF r 0), .int .i64 (eF r 1), .int .i64 (eF r 2), .int .i64 (eF r 3), .int .i64 (eF r 4)]] w fun e w' => Made inn (fun g => val F g i) r (4 ^ dep F i) w.heap.size e w' ∧ Below w.heap.size w w'
def XC (W : World) (x : Nat) (X : Nat → Int) : Prop := W.cell? ⟨x, 0, none⟩ = some (.int .i64 (X 0)) ∧ W.cell? ⟨x, 1, none⟩ = some (.int .i64 (X 1)) ∧ W.cell? ⟨x, 2, none⟩ = some (.int .i64 (X 2)) ∧ W.cell? ⟨x, 3, none⟩ = some (.int .i64 (X 3)) ∧ W.cell? ⟨x, 4, none⟩ = some (.int .i64 (X 4))
theorem XC.below {W W' : World} {x : Nat} {X : Nat → Int} (h : XC W x X) (hb : Below W.heap.size W W') (lx : x < W.heap.size) : XC W' x X := by
  obtain ⟨c0, c1, c2, c3, c4⟩ := h
  have k : ∀ o, W'.cell? ⟨x, o, none⟩ = W.cell? ⟨x, o, none⟩ := fun o => hb.cell (p := ⟨x, o, none⟩) lx
  unfold XC
  simp only [k]
  exact ⟨c0, c1, c2, c3, c4⟩
theorem XC.new (w : World) (X : Nat → Int) : XC (w.alloc (.cells #[.int .i64 (X 0), .int .i64 (X 1), .int .i64 (X 2), .int .i64 (X 3), .int .i64 (X 4)] 22)) w.heap.size X := by
  have h := newrow5 w X
  exact ⟨h.cell (i := 0) (by omega), h.cell (i := 1) (by omega), h.cell (i := 2) (by omega), h.cell (i := 3) (by omega), h.cell (i := 4) (by omega)⟩
theorem Made.base {inn : Int} {v : (Nat → Bool) → Bool} {r M base base' : Nat} {e : Ending} {w' : World} (h : Made inn v r M base e w') (hb : base' ≤ base) : Made inn v r M base' e w' := by
  obtain ⟨A, m, c, F, h1, h2, h3⟩ := h
  exact ⟨A, m, c, F, h1, h2.base_le hb, h3⟩
set_option maxRecDepth 100000 in
set_option maxHeartbeats 2000000 in
theorem side_any (inn : Int) (A : Option Addr) (n c : Nat) (F : Nat → Int) (i r : Nat) (b : Bool) (hM : 4 ^ dep F i ≤ 1000) (hB : BuildAt inn A n c F i) (hr : cyc r = true) (w : World) (h : Rd w A (n * 3) (fun q => .int .i64 (F q))) :
    Calls Try.prog 26 #[.slice A n c, .int .i64 i, .agg #[.int .i64 (eF r 0), .int .i64 (eF r 1), .int .i64 (eF r 2), .int .i64 (eF r 3), .int .i64 (eF r 4)], .bool b] w fun e w' => Made inn (fun g => xor b (val F g i)) r (4 ^ dep F i) w.heap.size e w' ∧ Below w.heap.size w w' := by
  obtain ⟨x, hx⟩ : ∃ x, x = w.heap.size := ⟨_, rfl⟩
  obtain ⟨W1, hW1⟩ : ∃ W1, W1 = w.alloc (.cells #[.int .i64 (eF r 0), .int .i64 (eF r 1), .int .i64 (eF r 2), .int .i64 (eF r 3), .int .i64 (eF r 4)] 22) := ⟨_, rfl⟩
  have hbw : Below w.heap.size w W1 := by rw [hW1]; exact (Below.refl _ _).alloc (Nat.le_refl _) _
  have hd := XC.new w (eF r)
  have h1 := h.alloc (.cells #[.int .i64 (eF r 0), .int .i64 (eF r 1), .int .i64 (eF r 2), .int .i64 (eF r 3), .int .i64 (eF r 4)] 22)
  have hs1 : W1.heap.size = x + 1 := by rw [hW1, hx]; simp
  rw [← hW1] at h1 hd
  rw [← hx] at hd
  have HM := Lib.hid hM
  have HR := Lib.hid hr
  have HBW := Lib.hid hbw
  have HW1 := Lib.hid hW1
  have HX := Lib.hid hx
  have HB := Lib.hid hB
  have H1 := Lib.hid h1
  have HD := Lib.hid hd
  have HS := Lib.hid hs1
  clear hM hr hbw hW1 hx hB h1 hd hs1 h
  cases b
  · go_enter Try.func26, Try.ntmps26
    go_wp2_with fail
    rw [← HX.out, ← HW1.out]
    obtain ⟨s0, s1, s2, s3, s4⟩ := HD.out
    go_wp2_with fail
    refine (HB.out r HR.out W1 H1.out).mono ?_
    rintro e w2 ⟨hm, hb2⟩
    obtain ⟨A2, m, c2, G, rfl, ho, hp⟩ := hm
    have hsz := HBW.out.size
    have HO := Lib.hid (ho.base_le hsz)
    have HP := Lib.hid hp
    have HB2 := Lib.hid (HBW.out.trans (hb2.mono hsz))
    clear ho hp hb2 s0 s1 s2 s3 s4
    go_wp2_with fail
    exact bodyPost_ret (v := .slice A2 m c2) (by simp [results, Try.results26, go_sem]) rfl ⟨⟨A2, m, c2, G, rfl, HO.out, by simpa using HP.out⟩, HB2.out⟩
  · go_enter Try.func26, Try.ntmps26
    go_wp2_with fail
    rw [← HX.out, ← HW1.out]
    refine wp_region_any (by kernel_rfl) ?_
    change wpAny _ _ _ _ _ _ _ (World.drew _)
    have HD1 : Hid (XC W1.drew x (eF r)) := Lib.hid HD.out
    refine any_of_T (S := fun W => XC W x (eF r)) (c := 6) _ _ _ _ ?_
    refine anyT_takeY (i := 0) (v := ?_) rfl (by decide +kernel) (by decide +kernel) (by decide +kernel) (by decide +kernel) (fun _ _ _ h => h) (Or.inl ⟨by rfl, ?_⟩) HD1.out ?_
    rotate_left 1
    · intro w _; go_simp; with_reducible rfl
    simp only [Act.put, List.getElem_toArray, List.getElem_cons_zero, List.getElem_cons_succ, List.setIfInBounds_toArray, List.set_cons_zero, List.set_cons_succ]
    refine anyT_takeY (i := 1) (v := ?_) rfl (by decide +kernel) (by decide +kernel) (by decide +kernel) (by decide +kernel) (fun _ _ _ h => h) (Or.inl ⟨by rfl, ?_⟩) HD1.out ?_
    rotate_left 1
    · intro w _; go_simp; with_reducible rfl
    simp only [Act.put, List.getElem_toArray, List.getElem_cons_zero, List.getElem_cons_succ, List.setIfInBounds_toArray, List.set_cons_zero, List.set_cons_succ]
    refine anyT_takeL [3, 4, 6] (i := 2) (v := ?_) rfl (by decide +kernel) (by decide +kernel) (by decide +kernel) (by decide +kernel) (by decide +kernel) (by decide +kernel) (fun _ _ _ h => h) (Or.inl ⟨by rfl, ?_⟩) HD1.out ?_
    rotate_left 1
    · intro w hS; obtain ⟨s0, s1, s2, s3, s4⟩ := hS; go_simp; with_reducible rfl
    simp only [Act.put, List.getElem_toArray, List.getElem_cons_zero, List.getElem_cons_succ, List.setIfInBounds_toArray, List.set_cons_zero, List.set_cons_succ]
    refine anyT_takeL [6] (i := 5) (v := ?_) rfl (by decide +kernel) (by decide +kernel) (by decide +kernel) (by decide +kernel) (by decide +kernel) (by decide +kernel) (fun _ _ _ h => h) (Or.inl ⟨by rfl, ?_⟩) HD1.out ?_
    rotate_left 1
    · intro w hS; obtain ⟨s0, s1, s2, s3, s4⟩ := hS; go_simp; with_reducible rfl
    simp only [Act.put, List.getElem_toArray, List.getElem_cons_zero, List.getElem_cons_succ, List.setIfInBounds_toArray, List.set_cons_zero, List.set_cons_succ]
    refine anyT_one (i := 3) (by decide +kernel) rfl (fun KK hK => ?_)
    go_simp
    go_at_call 21
    refine (back_any r W1.drew).mono ?_
    rintro e w3 ⟨rfl, hb3⟩
    have HD3 := Lib.hid (HD1.out.below hb3 (by show x < W1.heap.size; rw [HS.out]; omega))
    have H3 := Lib.hid (H1.out.drew.below hb3)
    have s3 : x + 1 ≤ w3.heap.size := by have := hb3.size; have e : W1.drew.heap.size = x + 1 := HS.out; omega
    have HB3 := Lib.hid (HBW.out.trans (((Below.refl W1.heap.size W1).drew.trans hb3).mono HBW.out.size))
    clear hb3
    try go_simp
    refine hK.out _ _ (fun _ => HD3.out) ?_
    clear hK KK
    try simp only [Act.put, List.getElem_toArray, List.getElem_cons_zero, List.getElem_cons_succ, List.setIfInBounds_toArray, List.set_cons_zero, List.set_cons_succ]
    refine anyT_one (i := 4) (by decide +kernel) rfl (fun KK hK => ?_)
    go_simp
    go_at_call 17
    refine (HB.out (backC r) (facts_of HR.out).1 w3 H3.out).mono ?_
    rintro e w4 ⟨hm, hb4⟩
    obtain ⟨A2, m, c2, G, rfl, ho, hp⟩ := hm
    obtain ⟨J, rfl⟩ : ∃ J, m = J + 1 := ⟨m - 1, by have := hp.1; omega⟩
    have hJ : J ≤ 1000 := by have := hp.2.1; have := HM.out; omega
    have HD4 := Lib.hid (HD3.out.below hb4 (by omega))
    have sw : w.heap.size ≤ w3.heap.size := by rw [← HX.out]; omega
    have HO := Lib.hid (ho.base_le sw)
    have HP := Lib.hid hp
    have HB5 := Lib.hid (HB3.out.trans (hb4.mono sw))
    clear ho hp hb4
    try go_simp
    refine hK.out _ _ (fun _ => HD4.out) ?_
    clear hK KK
    try simp only [Act.put, List.getElem_toArray, List.getElem_cons_zero, List.getElem_cons_succ, List.setIfInBounds_toArray, List.set_cons_zero, List.set_cons_succ]
    refine anyT_one (i := 6) (by decide +kernel) rfl (fun KK hK => ?_)
    go_simp
    go_at_call 20
    refine (behind_any (r := r) w4 HO.out hJ ?hNo ?hYes).mono ?_
    case hNo => exact fun i hi => by have := (HP.out.2.2.1 J (by omega)).1.1 i hi; unfold noF at this; rw [Nat.mul_comm J 11]; exact this
    case hYes => exact fun i hi => by have := (HP.out.2.2.1 J (by omega)).2.1 i hi; unfold yesF at this; rw [Nat.mul_comm J 11]; exact this
    rintro e w6 ⟨rfl, ho6, hb6⟩
    have HO6 := Lib.hid ho6
    have hpb := HP.out.beh HR.out
    have HPB : Hid (OrdP inn (fun g => xor true (val F g i)) r (4 ^ dep F i) (J + 1) (behF G J r)) := Lib.hid (by simpa using hpb)
    clear ho6 hpb
    try go_simp
    refine hK.out _ _ (fun h => absurd h (by decide +kernel)) ?_
    clear hK KK
    try simp only [Act.put, List.getElem_toArray, List.getElem_cons_zero, List.getElem_cons_succ, List.setIfInBounds_toArray, List.set_cons_zero, List.set_cons_succ]
    refine T_of_any _ _ _ _ (by decide +kernel) ?_
    refine wpAny_ready (rs := [7]) (by decide +kernel) (by simp) ?_
    refine AllReady.cons rfl (fun KK hK => ?_) AllReady.nil
    go_simp
    refine hK _ _ ?_
    clear hK KK
    try simp only [Act.put, List.getElem_toArray, List.getElem_cons_zero, List.getElem_cons_succ, List.setIfInBounds_toArray, List.set_cons_zero, List.set_cons_succ]
    refine wpAny_done (by decide +kernel) ?_ _
    have HBF := Lib.hid (HB5.out.trans hb6)
    clear hb6
    go_wp2_with fail
    exact bodyPost_ret (v := .slice A2 (J + 1) c2) (by simp [results, Try.results26, go_sem]) rfl ⟨⟨A2, J + 1, c2, behF G J r, rfl, HO6.out, HPB.out⟩, HBF.out⟩
end Go.Proofs.Ytmhicimjoidonaa
