/- funcs.ask at the function of FuncsSum that goes on by one. Condition: they lie in the world. -/
import Derived.Test.YtjnoolfdlgocjaaFsAsk3
import Derived.Test.YtjnoolfdlgocjaaHeldMore
import Derived.Deep.RegionLaw
namespace Go.Proofs.Ytjnoolfdlgocjaa
open Go.ChangeShapes Go.WideShapes Go.ChangeAt Go.RowKit
set_option linter.unusedVariables false
set_option linter.unusedSimpArgs false
def dD (n x : Int) (q : Nat) : Value := if q = 0 then .int .i64 n else .int .i64 x
theorem dD_one (n x : Int) (q : Nat) : (dD n x q).oneCell' = true := by unfold dD; split <;> rfl
theorem rd2 (w : World) (x y : Value) (e : TypeId) (D : Nat → Value) (h0 : D 0 = x) (h1 : D 1 = y) : Rd (w.alloc (.cells #[x, y] e)) (some ⟨w.heap.size, 0, none⟩) 2 D :=
  Rd.of_row (World.rowIs_alloc w #[x, y] e D fun i hi => by
    have : i < 2 := hi
    match i, this with
    | 0, _ => simp [h0]
    | 1, _ => simp [h1]) (Nat.le_refl _)
set_option maxRecDepth 100000 in
set_option maxHeartbeats 8000000 in
theorem ask4_any (w W : World) (a b ib : Nat) (k : Int) (A : Option Addr) (c V0 V1 : Nat) (V : Nat → Int) (e0 : V 0 = (V0 : Nat)) (e1 : V 1 = (V1 : Nat)) (b0 : V0 ≤ 20) (b1 : V1 ≤ 20) (hc : 2 ≤ c ∧ c ≤ 1000) (h : AkS w W a b ib k) (hk : 1000 ≤ k ∧ k ≤ 100000) (hA : Rd W A 2 (fun q => .int .i64 (V q))) (ho : Off A a)  :
    Calls Try.prog 15 #[.pointer (some ⟨a, 0, none⟩), .int .i64 4, .slice A 2 c] W fun e w' => e = .returned (.int .i64 ((V0 + V1 : Nat) : Int)) ∧ AkS w w' a b ib (k - 2 - 3 * (V1 : Nat)) ∧ Kp a W w' := by
  have H := Lib.hid h
  have HV0 := Lib.hid e0
  have HV1 := Lib.hid e1
  have HO := Lib.hid ho
  have k0 : W.cell? ⟨a, 0, none⟩ = some (.slice (some ⟨b, 0, none⟩) 5 5) := h.row.cell (i := 0) (by omega)
  have k1 : W.cell? ⟨a, 1, none⟩ = some (.int .i64 k) := h.row.cell (i := 1) (by omega)
  have z1 := h.row.frozen 1
  have HM := Lib.hid (h.more (k - 1))
  have hs1 : (W.setCell ⟨a, 1, none⟩ (.int .i64 (k - 1))).heap.size = W.heap.size := by simp [World.setCell]
  have k0' : (W.setCell ⟨a, 1, none⟩ (.int .i64 (k - 1))).cell? ⟨a, 0, none⟩ = some (.slice (some ⟨b, 0, none⟩) 5 5) := HM.out.row.cell (i := 0) (by omega)
  have HFL := Lib.hid (h.fl.below HM.out.bel)
  have lb : b < W.heap.size := by have := HFL.out.row.lt; omega
  have lib : ib < W.heap.size := by have := HFL.out.into.lt; omega
  have la : a < W.heap.size := h.row.lt
  have wk : IntKind.i64.wrap (k - 1) = k - 1 := IntWalk.i64_in _ (by omega)
  have c0 : (W.setCell ⟨a, 1, none⟩ (.int .i64 (k - 1))).cell? ⟨b, 24, none⟩ = some (.int .i64 5) := HFL.out.at_ 24 (by omega)
  have c1 : (W.setCell ⟨a, 1, none⟩ (.int .i64 (k - 1))).cell? ⟨b, 25, none⟩ = some (.int .i64 2) := HFL.out.at_ 25 (by omega)
  have c2 : (W.setCell ⟨a, 1, none⟩ (.int .i64 (k - 1))).cell? ⟨b, 26, none⟩ = some (.int .i64 0) := HFL.out.at_ 26 (by omega)
  have c3 : (W.setCell ⟨a, 1, none⟩ (.int .i64 (k - 1))).cell? ⟨b, 27, none⟩ = some (.int .i64 0) := HFL.out.at_ 27 (by omega)
  have c4 : (W.setCell ⟨a, 1, none⟩ (.int .i64 (k - 1))).cell? ⟨b, 28, none⟩ = some (.int .i64 3) := HFL.out.at_ 28 (by omega)
  have c5 : (W.setCell ⟨a, 1, none⟩ (.int .i64 (k - 1))).cell? ⟨b, 29, none⟩ = some (.slice none 0 0) := HFL.out.at_ 29 (by omega)
  have HR1 := Lib.hid (hA.kp (Kp.set a W (.int .i64 (k - 1))) ho)
  have HZ := Lib.hid hs1
  have hrow := rowF (W.setCell ⟨a, 1, none⟩ (.int .i64 (k - 1))) 29 (.int .i64 5) (.int .i64 2) (.int .i64 0) (.int .i64 0) (.int .i64 3) (.slice none 0 0) (fun q => fC ib (24 + q)) rfl rfl rfl rfl rfl rfl
  rw [hs1] at hrow
  have HX := Lib.hid hrow
  have HS1 := Lib.hid (HM.out.below ((Below.refl _ _).alloc (Nat.le_refl _) (.cells #[.int .i64 5, .int .i64 2, .int .i64 0, .int .i64 0, .int .i64 3, .slice none 0 0] 29)))
  have HK1 := Lib.hid ((Kp.set a W (.int .i64 (k - 1))).trans (Kp.below ((Below.refl _ _).alloc (Nat.le_refl _) (.cells #[.int .i64 5, .int .i64 2, .int .i64 0, .int .i64 0, .int .i64 3, .slice none 0 0] 29))))
  have HR0 := Lib.hid hA
  obtain ⟨g, o, rfl, lg, hcv⟩ := hA.at_ (show 0 < 2 by omega)
  have HLG := Lib.hid lg
  clear h ho hA hs1 hrow e0 e1 hcv lg
  have hcI : (1 : Int) ≤ (c : Int) := by omega
  have wl : IntKind.i64.wrap ((2 : Int) - 1) = 1 := by decide
  go_enter Try.func15, Try.ntmps15
  go_wp2_with fail
  obtain ⟨W1, hW1⟩ : ∃ W1, W1 = ((W.setCell ⟨a, 1, none⟩ (.int .i64 (k - 1))).alloc (.cells #[.int .i64 5, .int .i64 2, .int .i64 0, .int .i64 0, .int .i64 3, .slice none 0 0] 29)) := ⟨_, rfl⟩
  rw [← hW1] at HX HS1 HK1
  rw [← hW1]
  clear hW1
  have HS0 : Hid (W1.drew.cell? ⟨W.heap.size, 3, none⟩ = some (.int .i64 0)) := Lib.hid (HX.out.cell (i := 3) (by omega))
  refine wp_region_any (by kernel_rfl) ?_
  change wpAny _ _ _ _ _ _ _ (World.drew _)
  refine any_of_T (S := fun W' => W'.cell? ⟨W.heap.size, 3, none⟩ = some (.int .i64 0)) (c := 6) _ _ _ _ ?_
  refine anyT_takeY (i := 0) (v := ?_) rfl (by decide +kernel) (by decide +kernel) (by decide +kernel) (by decide +kernel) (fun _ _ _ h => h) (Or.inl ⟨by rfl, ?_⟩) HS0.out ?_
  rotate_left 1
  · intro w _; go_simp; with_reducible rfl
  simp only [Act.put, List.getElem_toArray, List.getElem_cons_zero, List.getElem_cons_succ, List.setIfInBounds_toArray, List.set_cons_zero, List.set_cons_succ]
  refine anyT_takeY (i := 1) (v := ?_) rfl (by decide +kernel) (by decide +kernel) (by decide +kernel) (by decide +kernel) (fun _ _ _ h => h) (Or.inl ⟨by rfl, ?_⟩) HS0.out ?_
  rotate_left 1
  · intro w _; go_simp; with_reducible rfl
  simp only [Act.put, List.getElem_toArray, List.getElem_cons_zero, List.getElem_cons_succ, List.setIfInBounds_toArray, List.set_cons_zero, List.set_cons_succ]
  refine anyT_takeL [6] (i := 2) (v := ?_) rfl (by decide +kernel) (by decide +kernel) (by decide +kernel) (by decide +kernel) (by decide +kernel) (by decide +kernel) (fun _ _ _ h => h) (Or.inl ⟨by rfl, ?_⟩) HS0.out ?_
  rotate_left 1
  · intro w hS; go_simp; with_reducible rfl
  simp only [Act.put, List.getElem_toArray, List.getElem_cons_zero, List.getElem_cons_succ, List.setIfInBounds_toArray, List.set_cons_zero, List.set_cons_succ]
  refine anyT_takeY (i := 3) (v := ?_) rfl (by decide +kernel) (by decide +kernel) (by decide +kernel) (by decide +kernel) (fun _ _ _ h => h) (Or.inl ⟨by rfl, ?_⟩) HS0.out ?_
  rotate_left 1
  · intro w _; go_simp; with_reducible rfl
  simp only [Act.put, List.getElem_toArray, List.getElem_cons_zero, List.getElem_cons_succ, List.setIfInBounds_toArray, List.set_cons_zero, List.set_cons_succ]
  refine anyT_takeY (i := 4) (v := ?_) rfl (by decide +kernel) (by decide +kernel) (by decide +kernel) (by decide +kernel) (fun _ _ _ h => h) (Or.inl ⟨by rfl, ?_⟩) HS0.out ?_
  rotate_left 1
  · intro w _; go_simp; with_reducible rfl
  simp only [Act.put, List.getElem_toArray, List.getElem_cons_zero, List.getElem_cons_succ, List.setIfInBounds_toArray, List.set_cons_zero, List.set_cons_succ]
  refine anyT_takeY (i := 5) (v := ?_) rfl (by decide +kernel) (by decide +kernel) (by decide +kernel) (by decide +kernel) (fun _ _ _ h => h) (Or.inl ⟨by rfl, ?_⟩) HS0.out ?_
  rotate_left 1
  · intro w _; go_simp; with_reducible rfl
  simp only [Act.put, List.getElem_toArray, List.getElem_cons_zero, List.getElem_cons_succ, List.setIfInBounds_toArray, List.set_cons_zero, List.set_cons_succ]
  refine anyT_one (i := 6) (by decide +kernel) rfl (fun KK hK => ?_)
  go_simp
  go_at_call 15
  refine (ask0_any w W1.drew a b ib (k - 1) (some ⟨g, o, none⟩) c V (HS1.out.below ((Below.refl _ _).drew)) ⟨by omega, by omega⟩ ((HR0.out.kp HK1.out HO.out).le (by omega)) HO.out).mono ?_
  rintro e w2 ⟨rfl, hs2, hk2⟩
  have HS2 := Lib.hid hs2
  have HK2 := Lib.hid ((show Kp a W W1.drew from HK1.out).trans hk2)
  have HX2 := Lib.hid (row_kp (W := W1.drew) HX.out hk2 (by omega))
  clear hs2 hk2
  rw [HV0.out]
  try go_simp
  refine hK.out _ _ (fun h => absurd h (by decide +kernel)) ?_
  clear hK KK
  try simp only [Act.put, List.getElem_toArray, List.getElem_cons_zero, List.getElem_cons_succ, List.setIfInBounds_toArray, List.set_cons_zero, List.set_cons_succ]
  refine T_of_any _ _ _ _ (by decide +kernel) ?_
  refine wpAny_take (i := 7) (v := ?_) rfl (by kernel_rfl) (by kernel_rfl) (by kernel_rfl) (fun _ _ _ h => h) (Or.inl ⟨by rfl, ?_⟩) ?_
  rotate_left 1
  · intro w; go_simp; with_reducible rfl
  simp only [Act.put, List.getElem_toArray, List.getElem_cons_zero, List.getElem_cons_succ, List.setIfInBounds_toArray, List.set_cons_zero, List.set_cons_succ]
  refine wpAny_done (by decide +kernel) ?_ _
  go_wp2_with fail
  go_loopw [13, 14] (fun s13 s14 wr => ∃ (n : Nat), n ≤ V1 ∧ s13 = .int .i64 ((V0 + n : Nat) : Int) ∧ s14 = .int .i64 ((n : Nat) : Int) ∧ Hid (Kp a W wr) ∧ Hid (wr.rowIs W.heap.size 29 6 (fun q => fC ib (24 + q))) ∧ Hid (AkS w wr a b ib (k - 2 - 3 * (n : Nat)))) (fun _ s14 _ => V1 - (intOf s14).toNat)
  case atStart => exact ⟨0, by omega, rfl, rfl, HK2, HX2, Lib.hid (by have := HS2.out; rwa [show k - 1 - 1 = k - 2 - 3 * ((0 : Nat) : Int) by omega] at this)⟩
  case round =>
    obtain ⟨wo, rfl⟩ : ∃ wo : World, wo = wr := ⟨_, rfl⟩
    obtain ⟨n, hn, rfl, rfl, HK, HX3, HS⟩ := hrel
    have HR := Lib.hid (HR0.out.kp HK.out HO.out)
    have ca : wo.cell? ⟨g, o + 1, none⟩ = some (.int .i64 (V1 : Nat)) := by
      obtain ⟨g', o', e, _, h⟩ := HR.out.at_ (show 1 < 2 by omega)
      injection e with e
      injection e with e1 e2
      rw [← e1, ← e2] at h
      rw [h]
      show some (Value.int .i64 (V 1)) = _
      rw [HV1.out]
    have hx0 : (0 : Int) ≤ ((V0 + n : Nat) : Int) := by omega
    by_cases hlt : n < V1
    · have hltI : (n : Int) < (V1 : Int) := by omega
      have wa : IntKind.i64.wrap ((n : Int) + 1) = ((n + 1 : Nat) : Int) := by rw [show (n : Int) + 1 = ((n + 1 : Nat) : Int) by omega]; exact IntWalk.i64_in _ (by omega)
      go_wp2_with fail
      have HS0 : Hid (wo.drew.cell? ⟨W.heap.size, 4, none⟩ = some (.int .i64 3)) := Lib.hid (HX3.out.cell (i := 4) (by omega))
      have lx : W.heap.size < wo.heap.size := HX3.out.lt
      refine wp_region_any (by kernel_rfl) ?_
      change wpAny _ _ _ _ _ _ _ (World.drew _)
      refine any_of_T (S := fun W' => W'.cell? ⟨W.heap.size, 4, none⟩ = some (.int .i64 3)) (c := 11) _ _ _ _ ?_
      refine anyT_takeY (i := 0) (v := ?_) rfl (by decide +kernel) (by decide +kernel) (by decide +kernel) (by decide +kernel) (fun _ _ _ h => h) (Or.inl ⟨by rfl, ?_⟩) HS0.out ?_
      rotate_left 1
      · intro w _; go_simp; with_reducible rfl
      simp only [Act.put, List.getElem_toArray, List.getElem_cons_zero, List.getElem_cons_succ, List.setIfInBounds_toArray, List.set_cons_zero, List.set_cons_succ]
      refine anyT_takeY (i := 1) (v := ?_) rfl (by decide +kernel) (by decide +kernel) (by decide +kernel) (by decide +kernel) (fun _ _ _ h => h) (Or.inl ⟨by rfl, ?_⟩) HS0.out ?_
      rotate_left 1
      · intro w _; go_simp; with_reducible rfl
      simp only [Act.put, List.getElem_toArray, List.getElem_cons_zero, List.getElem_cons_succ, List.setIfInBounds_toArray, List.set_cons_zero, List.set_cons_succ]
      refine anyT_takeL [11] (i := 2) (v := ?_) rfl (by decide +kernel) (by decide +kernel) (by decide +kernel) (by decide +kernel) (by decide +kernel) (by decide +kernel) (fun _ _ _ h => h) (Or.inl ⟨by rfl, ?_⟩) HS0.out ?_
      rotate_left 1
      · intro w hS; go_simp; with_reducible rfl
      simp only [Act.put, List.getElem_toArray, List.getElem_cons_zero, List.getElem_cons_succ, List.setIfInBounds_toArray, List.set_cons_zero, List.set_cons_succ]
      refine anyT_takeY (i := 3) (v := ?_) rfl (by decide +kernel) (by decide +kernel) (by decide +kernel) (by decide +kernel) (fun _ _ _ h => h) (Or.inl ⟨by rfl, ?_⟩) HS0.out ?_
      rotate_left 1
      · intro w _; go_simp; with_reducible rfl
      simp only [Act.put, List.getElem_toArray, List.getElem_cons_zero, List.getElem_cons_succ, List.setIfInBounds_toArray, List.set_cons_zero, List.set_cons_succ]
      refine anyT_takeY (i := 4) (v := ?_) rfl (by decide +kernel) (by decide +kernel) (by decide +kernel) (by decide +kernel) (fun _ _ _ h => h) (Or.inl ⟨by rfl, ?_⟩) HS0.out ?_
      rotate_left 1
      · intro w _; go_simp; with_reducible rfl
      simp only [Act.put, List.getElem_toArray, List.getElem_cons_zero, List.getElem_cons_succ, List.setIfInBounds_toArray, List.set_cons_zero, List.set_cons_succ]
      refine anyT_takeY (i := 5) (v := ?_) rfl (by decide +kernel) (by decide +kernel) (by decide +kernel) (by decide +kernel) (fun _ _ _ h => h) (Or.inl ⟨by rfl, ?_⟩) HS0.out ?_
      rotate_left 1
      · intro w _; go_simp; with_reducible rfl
      simp only [Act.put, List.getElem_toArray, List.getElem_cons_zero, List.getElem_cons_succ, List.setIfInBounds_toArray, List.set_cons_zero, List.set_cons_succ]
      refine anyT_takeY (i := 7) (v := ?_) rfl (by decide +kernel) (by decide +kernel) (by decide +kernel) (by decide +kernel) (fun _ _ _ h => h) (Or.inl ⟨by rfl, ?_⟩) HS0.out ?_
      rotate_left 1
      · intro w _; go_simp; with_reducible rfl
      simp only [Act.put, List.getElem_toArray, List.getElem_cons_zero, List.getElem_cons_succ, List.setIfInBounds_toArray, List.set_cons_zero, List.set_cons_succ]
      refine anyT_takeY (i := 8) (v := ?_) rfl (by decide +kernel) (by decide +kernel) (by decide +kernel) (by decide +kernel) (fun _ _ _ h => h) (Or.inl ⟨by rfl, ?_⟩) HS0.out ?_
      rotate_left 1
      · intro w _; go_simp; with_reducible rfl
      simp only [Act.put, List.getElem_toArray, List.getElem_cons_zero, List.getElem_cons_succ, List.setIfInBounds_toArray, List.set_cons_zero, List.set_cons_succ]
      refine anyT_two (i := 6) (j := 9) (by decide +kernel) rfl rfl (fun KK hK => ?_) (fun KK hK => ?_)
      · go_simp
        go_at_call 19
        refine (clone_any (some ⟨g, o, none⟩) 1 c V wo.drew (HR.out.le (by omega)) (by omega)).mono ?_
        rintro e w3 ⟨A2, c2, rfl, hown, hbl⟩
        have HO2 := Lib.hid hown
        have HB2 := Lib.hid (show Below wo.heap.size wo w3 from ((Below.refl _ _).drew).trans hbl)
        clear hown hbl
        try go_simp
        refine hK.out _ _ (fun _ => (HB2.out.cell (p := ⟨W.heap.size, 4, none⟩) lx).trans HS0.out) ?_
        clear hK KK
        try simp only [Act.put, List.getElem_toArray, List.getElem_cons_zero, List.getElem_cons_succ, List.setIfInBounds_toArray, List.set_cons_zero, List.set_cons_succ]
        refine anyT_one (i := 9) (by decide +kernel) rfl (fun KK hK => ?_)
        go_simp
        have HB2' := Lib.hid (HB2.out.alloc HB2.out.size (.cells #[.int .i64 ((n : Nat) : Int), .int .i64 ((V0 + n : Nat) : Int)] 3))
        refine hK.out _ _ (fun _ => (HB2'.out.cell (p := ⟨W.heap.size, 4, none⟩) lx).trans HS0.out) ?_
        clear hK KK
        try simp only [Act.put, List.getElem_toArray, List.getElem_cons_zero, List.getElem_cons_succ, List.setIfInBounds_toArray, List.set_cons_zero, List.set_cons_succ]
        refine anyT_one (i := 10) (by decide +kernel) rfl (fun KK hK => ?_)
        refine step_app _ rfl (.tmp 108) (.tmp 111) 27 rfl EIc rfl (HO2.out.alloc _) rfl (l := 2) rfl (rd2 w3 _ _ _ (dD ((n : Nat) : Int) ((V0 + n : Nat) : Int)) rfl rfl) (fun q _ => dD_one _ _ q) (by unfold maxLen; omega) (by omega) (by have := HB2'.out.size; simpa using this) 3 3 rfl rfl ?_
        intro A3 c3 w4 hown hg3 hat3 hb3
        have HO3 := Lib.hid hown
        have HB3 := Lib.hid (HB2'.out.trans hb3)
        clear hown hg3 hat3 hb3
        refine hK.out _ _ (fun _ => (HB3.out.cell (p := ⟨W.heap.size, 4, none⟩) lx).trans HS0.out) ?_
        clear hK KK
        try simp only [Act.put, List.getElem_toArray, List.getElem_cons_zero, List.getElem_cons_succ, List.setIfInBounds_toArray, List.set_cons_zero, List.set_cons_succ]
        refine anyT_one (i := 11) (by decide +kernel) rfl (fun KK hK => ?_)
        go_simp
        go_at_call 15
        obtain ⟨g3, F3, rfl, hg3, hr3, hc3, hF3⟩ := HO3.out.row (by omega)
        have hrd : Rd w4 (some ⟨g3, 0, none⟩) 3 (fun q => .int .i64 (if q = 0 then (V0 : Int) else if q = 1 then ((n : Nat) : Int) else ((V0 + n : Nat) : Int))) := HO3.out.rd.congr (fun q hq => by
          match q, hq with
          | 0, _ => rw [cat_lt (by omega)]; show Value.int .i64 (V 0) = _; rw [HV0.out]; rfl
          | 1, _ => rw [cat_ge (by omega)]; rfl
          | 2, _ => rw [cat_ge (by omega)]; rfl)
        refine (ask3_any w w4 a b ib (k - 2 - 3 * (n : Nat)) (some ⟨g3, 0, none⟩) c3 _ (HS.out.below HB3.out) ⟨by omega, by omega⟩ ⟨by show (0 : Int) ≤ ((V0 + n : Nat) : Int); omega, by show ((V0 + n : Nat) : Int) < 1000; omega⟩ hrd (Off.ge (Nat.lt_of_lt_of_le HS.out.row.lt hg3))).mono ?_
        rintro e w5 ⟨rfl, hs5, hk5⟩
        have HS5 := Lib.hid hs5
        have HK5 := Lib.hid ((HK.out.trans (Kp.below HB3.out)).trans hk5)
        have HX5 := Lib.hid (row_kp (HX3.out.of_block (HB3.out.block _ lx)) hk5 (by omega))
        clear hs5 hk5 hrd
        rw [show (if (2 : Nat) = 0 then (V0 : Int) else if (2 : Nat) = 1 then ((n : Nat) : Int) else ((V0 + n : Nat) : Int)) + 1 = ((V0 + (n + 1) : Nat) : Int) by simp; omega]
        try go_simp
        refine hK.out _ _ (fun h => absurd h (by decide +kernel)) ?_
        clear hK KK
        try simp only [Act.put, List.getElem_toArray, List.getElem_cons_zero, List.getElem_cons_succ, List.setIfInBounds_toArray, List.set_cons_zero, List.set_cons_succ]
        refine T_of_any _ _ _ _ (by decide +kernel) ?_
        refine wpAny_take (i := 12) (v := ?_) rfl (by kernel_rfl) (by kernel_rfl) (by kernel_rfl) (fun _ _ _ h => h) (Or.inl ⟨by rfl, ?_⟩) ?_
        rotate_left 1
        · intro w; go_simp; with_reducible rfl
        simp only [Act.put, List.getElem_toArray, List.getElem_cons_zero, List.getElem_cons_succ, List.setIfInBounds_toArray, List.set_cons_zero, List.set_cons_succ]
        refine wpAny_done (by decide +kernel) ?_ _
        go_wp2_with fail
        go_roundw
        case rel => exact ⟨n + 1, by omega, rfl, by go_num, HK5, HX5, Lib.hid (by have := HS5.out; rwa [show k - 2 - 3 * ((n : Nat) : Int) - 3 = k - 2 - 3 * ((n + 1 : Nat) : Int) by omega] at this)⟩
        case measure => simp [intOf]; omega
      · go_simp
        have HB1' := Lib.hid (((Below.refl wo.heap.size wo.drew).alloc (Nat.le_refl _) (.cells #[.int .i64 ((n : Nat) : Int), .int .i64 ((V0 + n : Nat) : Int)] 3)))
        have HB1 := Lib.hid (show Below wo.heap.size wo _ from ((Below.refl _ _).drew).trans HB1'.out)
        refine hK.out _ _ (fun _ => (HB1.out.cell (p := ⟨W.heap.size, 4, none⟩) lx).trans HS0.out) ?_
        clear hK KK
        try simp only [Act.put, List.getElem_toArray, List.getElem_cons_zero, List.getElem_cons_succ, List.setIfInBounds_toArray, List.set_cons_zero, List.set_cons_succ]
        refine anyT_one (i := 6) (by decide +kernel) rfl (fun KK hK => ?_)
        go_simp
        go_at_call 19
        refine (clone_any (some ⟨g, o, none⟩) 1 c V _ ((HR.out.below HB1.out).le (by omega)) (by omega)).mono ?_
        rintro e w3 ⟨A2, c2, rfl, hown, hbl⟩
        have hrd2 := (rd2 wo.drew (.int .i64 ((n : Nat) : Int)) (.int .i64 ((V0 + n : Nat) : Int)) 3 (dD ((n : Nat) : Int) ((V0 + n : Nat) : Int)) rfl rfl).below hbl
        have hown' := hown.base_le HB1.out.size
        have HRD2 := Lib.hid hrd2
        have HO2 := Lib.hid hown'
        have HB2' := Lib.hid (HB1.out.trans (hbl.mono HB1.out.size))
        clear hown hbl hrd2 hown'
        try go_simp
        refine hK.out _ _ (fun _ => (HB2'.out.cell (p := ⟨W.heap.size, 4, none⟩) lx).trans HS0.out) ?_
        clear hK KK
        try simp only [Act.put, List.getElem_toArray, List.getElem_cons_zero, List.getElem_cons_succ, List.setIfInBounds_toArray, List.set_cons_zero, List.set_cons_succ]
        refine anyT_one (i := 10) (by decide +kernel) rfl (fun KK hK => ?_)
        refine step_app _ rfl (.tmp 108) (.tmp 111) 27 rfl EIc rfl HO2.out rfl (l := 2) rfl HRD2.out (fun q _ => dD_one _ _ q) (by unfold maxLen; omega) (by omega) HB2'.out.size 3 3 rfl rfl ?_
        intro A3 c3 w4 hown hg3 hat3 hb3
        have HO3 := Lib.hid hown
        have HB3 := Lib.hid (HB2'.out.trans hb3)
        clear hown hg3 hat3 hb3
        refine hK.out _ _ (fun _ => (HB3.out.cell (p := ⟨W.heap.size, 4, none⟩) lx).trans HS0.out) ?_
        clear hK KK
        try simp only [Act.put, List.getElem_toArray, List.getElem_cons_zero, List.getElem_cons_succ, List.setIfInBounds_toArray, List.set_cons_zero, List.set_cons_succ]
        refine anyT_one (i := 11) (by decide +kernel) rfl (fun KK hK => ?_)
        go_simp
        go_at_call 15
        obtain ⟨g3, F3, rfl, hg3, hr3, hc3, hF3⟩ := HO3.out.row (by omega)
        have hrd : Rd w4 (some ⟨g3, 0, none⟩) 3 (fun q => .int .i64 (if q = 0 then (V0 : Int) else if q = 1 then ((n : Nat) : Int) else ((V0 + n : Nat) : Int))) := HO3.out.rd.congr (fun q hq => by
          match q, hq with
          | 0, _ => rw [cat_lt (by omega)]; show Value.int .i64 (V 0) = _; rw [HV0.out]; rfl
          | 1, _ => rw [cat_ge (by omega)]; rfl
          | 2, _ => rw [cat_ge (by omega)]; rfl)
        refine (ask3_any w w4 a b ib (k - 2 - 3 * (n : Nat)) (some ⟨g3, 0, none⟩) c3 _ (HS.out.below HB3.out) ⟨by omega, by omega⟩ ⟨by show (0 : Int) ≤ ((V0 + n : Nat) : Int); omega, by show ((V0 + n : Nat) : Int) < 1000; omega⟩ hrd (Off.ge (Nat.lt_of_lt_of_le HS.out.row.lt hg3))).mono ?_
        rintro e w5 ⟨rfl, hs5, hk5⟩
        have HS5 := Lib.hid hs5
        have HK5 := Lib.hid ((HK.out.trans (Kp.below HB3.out)).trans hk5)
        have HX5 := Lib.hid (row_kp (HX3.out.of_block (HB3.out.block _ lx)) hk5 (by omega))
        clear hs5 hk5 hrd
        rw [show (if (2 : Nat) = 0 then (V0 : Int) else if (2 : Nat) = 1 then ((n : Nat) : Int) else ((V0 + n : Nat) : Int)) + 1 = ((V0 + (n + 1) : Nat) : Int) by simp; omega]
        try go_simp
        refine hK.out _ _ (fun h => absurd h (by decide +kernel)) ?_
        clear hK KK
        try simp only [Act.put, List.getElem_toArray, List.getElem_cons_zero, List.getElem_cons_succ, List.setIfInBounds_toArray, List.set_cons_zero, List.set_cons_succ]
        refine T_of_any _ _ _ _ (by decide +kernel) ?_
        refine wpAny_take (i := 12) (v := ?_) rfl (by kernel_rfl) (by kernel_rfl) (by kernel_rfl) (fun _ _ _ h => h) (Or.inl ⟨by rfl, ?_⟩) ?_
        rotate_left 1
        · intro w; go_simp; with_reducible rfl
        simp only [Act.put, List.getElem_toArray, List.getElem_cons_zero, List.getElem_cons_succ, List.setIfInBounds_toArray, List.set_cons_zero, List.set_cons_succ]
        refine wpAny_done (by decide +kernel) ?_ _
        go_wp2_with fail
        go_roundw
        case rel => exact ⟨n + 1, by omega, rfl, by go_num, HK5, HX5, Lib.hid (by have := HS5.out; rwa [show k - 2 - 3 * ((n : Nat) : Int) - 3 = k - 2 - 3 * ((n + 1 : Nat) : Int) by omega] at this)⟩
        case measure => simp [intOf]; omega
    · have hltI : ¬ (n : Int) < (V1 : Int) := by omega
      obtain rfl : n = V1 := by omega
      go_wp2_with fail
      go_ret
      exact ⟨rfl, HS.out, HK.out⟩
end Go.Proofs.Ytjnoolfdlgocjaa
