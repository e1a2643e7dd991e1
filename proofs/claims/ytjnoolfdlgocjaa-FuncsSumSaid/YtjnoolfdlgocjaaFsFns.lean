/- The functions that FuncsSum makes: each of them may be. No condition. -/
import Derived.Test.YtjnoolfdlgocjaaApp
import Derived.Test.YtjnoolfdlgocjaaContE
import Derived.Test.YtjnoolfdlgocjaaHeldMore
import Derived.Deep.RegionLaw
import Derived.WalkSpells
import Derived.OwnWalk
import Derived.Deep.DeepMust
import Derived.WalkLawsBesides
namespace Go.Proofs.Ytjnoolfdlgocjaa
open Go.ChangeShapes Go.WideShapes Go.ChangeAt Go.RowKit
set_option linter.unusedVariables false
set_option linter.unusedSimpArgs false
def fC (ib : Nat) (q : Nat) : Value := (#[.int .i64 3, .int .i64 1, .int .i64 0, .int .i64 0, .int .i64 0, .slice none 0 0, .int .i64 2, .int .i64 1, .int .i64 0, .int .i64 0, .int .i64 0, .slice none 0 0, .int .i64 3, .int .i64 3, .int .i64 2, .int .i64 0, .int .i64 0, .slice none 0 0, .int .i64 4, .int .i64 3, .int .i64 0, .int .i64 1, .int .i64 0, .slice (some ⟨ib, 0, none⟩) 1 1, .int .i64 5, .int .i64 2, .int .i64 0, .int .i64 0, .int .i64 3, .slice none 0 0] : Array Value).getD q (.int .i64 0)
/-- the five functions lie in the world -/
structure FL (W : World) (b ib : Nat) : Prop where
  row : W.rowIs b 29 30 (fC ib)
  into : W.rowIs ib 3 1 (fun _ => .int .i64 2)
theorem FL.below {W W' : World} {b ib : Nat} (h : FL W b ib) (hb : Below W.heap.size W W') : FL W' b ib := ⟨h.row.of_block (hb.block _ h.row.lt), h.into.of_block (hb.block _ h.into.lt)⟩
theorem FL.at_ {W : World} {b ib : Nat} (h : FL W b ib) (q : Nat) (hq : q < 30) : W.cell? ⟨b, q, none⟩ = some (fC ib q) := h.row.cell hq
theorem EE : Elem Try.prog 49 22 1 8 := Elem.of Try.underlying49 (by kernel_rfl : (Try.prog.info? 22).map (fun i => (i.zero, i.size, i.bytes)) = some (some (.int .i64 0), 1, 8)) rfl (by omega)
set_option maxRecDepth 100000 in
theorem there_any (i j a b xi xl n c q : Nat) (W : World) (hj : j < i) (hi : W.cell? ⟨xi, 0, none⟩ = some (.int .i64 (i : Nat))) (hl : W.cell? ⟨xl, 0, none⟩ = some (.slice (some ⟨b, 0, none⟩) n c)) (hin : i < n) (hn : n ≤ 100) (hq : q = j * 6 + 1) (hc : W.cell? ⟨b, q, none⟩ = some (.int .i64 (a : Nat))) :
    Calls Try.prog 20 #[.int .i64 (j : Nat), .int .i64 (a : Nat), .pointer (some ⟨xi, 0, none⟩), .pointer (some ⟨xl, 0, none⟩)] W fun e w' => e = .returned (.int .i64 0) ∧ W = w' := by
  have hjn : (j : Int) < (n : Int) := by omega
  have hji : (j : Int) < (i : Int) := by omega
  have h0 : (0 : Int) ≤ (j : Int) := by omega
  have qa : ((a : Int) != (a : Int)) = false := by simp
  rw [hq] at hc
  go_enter Try.func20, Try.ntmps20
  go_wp2_with fail
  go_ret
  exact ⟨rfl, rfl⟩
theorem zeros_no (m : Nat) (x : Int) (hx : x ≠ 0) : hasI (fun _ => 0) m x = false := anyB_no fun j _ => beq_eq_false_iff_ne.2 (Ne.symm hx)
set_option maxRecDepth 100000 in
set_option maxHeartbeats 1000000 in
theorem wrong0_any (b ib : Nat) (W : World) (h : FL W b ib) :
    Calls Try.prog 17 #[.slice (some ⟨b, 0, none⟩) 5 5, .int .i64 0] W fun e w' => e = .returned (.int .i64 0) ∧ Below W.heap.size W w' := by
  have HF := Lib.hid h
  have lb := HF.out.row.lt
  have c0 : W.cell? ⟨b, 0, none⟩ = some (.int .i64 3) := HF.out.at_ 0 (by omega)
  have c1 : W.cell? ⟨b, 1, none⟩ = some (.int .i64 1) := HF.out.at_ 1 (by omega)
  have c2 : W.cell? ⟨b, 2, none⟩ = some (.int .i64 0) := HF.out.at_ 2 (by omega)
  have c3 : W.cell? ⟨b, 3, none⟩ = some (.int .i64 0) := HF.out.at_ 3 (by omega)
  have c4 : W.cell? ⟨b, 4, none⟩ = some (.int .i64 0) := HF.out.at_ 4 (by omega)
  have c5 : W.cell? ⟨b, 5, none⟩ = some (.slice none 0 0) := HF.out.at_ 5 (by omega)
  clear h
  go_enter Try.func17, Try.ntmps17
  go_wp2_with fail
  go_loop [133] (fun s133 => ∃ k : Nat, k ≤ 2 ∧ s133 = .int .i64 (k : Nat)) (fun s133 => 2 - (intOf s133).toNat)
  case atStart => exact ⟨0, by omega, rfl⟩
  case round =>
    obtain ⟨k, hk, rfl⟩ := hrel
    have h3 : k = 0 ∨ k = 1 ∨ k = 2 := by omega
    rcases h3 with rfl | rfl | rfl
    · have hh : ∀ w : World, Rd w none 0 (fun _ => .int .i64 0) → Calls Try.prog 21 #[.slice none 0 0, .int .i64 2] w fun e w' => e = .returned (.bool false) ∧ w = w' := fun w hr => by
        have h := hasE_any none 0 0 (fun _ => 0) 2 w hr (by unfold maxLen; omega)
        rw [zeros_no 0 2 (by decide)] at h
        exact h
      have HH := Lib.hid hh
      clear hh
      go_wp2_with fail
      refine (HH.out _ (Rd.zero _ _ _)).mono ?_
      rintro e w' ⟨rfl, rfl⟩
      clear HH
      go_wp2_with fail
      go_round
      case rel => exact ⟨1, by omega, rfl⟩
      case measure => simp [intOf]
    · have hh : ∀ w : World, Rd w none 0 (fun _ => .int .i64 0) → Calls Try.prog 21 #[.slice none 0 0, .int .i64 3] w fun e w' => e = .returned (.bool false) ∧ w = w' := fun w hr => by
        have h := hasE_any none 0 0 (fun _ => 0) 3 w hr (by unfold maxLen; omega)
        rw [zeros_no 0 3 (by decide)] at h
        exact h
      have HH := Lib.hid hh
      clear hh
      go_wp2_with fail
      refine (HH.out _ (Rd.zero _ _ _)).mono ?_
      rintro e w' ⟨rfl, rfl⟩
      clear HH
      go_wp2_with fail
      go_round
      case rel => exact ⟨2, by omega, rfl⟩
      case measure => simp [intOf]
    · go_wp2_with fail
      go_ret
      exact ⟨rfl, ((((Below.refl _ _).alloc (Nat.le_refl _) _).alloc (by simp) _).alloc (by simp; omega) _).alloc (by simp; omega) _⟩
set_option maxRecDepth 100000 in
set_option maxHeartbeats 1000000 in
theorem wrong1_any (b ib : Nat) (W : World) (h : FL W b ib) :
    Calls Try.prog 17 #[.slice (some ⟨b, 0, none⟩) 5 5, .int .i64 1] W fun e w' => e = .returned (.int .i64 0) ∧ Below W.heap.size W w' := by
  have HF := Lib.hid h
  have lb := HF.out.row.lt
  have c0 : W.cell? ⟨b, 6, none⟩ = some (.int .i64 2) := HF.out.at_ 6 (by omega)
  have c1 : W.cell? ⟨b, 7, none⟩ = some (.int .i64 1) := HF.out.at_ 7 (by omega)
  have c2 : W.cell? ⟨b, 8, none⟩ = some (.int .i64 0) := HF.out.at_ 8 (by omega)
  have c3 : W.cell? ⟨b, 9, none⟩ = some (.int .i64 0) := HF.out.at_ 9 (by omega)
  have c4 : W.cell? ⟨b, 10, none⟩ = some (.int .i64 0) := HF.out.at_ 10 (by omega)
  have c5 : W.cell? ⟨b, 11, none⟩ = some (.slice none 0 0) := HF.out.at_ 11 (by omega)
  clear h
  go_enter Try.func17, Try.ntmps17
  go_wp2_with fail
  go_loop [133] (fun s133 => ∃ k : Nat, k ≤ 2 ∧ s133 = .int .i64 (k : Nat)) (fun s133 => 2 - (intOf s133).toNat)
  case atStart => exact ⟨0, by omega, rfl⟩
  case round =>
    obtain ⟨k, hk, rfl⟩ := hrel
    have h3 : k = 0 ∨ k = 1 ∨ k = 2 := by omega
    rcases h3 with rfl | rfl | rfl
    · have hh : ∀ w : World, Rd w none 0 (fun _ => .int .i64 0) → Calls Try.prog 21 #[.slice none 0 0, .int .i64 2] w fun e w' => e = .returned (.bool false) ∧ w = w' := fun w hr => by
        have h := hasE_any none 0 0 (fun _ => 0) 2 w hr (by unfold maxLen; omega)
        rw [zeros_no 0 2 (by decide)] at h
        exact h
      have HH := Lib.hid hh
      clear hh
      go_wp2_with fail
      refine (HH.out _ (Rd.zero _ _ _)).mono ?_
      rintro e w' ⟨rfl, rfl⟩
      clear HH
      go_wp2_with fail
      go_round
      case rel => exact ⟨1, by omega, rfl⟩
      case measure => simp [intOf]
    · have hh : ∀ w : World, Rd w none 0 (fun _ => .int .i64 0) → Calls Try.prog 21 #[.slice none 0 0, .int .i64 3] w fun e w' => e = .returned (.bool false) ∧ w = w' := fun w hr => by
        have h := hasE_any none 0 0 (fun _ => 0) 3 w hr (by unfold maxLen; omega)
        rw [zeros_no 0 3 (by decide)] at h
        exact h
      have HH := Lib.hid hh
      clear hh
      go_wp2_with fail
      refine (HH.out _ (Rd.zero _ _ _)).mono ?_
      rintro e w' ⟨rfl, rfl⟩
      clear HH
      go_wp2_with fail
      go_round
      case rel => exact ⟨2, by omega, rfl⟩
      case measure => simp [intOf]
    · go_wp2_with fail
      go_ret
      exact ⟨rfl, ((((Below.refl _ _).alloc (Nat.le_refl _) _).alloc (by simp) _).alloc (by simp; omega) _).alloc (by simp; omega) _⟩
set_option maxRecDepth 100000 in
set_option maxHeartbeats 1000000 in
theorem wrong2_any (b ib : Nat) (W : World) (h : FL W b ib) :
    Calls Try.prog 17 #[.slice (some ⟨b, 0, none⟩) 5 5, .int .i64 2] W fun e w' => e = .returned (.int .i64 0) ∧ Below W.heap.size W w' := by
  have HF := Lib.hid h
  have lb := HF.out.row.lt
  have c0 : W.cell? ⟨b, 12, none⟩ = some (.int .i64 3) := HF.out.at_ 12 (by omega)
  have c1 : W.cell? ⟨b, 13, none⟩ = some (.int .i64 3) := HF.out.at_ 13 (by omega)
  have c2 : W.cell? ⟨b, 14, none⟩ = some (.int .i64 2) := HF.out.at_ 14 (by omega)
  have c3 : W.cell? ⟨b, 15, none⟩ = some (.int .i64 0) := HF.out.at_ 15 (by omega)
  have c4 : W.cell? ⟨b, 16, none⟩ = some (.int .i64 0) := HF.out.at_ 16 (by omega)
  have c5 : W.cell? ⟨b, 17, none⟩ = some (.slice none 0 0) := HF.out.at_ 17 (by omega)
  clear h
  go_enter Try.func17, Try.ntmps17
  go_wp2_with fail
  go_loop [133] (fun s133 => ∃ k : Nat, k ≤ 2 ∧ s133 = .int .i64 (k : Nat)) (fun s133 => 2 - (intOf s133).toNat)
  case atStart => exact ⟨0, by omega, rfl⟩
  case round =>
    obtain ⟨k, hk, rfl⟩ := hrel
    have h3 : k = 0 ∨ k = 1 ∨ k = 2 := by omega
    rcases h3 with rfl | rfl | rfl
    · have hh : ∀ w : World, Rd w none 0 (fun _ => .int .i64 0) → Calls Try.prog 21 #[.slice none 0 0, .int .i64 2] w fun e w' => e = .returned (.bool false) ∧ w = w' := fun w hr => by
        have h := hasE_any none 0 0 (fun _ => 0) 2 w hr (by unfold maxLen; omega)
        rw [zeros_no 0 2 (by decide)] at h
        exact h
      have HH := Lib.hid hh
      clear hh
      go_wp2_with fail
      refine (HH.out _ (Rd.zero _ _ _)).mono ?_
      rintro e w' ⟨rfl, rfl⟩
      clear HH
      go_wp2_with fail
      go_round
      case rel => exact ⟨1, by omega, rfl⟩
      case measure => simp [intOf]
    · have hh : ∀ w : World, Rd w none 0 (fun _ => .int .i64 0) → Calls Try.prog 21 #[.slice none 0 0, .int .i64 3] w fun e w' => e = .returned (.bool false) ∧ w = w' := fun w hr => by
        have h := hasE_any none 0 0 (fun _ => 0) 3 w hr (by unfold maxLen; omega)
        rw [zeros_no 0 3 (by decide)] at h
        exact h
      have HH := Lib.hid hh
      clear hh
      go_wp2_with fail
      refine (HH.out _ (Rd.zero _ _ _)).mono ?_
      rintro e w' ⟨rfl, rfl⟩
      clear HH
      go_wp2_with fail
      go_round
      case rel => exact ⟨2, by omega, rfl⟩
      case measure => simp [intOf]
    · go_wp2_with fail
      go_ret
      exact ⟨rfl, ((((Below.refl _ _).alloc (Nat.le_refl _) _).alloc (by simp) _).alloc (by simp; omega) _).alloc (by simp; omega) _⟩
set_option maxRecDepth 100000 in
set_option maxHeartbeats 4000000 in
theorem wrong3_any (b ib : Nat) (W : World) (h : FL W b ib) :
    Calls Try.prog 17 #[.slice (some ⟨b, 0, none⟩) 5 5, .int .i64 3] W fun e w' => e = .returned (.int .i64 0) ∧ Below W.heap.size W w' := by
  have HF := Lib.hid h
  have lb := HF.out.row.lt
  have lib := HF.out.into.lt
  have c0 : W.cell? ⟨b, 18, none⟩ = some (.int .i64 4) := HF.out.at_ 18 (by omega)
  have c1 : W.cell? ⟨b, 19, none⟩ = some (.int .i64 3) := HF.out.at_ 19 (by omega)
  have c2 : W.cell? ⟨b, 20, none⟩ = some (.int .i64 0) := HF.out.at_ 20 (by omega)
  have c3 : W.cell? ⟨b, 21, none⟩ = some (.int .i64 1) := HF.out.at_ 21 (by omega)
  have c4 : W.cell? ⟨b, 22, none⟩ = some (.int .i64 0) := HF.out.at_ 22 (by omega)
  have c5 : W.cell? ⟨b, 23, none⟩ = some (.slice (some ⟨ib, 0, none⟩) 1 1) := HF.out.at_ 23 (by omega)
  obtain ⟨x, hx⟩ : ∃ x, x = W.heap.size := ⟨_, rfl⟩
  obtain ⟨W3, hW3⟩ : ∃ W3, W3 = ((W.alloc (.cells #[.slice (some ⟨b, 0, none⟩) 5 5] 30)).alloc (.cells #[.int .i64 3] 3)).alloc (.cells #[.int .i64 4, .int .i64 3, .int .i64 0, .int .i64 1, .int .i64 0, .slice (some ⟨ib, 0, none⟩) 1 1] 29) := ⟨_, rfl⟩
  have hb3 : Below W.heap.size W W3 := by rw [hW3]; exact (((Below.refl _ _).alloc (Nat.le_refl _) _).alloc (by simp) _).alloc (by simp; omega) _
  have hs3 : W3.heap.size = x + 3 := by rw [hW3, hx]; simp [go_sem]
  have kl : W3.cell? ⟨x, 0, none⟩ = some (.slice (some ⟨b, 0, none⟩) 5 5) := by rw [hW3, hx]; simp [go_sem]
  have ki : W3.cell? ⟨x + 1, 0, none⟩ = some (.int .i64 3) := by rw [hW3, hx]; simp [go_sem]
  have d0 : W3.cell? ⟨x + 1 + 1, 0, none⟩ = some (.int .i64 4) := by rw [hW3, hx]; simp [go_sem]
  have d1 : W3.cell? ⟨x + 1 + 1, 1, none⟩ = some (.int .i64 3) := by rw [hW3, hx]; simp [go_sem]
  have d2 : W3.cell? ⟨x + 1 + 1, 2, none⟩ = some (.int .i64 0) := by rw [hW3, hx]; simp [go_sem]
  have d3 : W3.cell? ⟨x + 1 + 1, 3, none⟩ = some (.int .i64 1) := by rw [hW3, hx]; simp [go_sem]
  have d4 : W3.cell? ⟨x + 1 + 1, 4, none⟩ = some (.int .i64 0) := by rw [hW3, hx]; simp [go_sem]
  have d5 : W3.cell? ⟨x + 1 + 1, 5, none⟩ = some (.slice (some ⟨ib, 0, none⟩) 1 1) := by rw [hW3, hx]; simp [go_sem]
  have hf3 := h.below hb3
  have HW3 := Lib.hid hW3
  have HB3 := Lib.hid hb3
  have HS3 := Lib.hid hs3
  have HX := Lib.hid hx
  have HF3 := Lib.hid hf3
  have l0 : x < W3.heap.size := by omega
  have l1 : x + 1 < W3.heap.size := by omega
  have l2 : x + 1 + 1 < W3.heap.size := by omega
  clear h hW3 hb3 hs3 hx hf3
  go_enter Try.func17, Try.ntmps17
  go_wp2_with fail
  rw [← HX.out, ← HW3.out]
  refine (there_any 3 1 1 b (x + 1) x 5 5 7 W3 (by omega) ki kl (by omega) (by omega) rfl (HF3.out.at_ 7 (by omega))).mono ?_
  rintro e w' ⟨rfl, rfl⟩
  have HB0 : Hid (Below W3.heap.size W3 W3) := Lib.hid (Below.refl _ _)
  have HO0 : Hid (Own W3 W3.heap.size 22 1 none 0 0 0 (fun _ => .int .i64 0)) := Lib.hid (Own.nil _ _ _ _ _)
  obtain ⟨WA, hWA⟩ : ∃ WA, WA = W3.alloc (.cells #[.int .i64 0] 22) := ⟨_, rfl⟩
  have hbA : Below W3.heap.size W3 WA := by rw [hWA]; exact (Below.refl _ _).alloc (Nat.le_refl _) _
  have HBA := Lib.hid (HB0.out.trans (hbA.mono HB0.out.size))
  have HOA := Lib.hid (HO0.out.below hbA)
  have HRA : Hid (Rd WA (some ⟨W3.heap.size, 0, none⟩) 1 (fun _ => .int .i64 0)) := Lib.hid (by
    rw [hWA]
    exact Rd.of_row ((World.rowIs_alloc W3 #[.int .i64 0] 22 (fun _ => .int .i64 0) (fun i hi => by
      have : i = 0 := by simp at hi; omega
      rcases this with rfl <;> rfl)) : _) (Nat.le_refl 1))
  have hsA : W3.heap.size ≤ WA.heap.size := HBA.out.size
  have HWA := Lib.hid hWA
  clear hWA hbA
  go_wp2_with (at_builtin; go_must (rw [← HWA.out]; refine wpList_app _ rfl (.tmp 85) (.tmp 93) 49 rfl EE rfl HOA.out rfl (l := 1) rfl HRA.out (fun _ _ => rfl) (by unfold maxLen; omega) (by omega) hsA 1 1 rfl rfl ?_); intro A5 n5 w5 hown hgr hat hb5; have HO5 : Hid (Own w5 W3.heap.size 22 1 A5 1 n5 1 (fun _ => .int .i64 0)) := Lib.hid (hown.congr fun q _ => by unfold cat; split <;> rfl); have HB5 := Lib.hid (HBA.out.trans hb5); clear hown hgr hat hb5; have d55 := (HB5.out.cell (p := ⟨x + 1 + 1, 5, none⟩) l2).trans d5)
  have HKEEP : Hid (∀ W', Below W3.heap.size W3 W' → (W'.cell? ⟨x, 0, none⟩ = some (.slice (some ⟨b, 0, none⟩) 5 5) ∧ W'.cell? ⟨x + 1, 0, none⟩ = some (.int .i64 3)) ∧ (W'.cell? ⟨x + 1 + 1, 0, none⟩ = some (.int .i64 4) ∧ W'.cell? ⟨x + 1 + 1, 1, none⟩ = some (.int .i64 3)) ∧ W'.cell? ⟨ib, 0, none⟩ = some (.int .i64 2)) := Lib.hid (fun W' hW => ⟨⟨(hW.cell (p := ⟨x, 0, none⟩) l0).trans kl, (hW.cell (p := ⟨x + 1, 0, none⟩) l1).trans ki⟩, ⟨(hW.cell (p := ⟨x + 1 + 1, 0, none⟩) l2).trans d0, (hW.cell (p := ⟨x + 1 + 1, 1, none⟩) l2).trans d1⟩, (HF3.out.below hW).into.cell (i := 0) (by omega)⟩)
  clear kl ki d0 d1 d2 d3 d4 d5 d55 c0 c1 c2 c3 c4 c5 HBA HOA HRA HWA HB0 HO0
  go_loopw [8, 98] (fun s8 s98 wr => ∃ (k m c' : Nat) (kz : Int) (A' : Option Addr), k ≤ 1 ∧ m = k + 1 ∧ kz = (k : Int) ∧ s98 = .int .i64 kz ∧ s8 = .slice A' m c' ∧ Hid (Own wr W3.heap.size 22 1 A' m c' m (fun _ => .int .i64 0)) ∧ Hid (Below W3.heap.size W3 wr)) (fun _ s98 _ => 1 - (intOf s98).toNat)
  case atStart => exact ⟨0, 1, n5, 0, A5, by omega, rfl, rfl, rfl, rfl, HO5, HB5⟩
  case round =>
    clear HO5 HB5
    obtain ⟨wo, rfl⟩ : ∃ wo : World, wo = wr := ⟨_, rfl⟩
    obtain ⟨k, m, c', kz, A', hk, hm, hkz, rfl, rfl, HO, HB⟩ := hrel
    have hk01 : k = 0 ∨ k = 1 := by omega
    obtain ⟨⟨kl, ki⟩, ⟨d0, d1⟩, kib⟩ := HKEEP.out wo HB.out
    rcases hk01 with rfl | rfl
    · obtain rfl : m = 1 := by omega
      obtain rfl : kz = 0 := by omega
      clear hm hkz
      go_wp2_with fail
      refine (there_any 3 2 3 b (x + 1) x 5 5 13 wo (by omega) ki kl (by omega) (by omega) rfl ((HF3.out.below HB.out).at_ 13 (by omega))).mono ?_
      rintro e w' ⟨rfl, rfl⟩
      obtain ⟨WA, hWA⟩ : ∃ WA, WA = wo.alloc (.cells #[.int .i64 0] 22) := ⟨_, rfl⟩
      have hbA : Below wo.heap.size wo WA := by rw [hWA]; exact (Below.refl _ _).alloc (Nat.le_refl _) _
      have HBA := Lib.hid (HB.out.trans (hbA.mono HB.out.size))
      have HOA := Lib.hid (HO.out.below hbA)
      have HRA : Hid (Rd WA (some ⟨wo.heap.size, 0, none⟩) 1 (fun _ => .int .i64 0)) := Lib.hid (by
        rw [hWA]
        exact Rd.of_row ((World.rowIs_alloc wo #[.int .i64 0] 22 (fun _ => .int .i64 0) (fun i hi => by
          have : i = 0 := by simp at hi; omega
          rcases this with rfl <;> rfl)) : _) (Nat.le_refl 1))
      have hsA : W3.heap.size ≤ WA.heap.size := HBA.out.size
      have HWA := Lib.hid hWA
      clear hWA hbA
      go_wp2_with (at_builtin; go_must (rw [← HWA.out]; refine wpList_app _ rfl (.tmp 102) (.tmp 108) 49 rfl EE rfl HOA.out rfl (l := 1) rfl HRA.out (fun _ _ => rfl) (by unfold maxLen; omega) (by omega) hsA 2 2 rfl rfl ?_); intro A5 n5 w5 hown hgr hat hb5; have HO5 : Hid (Own w5 W3.heap.size 22 1 A5 2 n5 2 (fun _ => .int .i64 0)) := Lib.hid (hown.congr fun q _ => by unfold cat; split <;> rfl); have HB5 := Lib.hid (HBA.out.trans hb5); clear hown hgr hat hb5)
      go_roundw
      case rel => exact ⟨1, 2, n5, 1, A5, by omega, rfl, rfl, rfl, rfl, HO5, HB5⟩
      case measure => simp [intOf]
    · obtain rfl : m = 2 := by omega
      obtain rfl : kz = 1 := by omega
      clear hm hkz
      go_wp2_with fail
      obtain ⟨WZ, hWZ⟩ : ∃ W, W = wo.alloc (.cells #[.int .i64 2, .int .i64 3] 22) := ⟨_, rfl⟩
      have hbZ : Below wo.heap.size wo WZ := by rw [hWZ]; exact (Below.refl _ _).alloc (Nat.le_refl _) _
      have y0 : WZ.cell? ⟨wo.heap.size, 0, none⟩ = some (.int .i64 2) := by rw [hWZ]; simp [go_sem]
      have y1 : WZ.cell? ⟨wo.heap.size, 1, none⟩ = some (.int .i64 3) := by rw [hWZ]; simp [go_sem]
      have lz : wo.heap.size < WZ.heap.size := by rw [hWZ]; simp
      have HRZ := Lib.hid (HO.out.rd.below hbZ)
      have HBZ := Lib.hid (HB3.out.trans ((HB.out.trans (hbZ.mono HB.out.size)).mono HB3.out.size))
      rw [← hWZ]
      clear hWZ hbZ
      go_loopw [133] (fun s133 wr => ∃ k : Nat, k ≤ 2 ∧ s133 = .int .i64 (k : Nat) ∧ Hid (Below WZ.heap.size WZ wr)) (fun s133 _ => 2 - (intOf s133).toNat)
      case atStart => exact ⟨0, by omega, rfl, Lib.hid (Below.refl _ _)⟩
      case round =>
        obtain ⟨wo2, hwo2⟩ : ∃ wo2 : World, wo2 = wr := ⟨_, rfl⟩
        subst hwo2
        obtain ⟨k, hk, rfl, HWR⟩ := hrel
        have y0' := (HWR.out.cell (p := ⟨wo.heap.size, 0, none⟩) lz).trans y0
        have y1' := (HWR.out.cell (p := ⟨wo.heap.size, 1, none⟩) lz).trans y1
        have h3 : k = 0 ∨ k = 1 ∨ k = 2 := by omega
        rcases h3 with rfl | rfl | rfl
        · have hh : ∀ w : World, Rd w A' 2 (fun _ => .int .i64 0) → Calls Try.prog 21 #[.slice A' 2 c', .int .i64 2] w fun e w' => e = .returned (.bool false) ∧ w = w' := fun w hr => by
            have h := hasE_any A' 2 c' (fun _ => 0) 2 w hr (by unfold maxLen; omega)
            rw [zeros_no 2 2 (by decide)] at h
            exact h
          have HH := Lib.hid hh
          clear hh
          go_wp2_with fail
          refine (HH.out _ (HRZ.out.below HWR.out)).mono ?_
          rintro e w' ⟨rfl, rfl⟩
          clear HH
          go_wp2_with fail
          go_roundw
          case rel => exact ⟨1, by omega, rfl, HWR⟩
          case measure => simp [intOf]
        · have hh : ∀ w : World, Rd w A' 2 (fun _ => .int .i64 0) → Calls Try.prog 21 #[.slice A' 2 c', .int .i64 3] w fun e w' => e = .returned (.bool false) ∧ w = w' := fun w hr => by
            have h := hasE_any A' 2 c' (fun _ => 0) 3 w hr (by unfold maxLen; omega)
            rw [zeros_no 2 3 (by decide)] at h
            exact h
          have HH := Lib.hid hh
          clear hh
          go_wp2_with fail
          refine (HH.out _ (HRZ.out.below HWR.out)).mono ?_
          rintro e w' ⟨rfl, rfl⟩
          clear HH
          go_wp2_with fail
          go_roundw
          case rel => exact ⟨2, by omega, rfl, HWR⟩
          case measure => simp [intOf]
        · go_wp2_with fail
          go_ret
          exact ⟨rfl, HBZ.out.trans (HWR.out.mono HBZ.out.size)⟩
set_option maxRecDepth 100000 in
set_option maxHeartbeats 4000000 in
theorem wrong4_any (b ib : Nat) (W : World) (h : FL W b ib) :
    Calls Try.prog 17 #[.slice (some ⟨b, 0, none⟩) 5 5, .int .i64 4] W fun e w' => e = .returned (.int .i64 0) ∧ Below W.heap.size W w' := by
  have HF := Lib.hid h
  have lb := HF.out.row.lt
  have lib := HF.out.into.lt
  have c0 : W.cell? ⟨b, 24, none⟩ = some (.int .i64 5) := HF.out.at_ 24 (by omega)
  have c1 : W.cell? ⟨b, 25, none⟩ = some (.int .i64 2) := HF.out.at_ 25 (by omega)
  have c2 : W.cell? ⟨b, 26, none⟩ = some (.int .i64 0) := HF.out.at_ 26 (by omega)
  have c3 : W.cell? ⟨b, 27, none⟩ = some (.int .i64 0) := HF.out.at_ 27 (by omega)
  have c4 : W.cell? ⟨b, 28, none⟩ = some (.int .i64 3) := HF.out.at_ 28 (by omega)
  have c5 : W.cell? ⟨b, 29, none⟩ = some (.slice none 0 0) := HF.out.at_ 29 (by omega)
  obtain ⟨x, hx⟩ : ∃ x, x = W.heap.size := ⟨_, rfl⟩
  obtain ⟨W3, hW3⟩ : ∃ W3, W3 = ((W.alloc (.cells #[.slice (some ⟨b, 0, none⟩) 5 5] 30)).alloc (.cells #[.int .i64 4] 3)).alloc (.cells #[.int .i64 5, .int .i64 2, .int .i64 0, .int .i64 0, .int .i64 3, .slice none 0 0] 29) := ⟨_, rfl⟩
  have hb3 : Below W.heap.size W W3 := by rw [hW3]; exact (((Below.refl _ _).alloc (Nat.le_refl _) _).alloc (by simp) _).alloc (by simp; omega) _
  have hs3 : W3.heap.size = x + 3 := by rw [hW3, hx]; simp [go_sem]
  have kl : W3.cell? ⟨x, 0, none⟩ = some (.slice (some ⟨b, 0, none⟩) 5 5) := by rw [hW3, hx]; simp [go_sem]
  have ki : W3.cell? ⟨x + 1, 0, none⟩ = some (.int .i64 4) := by rw [hW3, hx]; simp [go_sem]
  have d0 : W3.cell? ⟨x + 1 + 1, 0, none⟩ = some (.int .i64 5) := by rw [hW3, hx]; simp [go_sem]
  have d1 : W3.cell? ⟨x + 1 + 1, 1, none⟩ = some (.int .i64 2) := by rw [hW3, hx]; simp [go_sem]
  have d2 : W3.cell? ⟨x + 1 + 1, 2, none⟩ = some (.int .i64 0) := by rw [hW3, hx]; simp [go_sem]
  have d3 : W3.cell? ⟨x + 1 + 1, 3, none⟩ = some (.int .i64 0) := by rw [hW3, hx]; simp [go_sem]
  have d4 : W3.cell? ⟨x + 1 + 1, 4, none⟩ = some (.int .i64 3) := by rw [hW3, hx]; simp [go_sem]
  have d5 : W3.cell? ⟨x + 1 + 1, 5, none⟩ = some (.slice none 0 0) := by rw [hW3, hx]; simp [go_sem]
  have hf3 := h.below hb3
  have HW3 := Lib.hid hW3
  have HB3 := Lib.hid hb3
  have HS3 := Lib.hid hs3
  have HX := Lib.hid hx
  have HF3 := Lib.hid hf3
  have l0 : x < W3.heap.size := by omega
  have l1 : x + 1 < W3.heap.size := by omega
  have l2 : x + 1 + 1 < W3.heap.size := by omega
  clear h hW3 hb3 hs3 hx hf3
  go_enter Try.func17, Try.ntmps17
  go_wp2_with fail
  rw [← HX.out, ← HW3.out]
  have HS0 : Hid (W3.drew.cell? ⟨x + 1 + 1, 3, none⟩ = some (.int .i64 0) ∧ W3.drew.cell? ⟨x + 1 + 1, 1, none⟩ = some (.int .i64 2) ∧ W3.drew.cell? ⟨x + 1 + 1, 4, none⟩ = some (.int .i64 3)) := Lib.hid ⟨d3, d1, d4⟩
  refine wp_region_any (by kernel_rfl) ?_
  change wpAny _ _ _ _ _ _ _ (World.drew _)
  refine any_of_T (S := fun W => W.cell? ⟨x + 1 + 1, 3, none⟩ = some (.int .i64 0) ∧ W.cell? ⟨x + 1 + 1, 1, none⟩ = some (.int .i64 2) ∧ W.cell? ⟨x + 1 + 1, 4, none⟩ = some (.int .i64 3)) (c := 14) _ _ _ _ ?_
  refine anyT_takeY (i := 0) (v := ?_) rfl (by decide +kernel) (by decide +kernel) (by decide +kernel) (by decide +kernel) (fun _ _ _ h => h) (Or.inl ⟨by rfl, ?_⟩) HS0.out ?_
  rotate_left 1
  · intro w _; go_simp; with_reducible rfl
  simp only [Act.put, List.getElem_toArray, List.getElem_cons_zero, List.getElem_cons_succ, List.setIfInBounds_toArray, List.set_cons_zero, List.set_cons_succ]
  refine anyT_takeY (i := 1) (v := ?_) rfl (by decide +kernel) (by decide +kernel) (by decide +kernel) (by decide +kernel) (fun _ _ _ h => h) (Or.inl ⟨by rfl, ?_⟩) HS0.out ?_
  rotate_left 1
  · intro w _; go_simp; with_reducible rfl
  simp only [Act.put, List.getElem_toArray, List.getElem_cons_zero, List.getElem_cons_succ, List.setIfInBounds_toArray, List.set_cons_zero, List.set_cons_succ]
  refine anyT_takeY (i := 2) (v := ?_) rfl (by decide +kernel) (by decide +kernel) (by decide +kernel) (by decide +kernel) (fun _ _ _ h => h) (Or.inl ⟨by rfl, ?_⟩) HS0.out ?_
  rotate_left 1
  · intro w _; go_simp; with_reducible rfl
  simp only [Act.put, List.getElem_toArray, List.getElem_cons_zero, List.getElem_cons_succ, List.setIfInBounds_toArray, List.set_cons_zero, List.set_cons_succ]
  refine anyT_takeL [7, 14] (i := 3) (v := ?_) rfl (by decide +kernel) (by decide +kernel) (by decide +kernel) (by decide +kernel) (by decide +kernel) (by decide +kernel) (fun _ _ _ h => h) (Or.inl ⟨by rfl, ?_⟩) HS0.out ?_
  rotate_left 1
  · intro w hS; obtain ⟨s0, s1, s2⟩ := hS; go_simp; with_reducible rfl
  simp only [Act.put, List.getElem_toArray, List.getElem_cons_zero, List.getElem_cons_succ, List.setIfInBounds_toArray, List.set_cons_zero, List.set_cons_succ]
  refine anyT_takeY (i := 4) (v := ?_) rfl (by decide +kernel) (by decide +kernel) (by decide +kernel) (by decide +kernel) (fun _ _ _ h => h) (Or.inl ⟨by rfl, ?_⟩) HS0.out ?_
  rotate_left 1
  · intro w _; go_simp; with_reducible rfl
  simp only [Act.put, List.getElem_toArray, List.getElem_cons_zero, List.getElem_cons_succ, List.setIfInBounds_toArray, List.set_cons_zero, List.set_cons_succ]
  refine anyT_takeL [6, 7, 14] (i := 5) (v := ?_) rfl (by decide +kernel) (by decide +kernel) (by decide +kernel) (by decide +kernel) (by decide +kernel) (by decide +kernel) (fun _ _ _ h => h) (Or.inl ⟨by rfl, ?_⟩) HS0.out ?_
  rotate_left 1
  · intro w hS; obtain ⟨s0, s1, s2⟩ := hS; go_simp; with_reducible rfl
  simp only [Act.put, List.getElem_toArray, List.getElem_cons_zero, List.getElem_cons_succ, List.setIfInBounds_toArray, List.set_cons_zero, List.set_cons_succ]
  refine anyT_takeY (i := 6) (v := ?_) rfl (by decide +kernel) (by decide +kernel) (by decide +kernel) (by decide +kernel) (fun _ _ _ h => h) (Or.inl ⟨by rfl, ?_⟩) HS0.out ?_
  rotate_left 1
  · intro w _; go_simp; with_reducible rfl
  simp only [Act.put, List.getElem_toArray, List.getElem_cons_zero, List.getElem_cons_succ, List.setIfInBounds_toArray, List.set_cons_zero, List.set_cons_succ]
  refine anyT_takeY (i := 8) (v := ?_) rfl (by decide +kernel) (by decide +kernel) (by decide +kernel) (by decide +kernel) (fun _ _ _ h => h) (Or.inl ⟨by rfl, ?_⟩) HS0.out ?_
  rotate_left 1
  · intro w _; go_simp; with_reducible rfl
  simp only [Act.put, List.getElem_toArray, List.getElem_cons_zero, List.getElem_cons_succ, List.setIfInBounds_toArray, List.set_cons_zero, List.set_cons_succ]
  refine anyT_takeY (i := 9) (v := ?_) rfl (by decide +kernel) (by decide +kernel) (by decide +kernel) (by decide +kernel) (fun _ _ _ h => h) (Or.inl ⟨by rfl, ?_⟩) HS0.out ?_
  rotate_left 1
  · intro w _; go_simp; with_reducible rfl
  simp only [Act.put, List.getElem_toArray, List.getElem_cons_zero, List.getElem_cons_succ, List.setIfInBounds_toArray, List.set_cons_zero, List.set_cons_succ]
  refine anyT_takeL [14] (i := 10) (v := ?_) rfl (by decide +kernel) (by decide +kernel) (by decide +kernel) (by decide +kernel) (by decide +kernel) (by decide +kernel) (fun _ _ _ h => h) (Or.inl ⟨by rfl, ?_⟩) HS0.out ?_
  rotate_left 1
  · intro w hS; obtain ⟨s0, s1, s2⟩ := hS; go_simp; with_reducible rfl
  simp only [Act.put, List.getElem_toArray, List.getElem_cons_zero, List.getElem_cons_succ, List.setIfInBounds_toArray, List.set_cons_zero, List.set_cons_succ]
  refine anyT_takeY (i := 11) (v := ?_) rfl (by decide +kernel) (by decide +kernel) (by decide +kernel) (by decide +kernel) (fun _ _ _ h => h) (Or.inl ⟨by rfl, ?_⟩) HS0.out ?_
  rotate_left 1
  · intro w _; go_simp; with_reducible rfl
  simp only [Act.put, List.getElem_toArray, List.getElem_cons_zero, List.getElem_cons_succ, List.setIfInBounds_toArray, List.set_cons_zero, List.set_cons_succ]
  refine anyT_takeL [13, 14] (i := 12) (v := ?_) rfl (by decide +kernel) (by decide +kernel) (by decide +kernel) (by decide +kernel) (by decide +kernel) (by decide +kernel) (fun _ _ _ h => h) (Or.inl ⟨by rfl, ?_⟩) HS0.out ?_
  rotate_left 1
  · intro w hS; obtain ⟨s0, s1, s2⟩ := hS; go_simp; with_reducible rfl
  simp only [Act.put, List.getElem_toArray, List.getElem_cons_zero, List.getElem_cons_succ, List.setIfInBounds_toArray, List.set_cons_zero, List.set_cons_succ]
  refine anyT_takeY (i := 13) (v := ?_) rfl (by decide +kernel) (by decide +kernel) (by decide +kernel) (by decide +kernel) (fun _ _ _ h => h) (Or.inl ⟨by rfl, ?_⟩) HS0.out ?_
  rotate_left 1
  · intro w _; go_simp; with_reducible rfl
  simp only [Act.put, List.getElem_toArray, List.getElem_cons_zero, List.getElem_cons_succ, List.setIfInBounds_toArray, List.set_cons_zero, List.set_cons_succ]
  refine anyT_one (i := 7) (by decide +kernel) rfl (fun KK hK => ?_)
  go_simp
  refine (there_any 4 0 1 b (x + 1) x 5 5 1 W3.drew (by omega) ki kl (by omega) (by omega) rfl (HF3.out.at_ 1 (by omega))).mono ?_
  rintro e w' ⟨rfl, rfl⟩
  try go_simp
  refine hK.out _ _ (fun _ => HS0.out) ?_
  clear hK KK
  try simp only [Act.put, List.getElem_toArray, List.getElem_cons_zero, List.getElem_cons_succ, List.setIfInBounds_toArray, List.set_cons_zero, List.set_cons_succ]
  refine anyT_one (i := 14) (by decide +kernel) rfl (fun KK hK => ?_)
  go_simp
  refine (there_any 4 3 3 b (x + 1) x 5 5 19 W3.drew (by omega) ki kl (by omega) (by omega) rfl (HF3.out.at_ 19 (by omega))).mono ?_
  rintro e w' ⟨rfl, rfl⟩
  try go_simp
  refine hK.out _ _ (fun h => absurd h (by decide +kernel)) ?_
  clear hK KK
  try simp only [Act.put, List.getElem_toArray, List.getElem_cons_zero, List.getElem_cons_succ, List.setIfInBounds_toArray, List.set_cons_zero, List.set_cons_succ]
  refine T_of_any _ _ _ _ (by decide +kernel) ?_
  refine wpAny_ready (rs := [15]) (by decide +kernel) (by simp) ?_
  refine AllReady.cons rfl (fun KK hK => ?_) AllReady.nil
  go_simp
  refine hK _ _ ?_
  clear hK KK
  try simp only [Act.put, List.getElem_toArray, List.getElem_cons_zero, List.getElem_cons_succ, List.setIfInBounds_toArray, List.set_cons_zero, List.set_cons_succ]
  obtain ⟨WA, hWA⟩ : ∃ WA, WA = (W3.alloc (.cells #[.int .i64 0, .int .i64 0] 22)).drew := ⟨_, rfl⟩
  have hbA : Below W3.heap.size W3 WA := by rw [hWA]; exact ((Below.refl _ _).alloc (Nat.le_refl _) _).drew
  have HRA : Hid (Rd WA (some ⟨W3.heap.size, 0, none⟩) 2 (fun _ => .int .i64 0)) := Lib.hid (by
    rw [hWA]
    exact (Rd.of_row ((World.rowIs_alloc W3 #[.int .i64 0, .int .i64 0] 22 (fun _ => .int .i64 0) (fun i hi => by
      have : i = 0 ∨ i = 1 := by simp at hi; omega
      rcases this with rfl | rfl <;> rfl)) : _) (Nat.le_refl 2)).drew)
  have HBA := Lib.hid hbA
  rw [← hWA]
  clear hWA hbA
  refine wpAny_ready (rs := [16]) (by decide +kernel) (by simp) ?_
  refine AllReady.cons rfl (fun KK hK => ?_) AllReady.nil
  refine step_app WA rfl (.tmp 114) (.tmp 129) 49 rfl EE rfl (Own.nil WA W3.heap.size 22 1 (fun _ => .int .i64 0)) rfl (l := 2) rfl HRA.out (fun _ _ => rfl) (by unfold maxLen; omega) (by omega) HBA.out.size 2 2 rfl rfl ?_
  intro A5 n5 w5 hown hgr hat hb5
  have HO5 : Hid (Own w5 W3.heap.size 22 1 A5 2 n5 2 (fun _ => .int .i64 0)) := Lib.hid (hown.congr fun q _ => by unfold cat; split <;> rfl)
  have HB5 := Lib.hid (HBA.out.trans hb5)
  clear hown hgr hat hb5 HRA HBA
  refine hK _ _ ?_
  clear hK KK
  try simp only [Act.put, List.getElem_toArray, List.getElem_cons_zero, List.getElem_cons_succ, List.setIfInBounds_toArray, List.set_cons_zero, List.set_cons_succ]
  refine wpAny_take (i := 17) (v := ?_) rfl (by decide +kernel) (by decide +kernel) (by decide +kernel) (fun _ _ _ h => h) (Or.inl ⟨by rfl, ?_⟩) ?_
  rotate_left 1
  · intro w; go_simp; with_reducible rfl
  simp only [Act.put, List.getElem_toArray, List.getElem_cons_zero, List.getElem_cons_succ, List.setIfInBounds_toArray, List.set_cons_zero, List.set_cons_succ]
  refine wpAny_done (by decide +kernel) ?_ _
  obtain ⟨wo, hwo⟩ : ∃ wo, wo = w5 := ⟨_, rfl⟩
  rw [← hwo] at HO5 HB5 ⊢
  clear hwo kl ki d0 d1 d2 d3 d4 d5 c0 c1 c2 c3 c4 c5
  have HO := HO5
  have HB := HB5
  go_wp2_with fail
  obtain ⟨WZ, hWZ⟩ : ∃ W, W = wo.alloc (.cells #[.int .i64 2, .int .i64 3] 22) := ⟨_, rfl⟩
  have hbZ : Below wo.heap.size wo WZ := by rw [hWZ]; exact (Below.refl _ _).alloc (Nat.le_refl _) _
  have y0 : WZ.cell? ⟨wo.heap.size, 0, none⟩ = some (.int .i64 2) := by rw [hWZ]; simp [go_sem]
  have y1 : WZ.cell? ⟨wo.heap.size, 1, none⟩ = some (.int .i64 3) := by rw [hWZ]; simp [go_sem]
  have lz : wo.heap.size < WZ.heap.size := by rw [hWZ]; simp
  have HRZ := Lib.hid (HO.out.rd.below hbZ)
  have HBZ := Lib.hid (HB3.out.trans ((HB.out.trans (hbZ.mono HB.out.size)).mono HB3.out.size))
  rw [← hWZ]
  clear hWZ hbZ
  go_loopw [133] (fun s133 wr => ∃ k : Nat, k ≤ 2 ∧ s133 = .int .i64 (k : Nat) ∧ Hid (Below WZ.heap.size WZ wr)) (fun s133 _ => 2 - (intOf s133).toNat)
  case atStart => exact ⟨0, by omega, rfl, Lib.hid (Below.refl _ _)⟩
  case round =>
    obtain ⟨wo2, hwo2⟩ : ∃ wo2 : World, wo2 = wr := ⟨_, rfl⟩
    subst hwo2
    obtain ⟨k, hk, rfl, HWR⟩ := hrel
    have y0' := (HWR.out.cell (p := ⟨wo.heap.size, 0, none⟩) lz).trans y0
    have y1' := (HWR.out.cell (p := ⟨wo.heap.size, 1, none⟩) lz).trans y1
    have h3 : k = 0 ∨ k = 1 ∨ k = 2 := by omega
    rcases h3 with rfl | rfl | rfl
    · have hh : ∀ w : World, Rd w A5 2 (fun _ => .int .i64 0) → Calls Try.prog 21 #[.slice A5 2 n5, .int .i64 2] w fun e w' => e = .returned (.bool false) ∧ w = w' := fun w hr => by
        have h := hasE_any A5 2 n5 (fun _ => 0) 2 w hr (by unfold maxLen; omega)
        rw [zeros_no 2 2 (by decide)] at h
        exact h
      have HH := Lib.hid hh
      clear hh
      go_wp2_with fail
      refine (HH.out _ (HRZ.out.below HWR.out)).mono ?_
      rintro e w' ⟨rfl, rfl⟩
      clear HH
      go_wp2_with fail
      go_roundw
      case rel => exact ⟨1, by omega, rfl, HWR⟩
      case measure => simp [intOf]
    · have hh : ∀ w : World, Rd w A5 2 (fun _ => .int .i64 0) → Calls Try.prog 21 #[.slice A5 2 n5, .int .i64 3] w fun e w' => e = .returned (.bool false) ∧ w = w' := fun w hr => by
        have h := hasE_any A5 2 n5 (fun _ => 0) 3 w hr (by unfold maxLen; omega)
        rw [zeros_no 2 3 (by decide)] at h
        exact h
      have HH := Lib.hid hh
      clear hh
      go_wp2_with fail
      refine (HH.out _ (HRZ.out.below HWR.out)).mono ?_
      rintro e w' ⟨rfl, rfl⟩
      clear HH
      go_wp2_with fail
      go_roundw
      case rel => exact ⟨2, by omega, rfl, HWR⟩
      case measure => simp [intOf]
    · go_wp2_with fail
      go_ret
      exact ⟨rfl, HBZ.out.trans (HWR.out.mono HBZ.out.size)⟩
end Go.Proofs.Ytjnoolfdlgocjaa
