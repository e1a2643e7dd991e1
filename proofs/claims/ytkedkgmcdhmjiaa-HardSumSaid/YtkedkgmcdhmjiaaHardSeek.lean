/- hard.Free and hard.Cover: is there a list of dots as asked for. Condition: the list of lines reads as a function. -/
import Derived.Test.YtkedkgmcdhmjiaaHardFree
namespace Go.Proofs.Ytkedkgmcdhmjiaa
open Go.ChangeShapes Go.WideShapes Go.ChangeAt Go.RowKit
set_option linter.unusedVariables false
set_option linter.unusedSimpArgs false
def SeekP (may : Nat → (Nat → Nat) → Nat → Bool) (good : Nat → (Nat → Nat) → Bool) (n : Int) (P : Nat → Int) (m : Nat) (k : Int) (e : Ending) : Prop :=
  (∃ x : Int, gphE n P m k = x ∧ (x != 0) = true ∧ e = .returned (.tuple #[.slice none 0 0, .int .i64 x])) ∨
  (∃ N K : Nat, n = N ∧ k = K ∧ gphE n P m k = 0 ∧ Fnd N may good K 0 (fun _ => 0) ∧ ∃ A' c', e = .returned (.tuple #[.slice A' K c', .int .i64 0])) ∨
  (∃ N K : Nat, n = N ∧ k = K ∧ gphE n P m k = 0 ∧ ¬ Fnd N may good K 0 (fun _ => 0) ∧ e = .returned (.tuple #[.slice none 0 0, .int .i64 5]))
set_option maxRecDepth 100000 in
set_option maxHeartbeats 1000000 in
theorem free_any (n : Int) (A : Option Addr) (m c : Nat) (P : Nat → Int) (k : Int) (w : World) (h : Rd w A (m * 2) (fun i => .int .i64 (P i))) (hm : m ≤ maxLen) :
    Calls Try.prog 6 #[.int .i64 n, .slice A m c, .int .i64 k] w fun e w' => SeekP (mayF P m) (fun _ _ => true) n P m k e ∧ Below w.heap.size w w' := by
  obtain ⟨W1, hW1⟩ : ∃ W1, W1 = w.alloc (.cells #[.slice A m c] 22) := ⟨_, rfl⟩
  have hb1 : Below w.heap.size w W1 := by rw [hW1]; exact (Below.refl _ _).alloc (Nat.le_refl _) _
  have h1 := h.below hb1
  have hc1 : W1.cell? ⟨w.heap.size, 0, none⟩ = some (.slice A m c) := by rw [hW1]; simp
  have hs1 : W1.heap.size = w.heap.size + 1 := by rw [hW1]; simp
  have HM := Lib.hid hm
  have HW1 := Lib.hid hW1
  have HB1 := Lib.hid hb1
  have H1 := Lib.hid h1
  have HS1 := Lib.hid hs1
  have HC1 := Lib.hid hc1
  clear hm h hW1 hb1 h1 hs1 hc1
  by_cases hz : gphE n P m k = 0
  · obtain ⟨n0, n16, m200, hin, hne, k0, kn⟩ := gphE_ok hz
    obtain ⟨N, rfl⟩ : ∃ N : Nat, n = N := Int.eq_ofNat_of_zero_le n0
    obtain ⟨K, rfl⟩ : ∃ K : Nat, k = K := Int.eq_ofNat_of_zero_le k0
    have HZ := Lib.hid hz
    clear hz hin hne
    go_enter Try.func6, Try.ntmps6
    go_wp2_with fail
    rw [← HW1.out]
    refine (graph_any ((N : Nat) : Int) A m c P ((K : Nat) : Int) W1 H1.out HM.out).mono ?_
    rintro e w2 ⟨rfl, hb2⟩
    rw [HZ.out]
    have HC2 : Hid (w2.cell? ⟨w.heap.size, 0, none⟩ = some (.slice A m c)) := Lib.hid (by rw [hb2.cell (p := ⟨w.heap.size, 0, none⟩) (by rw [HS1.out]; exact Nat.lt_succ_self _)]; exact HC1.out)
    have HS2 : Hid (w.heap.size < w2.heap.size) := Lib.hid (by have := hb2.size; have := HS1.out; omega)
    have H2 := Lib.hid (H1.out.below hb2)
    have HB2 := Lib.hid (HB1.out.trans (hb2.mono HB1.out.size))
    clear hb2
    go_wp2_with fail
    have hok1 : MayOk 15 #[.pointer (some ⟨w.heap.size, 0, none⟩)] (mayF P m) w2 := fun W hW A' m' c' g i h16 _ hr => free1_any A' A m c m' c' w.heap.size i P g W HM.out h16 (by rw [hW.cell (p := ⟨w.heap.size, 0, none⟩) HS2.out]; exact HC2.out) (Nat.lt_of_lt_of_le HS2.out hW.size) (H2.out.below hW) hr
    have hok2 : GoodOk 20 #[] (fun _ _ => true) w2 := fun W hW A' m' c' g h16 hr => free2_any A' m' c' W
    refine (search_any N (by omega) 15 20 #[.pointer (some ⟨w.heap.size, 0, none⟩)] #[] (mayF P m) (fun _ _ => true) (fun _ _ => rfl) (fun _ _ => rfl) K none 0 0 (fun _ => 0) w2 (by omega) (fun q hq => absurd hq (Nat.not_lt_zero _)) (fun _ => ⟨rfl, rfl⟩) (Nat.le_refl _) (Nat.zero_le _) hok1 hok2 (Rd.zero _ _ _)).mono ?_
    rintro e w3 ⟨hs, hb3⟩
    have HB3 := Lib.hid (HB2.out.trans (hb3.mono HB2.out.size))
    clear hb3 hok1 hok2
    rcases hs with ⟨hf, A4, c4, rfl⟩ | ⟨hf, v, rfl⟩
    · have HF := Lib.hid hf
      rw [Nat.zero_add]
      clear hf
      go_wp2_with fail
      go_ret2
      exact ⟨.inr (.inl ⟨N, K, rfl, rfl, HZ.out, HF.out, A4, c4, rfl⟩), HB3.out⟩
    · have HF := Lib.hid hf
      clear hf
      go_wp2_with fail
      go_ret2
      exact ⟨.inr (.inr ⟨N, K, rfl, rfl, HZ.out, HF.out, rfl⟩), HB3.out⟩
  · obtain ⟨x, hx⟩ : ∃ x, x = gphE n P m k := ⟨_, rfl⟩
    have hxb : (x != 0) = true := by rw [bne_iff_ne, hx]; exact hz
    have HX := Lib.hid hx
    have HXB := Lib.hid hxb
    clear hz hx
    go_enter Try.func6, Try.ntmps6
    go_wp2_with fail
    rw [← HW1.out]
    refine (graph_any n A m c P k W1 H1.out HM.out).mono ?_
    rintro e w2 ⟨rfl, hb2⟩
    rw [← HX.out]
    have HB2 := Lib.hid (HB1.out.trans (hb2.mono HB1.out.size))
    clear hb2
    go_wp2_with fail
    go_ret2
    exact ⟨.inl ⟨x, HX.out.symm, HXB.out, rfl⟩, HB2.out⟩
set_option maxRecDepth 100000 in
set_option maxHeartbeats 1000000 in
theorem cover_any (n : Int) (A : Option Addr) (m c : Nat) (P : Nat → Int) (k : Int) (w : World) (h : Rd w A (m * 2) (fun i => .int .i64 (P i))) (hm : m ≤ maxLen) :
    Calls Try.prog 8 #[.int .i64 n, .slice A m c, .int .i64 k] w fun e w' => SeekP (fun _ _ _ => true) (goodC P m) n P m k e ∧ Below w.heap.size w w' := by
  obtain ⟨W1, hW1⟩ : ∃ W1, W1 = w.alloc (.cells #[.slice A m c] 22) := ⟨_, rfl⟩
  have hb1 : Below w.heap.size w W1 := by rw [hW1]; exact (Below.refl _ _).alloc (Nat.le_refl _) _
  have h1 := h.below hb1
  have hc1 : W1.cell? ⟨w.heap.size, 0, none⟩ = some (.slice A m c) := by rw [hW1]; simp
  have hs1 : W1.heap.size = w.heap.size + 1 := by rw [hW1]; simp
  have HM := Lib.hid hm
  have HW1 := Lib.hid hW1
  have HB1 := Lib.hid hb1
  have H1 := Lib.hid h1
  have HS1 := Lib.hid hs1
  have HC1 := Lib.hid hc1
  clear hm h hW1 hb1 h1 hs1 hc1
  by_cases hz : gphE n P m k = 0
  · obtain ⟨n0, n16, m200, hin, hne, k0, kn⟩ := gphE_ok hz
    obtain ⟨N, rfl⟩ : ∃ N : Nat, n = N := Int.eq_ofNat_of_zero_le n0
    obtain ⟨K, rfl⟩ : ∃ K : Nat, k = K := Int.eq_ofNat_of_zero_le k0
    have HZ := Lib.hid hz
    clear hz hin hne
    go_enter Try.func8, Try.ntmps8
    go_wp2_with fail
    rw [← HW1.out]
    refine (graph_any ((N : Nat) : Int) A m c P ((K : Nat) : Int) W1 H1.out HM.out).mono ?_
    rintro e w2 ⟨rfl, hb2⟩
    rw [HZ.out]
    have HC2 : Hid (w2.cell? ⟨w.heap.size, 0, none⟩ = some (.slice A m c)) := Lib.hid (by rw [hb2.cell (p := ⟨w.heap.size, 0, none⟩) (by rw [HS1.out]; exact Nat.lt_succ_self _)]; exact HC1.out)
    have HS2 : Hid (w.heap.size < w2.heap.size) := Lib.hid (by have := hb2.size; have := HS1.out; omega)
    have H2 := Lib.hid (H1.out.below hb2)
    have HB2 := Lib.hid (HB1.out.trans (hb2.mono HB1.out.size))
    clear hb2
    go_wp2_with fail
    have hok1 : MayOk 25 #[] (fun _ _ _ => true) w2 := fun W hW A' m' c' g i h16 _ hr => cover2_any A' m' c' _ W
    have hok2 : GoodOk 23 #[.pointer (some ⟨w.heap.size, 0, none⟩)] (goodC P m) w2 := fun W hW A' m' c' g h16 hr => cover1_any A' A m c m' c' w.heap.size P g W HM.out h16 (by rw [hW.cell (p := ⟨w.heap.size, 0, none⟩) HS2.out]; exact HC2.out) (Nat.lt_of_lt_of_le HS2.out hW.size) (H2.out.below hW) hr
    refine (search_any N (by omega) 25 23 #[] #[.pointer (some ⟨w.heap.size, 0, none⟩)] (fun _ _ _ => true) (goodC P m) (fun _ _ => rfl) (fun _ _ => rfl) K none 0 0 (fun _ => 0) w2 (by omega) (fun q hq => absurd hq (Nat.not_lt_zero _)) (fun _ => ⟨rfl, rfl⟩) (Nat.le_refl _) (Nat.zero_le _) hok1 hok2 (Rd.zero _ _ _)).mono ?_
    rintro e w3 ⟨hs, hb3⟩
    have HB3 := Lib.hid (HB2.out.trans (hb3.mono HB2.out.size))
    clear hb3 hok1 hok2
    rcases hs with ⟨hf, A4, c4, rfl⟩ | ⟨hf, v, rfl⟩
    · have HF := Lib.hid hf
      rw [Nat.zero_add]
      clear hf
      go_wp2_with fail
      go_ret2
      exact ⟨.inr (.inl ⟨N, K, rfl, rfl, HZ.out, HF.out, A4, c4, rfl⟩), HB3.out⟩
    · have HF := Lib.hid hf
      clear hf
      go_wp2_with fail
      go_ret2
      exact ⟨.inr (.inr ⟨N, K, rfl, rfl, HZ.out, HF.out, rfl⟩), HB3.out⟩
  · obtain ⟨x, hx⟩ : ∃ x, x = gphE n P m k := ⟨_, rfl⟩
    have hxb : (x != 0) = true := by rw [bne_iff_ne, hx]; exact hz
    have HX := Lib.hid hx
    have HXB := Lib.hid hxb
    clear hz hx
    go_enter Try.func8, Try.ntmps8
    go_wp2_with fail
    rw [← HW1.out]
    refine (graph_any n A m c P k W1 H1.out HM.out).mono ?_
    rintro e w2 ⟨rfl, hb2⟩
    rw [← HX.out]
    have HB2 := Lib.hid (HB1.out.trans (hb2.mono HB1.out.size))
    clear hb2
    go_wp2_with fail
    go_ret2
    exact ⟨.inl ⟨x, HX.out.symm, HXB.out, rfl⟩, HB2.out⟩
end Go.Proofs.Ytkedkgmcdhmjiaa
