/- funcs.wrong, general. Condition: the list reads as told. -/
import Derived.Test.YtjnoolfdlgocjaaFnThere
namespace Go.Proofs.Ytjnoolfdlgocjaa
open Go.ChangeShapes Go.WideShapes Go.ChangeAt Go.RowKit
set_option linter.unusedVariables false
set_option linter.unusedSimpArgs false
theorem EEg : Elem Try.prog 49 22 1 8 := Elem.of Try.underlying49 (by kernel_rfl : (Try.prog.info? 22).map (fun i => (i.zero, i.size, i.bytes)) = some (some (.int .i64 0), 1, 8)) rfl (by omega)
theorem fc_at {D : Nat → SF} {w : World} {b o n i : Nat} (h : Rd w (some ⟨b, o, none⟩) (n * 6) (fcF D)) (hi : i < n) : w.cell? ⟨b, o + i * 6, none⟩ = some (.int .i64 (D i).k) ∧ w.cell? ⟨b, o + i * 6 + 1, none⟩ = some (.int .i64 (D i).a) ∧ w.cell? ⟨b, o + i * 6 + 2, none⟩ = some (.int .i64 (D i).p) ∧ w.cell? ⟨b, o + i * 6 + 3, none⟩ = some (.int .i64 (D i).x) ∧ w.cell? ⟨b, o + i * 6 + 4, none⟩ = some (.int .i64 (D i).y) ∧ w.cell? ⟨b, o + i * 6 + 5, none⟩ = some (D i).s.val := by
  have g : ∀ q, q < 6 → w.cell? ⟨b, o + (i * 6 + q), none⟩ = some (fcF D (i * 6 + q)) := fun q hq => by
    obtain ⟨b', o', e, _, hc⟩ := h.at_ (show i * 6 + q < n * 6 by omega)
    cases e
    exact hc
  have e : ∀ q, q < 6 → (i * 6 + q) % 6 = q ∧ (i * 6 + q) / 6 = i := fun q hq => by omega
  have g0 := g 0 (by omega)
  have g1 := g 1 (by omega)
  have g2 := g 2 (by omega)
  have g3 := g 3 (by omega)
  have g4 := g 4 (by omega)
  have g5 := g 5 (by omega)
  unfold fcF at g0 g1 g2 g3 g4 g5
  rw [(e 0 (by omega)).1, (e 0 (by omega)).2] at g0
  rw [(e 1 (by omega)).1, (e 1 (by omega)).2] at g1
  rw [(e 2 (by omega)).1, (e 2 (by omega)).2] at g2
  rw [(e 3 (by omega)).1, (e 3 (by omega)).2] at g3
  rw [(e 4 (by omega)).1, (e 4 (by omega)).2] at g4
  rw [(e 5 (by omega)).1, (e 5 (by omega)).2] at g5
  exact ⟨g0, g1, g2, g3, g4, g5⟩
theorem asked_bad {f : Nat → Int} {m : Nat} {e : Int} {P : Prop} (he : e ≠ 0) (h : hasI f m e = true) (T : (∀ q, q < m → f q = 0) ↔ P) : ¬ P := fun hp => by
  obtain ⟨q, hq, e2⟩ := hasI_iff.1 h
  exact he (e2.symm.trans (T.2 hp q hq))
theorem asked_ok {f : Nat → Int} {m : Nat} {P : Prop} (V : ∀ q, q < m → f q = 0 ∨ f q = 2 ∨ f q = 3) (h2 : hasI f m 2 = false) (h3 : hasI f m 3 = false) (T : (∀ q, q < m → f q = 0) ↔ P) : P := T.1 fun q hq => by
  rcases V q hq with h | h | h
  · exact h
  · exact absurd (hasI_iff.2 ⟨q, hq, h⟩) (by rw [h2]; simp)
  · exact absurd (hasI_iff.2 ⟨q, hq, h⟩) (by rw [h3]; simp)
set_option maxRecDepth 100000 in
set_option maxHeartbeats 4000000 in
theorem wrongK0
    (D : Nat → SF) (b off n c i : Nat) (W : World) (hin : i < n) (hn : n ≤ 100) (hr : Rd W (some ⟨b, off, none⟩) (n * 6) (fcF D)) (hg : (D i).good W) (hk : (D i).k < 1) :
    Calls Try.prog 17 #[.slice (some ⟨b, off, none⟩) n c, .int .i64 (i : Nat)] W fun e w' => (∃ z, e = .returned (.int .i64 z) ∧ (z = 0 ↔ okFn D i)) ∧ Below W.heap.size W w' := by
  have HR := Lib.hid hr
  obtain ⟨c0, c1, c2, c3, c4, c5⟩ := fc_at hr hin
  have lb : b < W.heap.size := by
    obtain ⟨b', o', e, h, _⟩ := hr.at_ (show 0 < n * 6 by omega)
    cases e
    exact h
  obtain ⟨K, hK⟩ : ∃ z, z = (D i).k := ⟨_, rfl⟩
  obtain ⟨a, ha⟩ : ∃ z, z = (D i).a := ⟨_, rfl⟩
  obtain ⟨p, hp⟩ : ∃ z, z = (D i).p := ⟨_, rfl⟩
  obtain ⟨u, hu⟩ : ∃ z, z = (D i).x := ⟨_, rfl⟩
  obtain ⟨y, hy⟩ : ∃ z, z = (D i).y := ⟨_, rfl⟩
  obtain ⟨s, hs⟩ : ∃ z, z = (D i).s := ⟨_, rfl⟩
  have hok : okFn D i ↔ okFn D i := Iff.rfl
  conv at hok => rhs; unfold okFn; rw [← hK, ← ha, ← hp, ← hu, ← hy, ← hs]
  have hsg := hg.2
  rw [← hs] at hsg
  have hag := hg.1.2.1
  rw [← ha] at hag
  rw [← hK] at c0
  rw [← ha] at c1
  rw [← hp] at c2
  rw [← hu] at c3
  rw [← hy] at c4
  rw [← hs] at c5
  obtain ⟨sA, sn, sc, sf⟩ := s
  change _ = some (Value.slice sA sn sc) at c5
  obtain ⟨hsr, _, hsl, hsm⟩ := hsg
  change Rd W sA sn (fun i => .int .i64 (sf i)) at hsr
  change sn ≤ sc at hsl
  change sc ≤ maxLen at hsm
  unfold maxLen at hsm
  have HSR := Lib.hid hsr
  clear hsr
  rw [← hK] at hk
  have hq : okFn D i ↔ _ := hok
  simp only [] at hok
  have HOK := Lib.hid hok
  clear hok hq hr hK ha hp hu hy hg
  have q0 : ¬ (okFn D i) := fun h => by
    have h := HOK.out.1 h
    omega
  have Q0 := Lib.hid q0
  clear q0
  have n2 : (K == 2) = false := beq_eq_false_iff_ne.2 (by omega)
  have n5 : (K == 5) = false := beq_eq_false_iff_ne.2 (by omega)
  go_enter Try.func17, Try.ntmps17
  go_wp2_with fail
  go_ret
  exact ⟨⟨6, rfl, fun h => absurd h (by decide), fun h => absurd h Q0.out⟩, (((Below.refl _ _).alloc (Nat.le_refl _) _).alloc (by simp) _).alloc (by simp; omega) _⟩
set_option maxRecDepth 100000 in
set_option maxHeartbeats 4000000 in
theorem wrongK6
    (D : Nat → SF) (b off n c i : Nat) (W : World) (hin : i < n) (hn : n ≤ 100) (hr : Rd W (some ⟨b, off, none⟩) (n * 6) (fcF D)) (hg : (D i).good W) (hk : 5 < (D i).k) :
    Calls Try.prog 17 #[.slice (some ⟨b, off, none⟩) n c, .int .i64 (i : Nat)] W fun e w' => (∃ z, e = .returned (.int .i64 z) ∧ (z = 0 ↔ okFn D i)) ∧ Below W.heap.size W w' := by
  have HR := Lib.hid hr
  obtain ⟨c0, c1, c2, c3, c4, c5⟩ := fc_at hr hin
  have lb : b < W.heap.size := by
    obtain ⟨b', o', e, h, _⟩ := hr.at_ (show 0 < n * 6 by omega)
    cases e
    exact h
  obtain ⟨K, hK⟩ : ∃ z, z = (D i).k := ⟨_, rfl⟩
  obtain ⟨a, ha⟩ : ∃ z, z = (D i).a := ⟨_, rfl⟩
  obtain ⟨p, hp⟩ : ∃ z, z = (D i).p := ⟨_, rfl⟩
  obtain ⟨u, hu⟩ : ∃ z, z = (D i).x := ⟨_, rfl⟩
  obtain ⟨y, hy⟩ : ∃ z, z = (D i).y := ⟨_, rfl⟩
  obtain ⟨s, hs⟩ : ∃ z, z = (D i).s := ⟨_, rfl⟩
  have hok : okFn D i ↔ okFn D i := Iff.rfl
  conv at hok => rhs; unfold okFn; rw [← hK, ← ha, ← hp, ← hu, ← hy, ← hs]
  have hsg := hg.2
  rw [← hs] at hsg
  have hag := hg.1.2.1
  rw [← ha] at hag
  rw [← hK] at c0
  rw [← ha] at c1
  rw [← hp] at c2
  rw [← hu] at c3
  rw [← hy] at c4
  rw [← hs] at c5
  obtain ⟨sA, sn, sc, sf⟩ := s
  change _ = some (Value.slice sA sn sc) at c5
  obtain ⟨hsr, _, hsl, hsm⟩ := hsg
  change Rd W sA sn (fun i => .int .i64 (sf i)) at hsr
  change sn ≤ sc at hsl
  change sc ≤ maxLen at hsm
  unfold maxLen at hsm
  have HSR := Lib.hid hsr
  clear hsr
  rw [← hK] at hk
  have hq : okFn D i ↔ _ := hok
  simp only [] at hok
  have HOK := Lib.hid hok
  clear hok hq hr hK ha hp hu hy hg
  have q0 : ¬ (okFn D i) := fun h => by
    have h := HOK.out.1 h
    omega
  have Q0 := Lib.hid q0
  clear q0
  have n2 : (K == 2) = false := beq_eq_false_iff_ne.2 (by omega)
  have n5 : (K == 5) = false := beq_eq_false_iff_ne.2 (by omega)
  go_enter Try.func17, Try.ntmps17
  go_wp2_with fail
  go_ret
  exact ⟨⟨6, rfl, fun h => absurd h (by decide), fun h => absurd h Q0.out⟩, (((Below.refl _ _).alloc (Nat.le_refl _) _).alloc (by simp) _).alloc (by simp; omega) _⟩
set_option maxRecDepth 100000 in
set_option maxHeartbeats 4000000 in
theorem wrongK1
    (D : Nat → SF) (b off n c i : Nat) (W : World) (hin : i < n) (hn : n ≤ 100) (hr : Rd W (some ⟨b, off, none⟩) (n * 6) (fcF D)) (hg : (D i).good W) (hk : (D i).k = 1) :
    Calls Try.prog 17 #[.slice (some ⟨b, off, none⟩) n c, .int .i64 (i : Nat)] W fun e w' => (∃ z, e = .returned (.int .i64 z) ∧ (z = 0 ↔ okFn D i)) ∧ Below W.heap.size W w' := by
  have HR := Lib.hid hr
  obtain ⟨c0, c1, c2, c3, c4, c5⟩ := fc_at hr hin
  have lb : b < W.heap.size := by
    obtain ⟨b', o', e, h, _⟩ := hr.at_ (show 0 < n * 6 by omega)
    cases e
    exact h
  obtain ⟨K, hK⟩ : ∃ z, z = (D i).k := ⟨_, rfl⟩
  obtain ⟨a, ha⟩ : ∃ z, z = (D i).a := ⟨_, rfl⟩
  obtain ⟨p, hp⟩ : ∃ z, z = (D i).p := ⟨_, rfl⟩
  obtain ⟨u, hu⟩ : ∃ z, z = (D i).x := ⟨_, rfl⟩
  obtain ⟨y, hy⟩ : ∃ z, z = (D i).y := ⟨_, rfl⟩
  obtain ⟨s, hs⟩ : ∃ z, z = (D i).s := ⟨_, rfl⟩
  have hok : okFn D i ↔ okFn D i := Iff.rfl
  conv at hok => rhs; unfold okFn; rw [← hK, ← ha, ← hp, ← hu, ← hy, ← hs]
  have hsg := hg.2
  rw [← hs] at hsg
  have hag := hg.1.2.1
  rw [← ha] at hag
  rw [← hK] at c0
  rw [← ha] at c1
  rw [← hp] at c2
  rw [← hu] at c3
  rw [← hy] at c4
  rw [← hs] at c5
  obtain ⟨sA, sn, sc, sf⟩ := s
  change _ = some (Value.slice sA sn sc) at c5
  obtain ⟨hsr, _, hsl, hsm⟩ := hsg
  change Rd W sA sn (fun i => .int .i64 (sf i)) at hsr
  change sn ≤ sc at hsl
  change sc ≤ maxLen at hsm
  unfold maxLen at hsm
  have HSR := Lib.hid hsr
  clear hsr
  rw [← hK] at hk
  have hq : okFn D i ↔ _ := hok
  simp only [] at hok
  have HOK := Lib.hid hok
  clear hok hq hr hK ha hp hu hy hg
  subst hk
  clear hs
  by_cases b1 : a < 0
  · have q0 : ¬ (okFn D i) := fun h => by
      have h := HOK.out.1 h
      have := h.2.1
      omega
    have Q0 := Lib.hid q0
    clear q0
    go_enter Try.func17, Try.ntmps17
    go_wp2_with fail
    go_ret
    exact ⟨⟨1, rfl, fun h => absurd h (by decide), fun h => absurd h Q0.out⟩, (((Below.refl _ _).alloc (Nat.le_refl _) _).alloc (by simp) _).alloc (by simp; omega) _⟩
  by_cases b2 : 4 < a
  · have q0 : ¬ (okFn D i) := fun h => by
      have h := HOK.out.1 h
      have := h.2.1
      omega
    have Q0 := Lib.hid q0
    clear q0
    go_enter Try.func17, Try.ntmps17
    go_wp2_with fail
    go_ret
    exact ⟨⟨1, rfl, fun h => absurd h (by decide), fun h => absurd h Q0.out⟩, (((Below.refl _ _).alloc (Nat.le_refl _) _).alloc (by simp) _).alloc (by simp; omega) _⟩
  have hokf : okFn D i := HOK.out.2 ⟨by omega, by omega, fun h => by omega, fun h => by omega, fun h => by omega, fun h => by omega⟩
  obtain ⟨fz, hfz⟩ : ∃ f : Nat → Int, f = fun _ => 0 := ⟨_, rfl⟩
  clear hfz
  have T : Hid ((∀ q, q < 0 → fz q = 0) ↔ okFn D i) := Lib.hid ⟨fun _ => hokf, fun _ q h => absurd h (by omega)⟩
  clear hokf
  have VV : Hid (∀ q, q < 0 → fz q = 0 ∨ fz q = 2 ∨ fz q = 3) := Lib.hid fun q h => absurd h (by omega)
  have HML : Hid (0 ≤ maxLen) := Lib.hid (Nat.zero_le _)
  obtain ⟨x, hx⟩ : ∃ x, x = W.heap.size := ⟨_, rfl⟩
  obtain ⟨W3, hW3⟩ : ∃ W3, W3 = ((W.alloc (.cells #[.slice (some ⟨b, off, none⟩) n c] 30)).alloc (.cells #[.int .i64 (i : Nat)] 3)).alloc (.cells #[.int .i64 1, .int .i64 a, .int .i64 p, .int .i64 u, .int .i64 y, .slice sA sn sc] 29) := ⟨_, rfl⟩
  have hb3 : Below W.heap.size W W3 := by rw [hW3]; exact (((Below.refl _ _).alloc (Nat.le_refl _) _).alloc (by simp) _).alloc (by simp; omega) _
  have hs3 : W3.heap.size = x + 3 := by rw [hW3, hx]; simp [go_sem]
  have kl : W3.cell? ⟨x, 0, none⟩ = some (.slice (some ⟨b, off, none⟩) n c) := by rw [hW3, hx]; simp [go_sem]
  have ki : W3.cell? ⟨x + 1, 0, none⟩ = some (.int .i64 (i : Nat)) := by rw [hW3, hx]; simp [go_sem]
  have d0 : W3.cell? ⟨x + 1 + 1, 0, none⟩ = some (.int .i64 1) := by rw [hW3, hx]; simp [go_sem]
  have d1 : W3.cell? ⟨x + 1 + 1, 1, none⟩ = some (.int .i64 a) := by rw [hW3, hx]; simp [go_sem]
  have d2 : W3.cell? ⟨x + 1 + 1, 2, none⟩ = some (.int .i64 p) := by rw [hW3, hx]; simp [go_sem]
  have d3 : W3.cell? ⟨x + 1 + 1, 3, none⟩ = some (.int .i64 u) := by rw [hW3, hx]; simp [go_sem]
  have d4 : W3.cell? ⟨x + 1 + 1, 4, none⟩ = some (.int .i64 y) := by rw [hW3, hx]; simp [go_sem]
  have d5 : W3.cell? ⟨x + 1 + 1, 5, none⟩ = some (.slice sA sn sc) := by rw [hW3, hx]; simp [go_sem]
  have HR3 := Lib.hid (HR.out.below hb3)
  have HSR3 := Lib.hid (HSR.out.below hb3)
  have HW3 := Lib.hid hW3
  have HB3 := Lib.hid hb3
  have HS3 := Lib.hid hs3
  have HX := Lib.hid hx
  have l0 : x < W3.heap.size := by omega
  have l1 : x + 1 < W3.heap.size := by omega
  have l2 : x + 1 + 1 < W3.heap.size := by omega
  clear hW3 hb3 hs3 hx
  go_enter Try.func17, Try.ntmps17
  go_wp2_with fail
  rw [← HX.out, ← HW3.out]
  obtain ⟨WZ, hWZ⟩ : ∃ W', W' = W3.alloc (.cells #[.int .i64 2, .int .i64 3] 22) := ⟨_, rfl⟩
  have hbZ : Below W3.heap.size W3 WZ := by rw [hWZ]; exact (Below.refl _ _).alloc (Nat.le_refl _) _
  have y0 : WZ.cell? ⟨x + 1 + 1 + 1, 0, none⟩ = some (.int .i64 2) := by rw [← (HS3.out : W3.heap.size = x + 1 + 1 + 1)]; rw [hWZ]; simp [go_sem]
  have y1 : WZ.cell? ⟨x + 1 + 1 + 1, 1, none⟩ = some (.int .i64 3) := by rw [← (HS3.out : W3.heap.size = x + 1 + 1 + 1)]; rw [hWZ]; simp [go_sem]
  have lz : x + 1 + 1 + 1 < WZ.heap.size := by rw [← (HS3.out : W3.heap.size = x + 1 + 1 + 1)]; rw [hWZ]; simp
  have HRZ := Lib.hid (((Rd.zero _ _ _ : Rd W3 none 0 (fun i => .int .i64 (fz i)))).below hbZ)
  have HBZ := Lib.hid ((HB3.out).trans (hbZ.mono (HB3.out).size))
  rw [← hWZ]
  clear hWZ hbZ
  go_loopw [133] (fun s133 wr => ∃ r : Nat, r ≤ 2 ∧ s133 = .int .i64 (r : Nat) ∧ Hid ((1 ≤ r → hasI fz 0 2 = false) ∧ (2 ≤ r → hasI fz 0 3 = false)) ∧ Hid (Below WZ.heap.size WZ wr)) (fun s133 _ => 2 - (intOf s133).toNat)
  case atStart => exact ⟨0, by omega, rfl, Lib.hid ⟨fun h => absurd h (by omega), fun h => absurd h (by omega)⟩, Lib.hid (Below.refl _ _)⟩
  case round =>
    obtain ⟨wo2, hwo2⟩ : ∃ wo2 : World, wo2 = wr := ⟨_, rfl⟩
    subst hwo2
    obtain ⟨r, hr2, rfl, HAS, HWR⟩ := hrel
    have y0' := (HWR.out.cell (p := ⟨x + 1 + 1 + 1, 0, none⟩) lz).trans y0
    have y1' := (HWR.out.cell (p := ⟨x + 1 + 1 + 1, 1, none⟩) lz).trans y1
    have h3 : r = 0 ∨ r = 1 ∨ r = 2 := by omega
    rcases h3 with rfl | rfl | rfl
    · have HH : Hid (∀ w : World, Rd w none 0 (fun i => .int .i64 (fz i)) → Calls Try.prog 21 #[.slice none 0 0, .int .i64 2] w fun e w' => e = .returned (.bool (hasI fz 0 2)) ∧ w = w') := Lib.hid (fun w hr => hasE_any none 0 0 fz 2 w hr HML.out)
      by_cases hb : hasI fz 0 2 = true
      · rw [hb] at HH
        go_wp2_with fail
        refine (HH.out _ (HRZ.out.below HWR.out)).mono ?_
        rintro e w' ⟨rfl, rfl⟩
        clear HH
        go_wp2_with fail
        go_ret
        exact ⟨⟨2, rfl, fun h => absurd h (by decide), fun h => absurd h (asked_bad (by decide) hb T.out)⟩, HBZ.out.trans (HWR.out.mono HBZ.out.size)⟩
      · have hb2 : hasI fz 0 2 = false := by simpa using hb
        rw [hb2] at HH
        clear hb
        have HB2 := Lib.hid hb2
        clear hb2
        go_wp2_with fail
        refine (HH.out _ (HRZ.out.below HWR.out)).mono ?_
        rintro e w' ⟨rfl, rfl⟩
        clear HH
        go_wp2_with fail
        go_roundw
        case rel => exact ⟨1, by omega, rfl, Lib.hid ⟨fun _ => HB2.out, fun h => absurd h (by omega)⟩, HWR⟩
        case measure => simp [intOf]
    · have HH : Hid (∀ w : World, Rd w none 0 (fun i => .int .i64 (fz i)) → Calls Try.prog 21 #[.slice none 0 0, .int .i64 3] w fun e w' => e = .returned (.bool (hasI fz 0 3)) ∧ w = w') := Lib.hid (fun w hr => hasE_any none 0 0 fz 3 w hr HML.out)
      by_cases hb : hasI fz 0 3 = true
      · rw [hb] at HH
        go_wp2_with fail
        refine (HH.out _ (HRZ.out.below HWR.out)).mono ?_
        rintro e w' ⟨rfl, rfl⟩
        clear HH
        go_wp2_with fail
        go_ret
        exact ⟨⟨3, rfl, fun h => absurd h (by decide), fun h => absurd h (asked_bad (by decide) hb T.out)⟩, HBZ.out.trans (HWR.out.mono HBZ.out.size)⟩
      · have hb2 : hasI fz 0 3 = false := by simpa using hb
        rw [hb2] at HH
        clear hb
        have HB2 := Lib.hid hb2
        clear hb2
        go_wp2_with fail
        refine (HH.out _ (HRZ.out.below HWR.out)).mono ?_
        rintro e w' ⟨rfl, rfl⟩
        clear HH
        go_wp2_with fail
        go_roundw
        case rel => exact ⟨2, by omega, rfl, Lib.hid ⟨fun _ => HAS.out.1 (by omega), fun _ => HB2.out⟩, HWR⟩
        case measure => simp [intOf]
    · go_wp2_with fail
      go_ret
      exact ⟨⟨0, rfl, fun _ => asked_ok VV.out (HAS.out.1 (by omega)) (HAS.out.2 (by omega)) T.out, fun _ => rfl⟩, HBZ.out.trans (HWR.out.mono HBZ.out.size)⟩
set_option maxRecDepth 100000 in
set_option maxHeartbeats 4000000 in
theorem wrongK2
    (D : Nat → SF) (b off n c i : Nat) (W : World) (hin : i < n) (hn : n ≤ 100) (hr : Rd W (some ⟨b, off, none⟩) (n * 6) (fcF D)) (hg : (D i).good W) (hk : (D i).k = 2) :
    Calls Try.prog 17 #[.slice (some ⟨b, off, none⟩) n c, .int .i64 (i : Nat)] W fun e w' => (∃ z, e = .returned (.int .i64 z) ∧ (z = 0 ↔ okFn D i)) ∧ Below W.heap.size W w' := by
  have HR := Lib.hid hr
  obtain ⟨c0, c1, c2, c3, c4, c5⟩ := fc_at hr hin
  have lb : b < W.heap.size := by
    obtain ⟨b', o', e, h, _⟩ := hr.at_ (show 0 < n * 6 by omega)
    cases e
    exact h
  obtain ⟨K, hK⟩ : ∃ z, z = (D i).k := ⟨_, rfl⟩
  obtain ⟨a, ha⟩ : ∃ z, z = (D i).a := ⟨_, rfl⟩
  obtain ⟨p, hp⟩ : ∃ z, z = (D i).p := ⟨_, rfl⟩
  obtain ⟨u, hu⟩ : ∃ z, z = (D i).x := ⟨_, rfl⟩
  obtain ⟨y, hy⟩ : ∃ z, z = (D i).y := ⟨_, rfl⟩
  obtain ⟨s, hs⟩ : ∃ z, z = (D i).s := ⟨_, rfl⟩
  have hok : okFn D i ↔ okFn D i := Iff.rfl
  conv at hok => rhs; unfold okFn; rw [← hK, ← ha, ← hp, ← hu, ← hy, ← hs]
  have hsg := hg.2
  rw [← hs] at hsg
  have hag := hg.1.2.1
  rw [← ha] at hag
  rw [← hK] at c0
  rw [← ha] at c1
  rw [← hp] at c2
  rw [← hu] at c3
  rw [← hy] at c4
  rw [← hs] at c5
  obtain ⟨sA, sn, sc, sf⟩ := s
  change _ = some (Value.slice sA sn sc) at c5
  obtain ⟨hsr, _, hsl, hsm⟩ := hsg
  change Rd W sA sn (fun i => .int .i64 (sf i)) at hsr
  change sn ≤ sc at hsl
  change sc ≤ maxLen at hsm
  unfold maxLen at hsm
  have HSR := Lib.hid hsr
  clear hsr
  rw [← hK] at hk
  have hq : okFn D i ↔ _ := hok
  simp only [] at hok
  have HOK := Lib.hid hok
  clear hok hq hr hK ha hp hu hy hg
  subst hk
  clear hs
  by_cases b1 : a < 1
  · have q0 : ¬ (okFn D i) := fun h => by
      have h := HOK.out.1 h
      have := h.2.2.1 rfl
      omega
    have Q0 := Lib.hid q0
    clear q0
    go_enter Try.func17, Try.ntmps17
    go_wp2_with fail
    go_ret
    exact ⟨⟨1, rfl, fun h => absurd h (by decide), fun h => absurd h Q0.out⟩, (((Below.refl _ _).alloc (Nat.le_refl _) _).alloc (by simp) _).alloc (by simp; omega) _⟩
  by_cases b2 : 4 < a
  · have q0 : ¬ (okFn D i) := fun h => by
      have h := HOK.out.1 h
      have := h.2.1
      omega
    have Q0 := Lib.hid q0
    clear q0
    go_enter Try.func17, Try.ntmps17
    go_wp2_with fail
    go_ret
    exact ⟨⟨1, rfl, fun h => absurd h (by decide), fun h => absurd h Q0.out⟩, (((Below.refl _ _).alloc (Nat.le_refl _) _).alloc (by simp) _).alloc (by simp; omega) _⟩
  by_cases b3 : 1 < a
  · have q0 : ¬ (okFn D i) := fun h => by
      have h := HOK.out.1 h
      have := h.2.2.1 rfl
      omega
    have Q0 := Lib.hid q0
    clear q0
    go_enter Try.func17, Try.ntmps17
    go_wp2_with fail
    go_ret
    exact ⟨⟨1, rfl, fun h => absurd h (by decide), fun h => absurd h Q0.out⟩, (((Below.refl _ _).alloc (Nat.le_refl _) _).alloc (by simp) _).alloc (by simp; omega) _⟩
  have hokf : okFn D i := HOK.out.2 ⟨by omega, by omega, fun h => by omega, fun h => by omega, fun h => by omega, fun h => by omega⟩
  obtain ⟨fz, hfz⟩ : ∃ f : Nat → Int, f = fun _ => 0 := ⟨_, rfl⟩
  clear hfz
  have T : Hid ((∀ q, q < 0 → fz q = 0) ↔ okFn D i) := Lib.hid ⟨fun _ => hokf, fun _ q h => absurd h (by omega)⟩
  clear hokf
  have VV : Hid (∀ q, q < 0 → fz q = 0 ∨ fz q = 2 ∨ fz q = 3) := Lib.hid fun q h => absurd h (by omega)
  have HML : Hid (0 ≤ maxLen) := Lib.hid (Nat.zero_le _)
  obtain ⟨x, hx⟩ : ∃ x, x = W.heap.size := ⟨_, rfl⟩
  obtain ⟨W3, hW3⟩ : ∃ W3, W3 = ((W.alloc (.cells #[.slice (some ⟨b, off, none⟩) n c] 30)).alloc (.cells #[.int .i64 (i : Nat)] 3)).alloc (.cells #[.int .i64 2, .int .i64 a, .int .i64 p, .int .i64 u, .int .i64 y, .slice sA sn sc] 29) := ⟨_, rfl⟩
  have hb3 : Below W.heap.size W W3 := by rw [hW3]; exact (((Below.refl _ _).alloc (Nat.le_refl _) _).alloc (by simp) _).alloc (by simp; omega) _
  have hs3 : W3.heap.size = x + 3 := by rw [hW3, hx]; simp [go_sem]
  have kl : W3.cell? ⟨x, 0, none⟩ = some (.slice (some ⟨b, off, none⟩) n c) := by rw [hW3, hx]; simp [go_sem]
  have ki : W3.cell? ⟨x + 1, 0, none⟩ = some (.int .i64 (i : Nat)) := by rw [hW3, hx]; simp [go_sem]
  have d0 : W3.cell? ⟨x + 1 + 1, 0, none⟩ = some (.int .i64 2) := by rw [hW3, hx]; simp [go_sem]
  have d1 : W3.cell? ⟨x + 1 + 1, 1, none⟩ = some (.int .i64 a) := by rw [hW3, hx]; simp [go_sem]
  have d2 : W3.cell? ⟨x + 1 + 1, 2, none⟩ = some (.int .i64 p) := by rw [hW3, hx]; simp [go_sem]
  have d3 : W3.cell? ⟨x + 1 + 1, 3, none⟩ = some (.int .i64 u) := by rw [hW3, hx]; simp [go_sem]
  have d4 : W3.cell? ⟨x + 1 + 1, 4, none⟩ = some (.int .i64 y) := by rw [hW3, hx]; simp [go_sem]
  have d5 : W3.cell? ⟨x + 1 + 1, 5, none⟩ = some (.slice sA sn sc) := by rw [hW3, hx]; simp [go_sem]
  have HR3 := Lib.hid (HR.out.below hb3)
  have HSR3 := Lib.hid (HSR.out.below hb3)
  have HW3 := Lib.hid hW3
  have HB3 := Lib.hid hb3
  have HS3 := Lib.hid hs3
  have HX := Lib.hid hx
  have l0 : x < W3.heap.size := by omega
  have l1 : x + 1 < W3.heap.size := by omega
  have l2 : x + 1 + 1 < W3.heap.size := by omega
  clear hW3 hb3 hs3 hx
  go_enter Try.func17, Try.ntmps17
  go_wp2_with fail
  rw [← HX.out, ← HW3.out]
  obtain ⟨WZ, hWZ⟩ : ∃ W', W' = W3.alloc (.cells #[.int .i64 2, .int .i64 3] 22) := ⟨_, rfl⟩
  have hbZ : Below W3.heap.size W3 WZ := by rw [hWZ]; exact (Below.refl _ _).alloc (Nat.le_refl _) _
  have y0 : WZ.cell? ⟨x + 1 + 1 + 1, 0, none⟩ = some (.int .i64 2) := by rw [← (HS3.out : W3.heap.size = x + 1 + 1 + 1)]; rw [hWZ]; simp [go_sem]
  have y1 : WZ.cell? ⟨x + 1 + 1 + 1, 1, none⟩ = some (.int .i64 3) := by rw [← (HS3.out : W3.heap.size = x + 1 + 1 + 1)]; rw [hWZ]; simp [go_sem]
  have lz : x + 1 + 1 + 1 < WZ.heap.size := by rw [← (HS3.out : W3.heap.size = x + 1 + 1 + 1)]; rw [hWZ]; simp
  have HRZ := Lib.hid (((Rd.zero _ _ _ : Rd W3 none 0 (fun i => .int .i64 (fz i)))).below hbZ)
  have HBZ := Lib.hid ((HB3.out).trans (hbZ.mono (HB3.out).size))
  rw [← hWZ]
  clear hWZ hbZ
  go_loopw [133] (fun s133 wr => ∃ r : Nat, r ≤ 2 ∧ s133 = .int .i64 (r : Nat) ∧ Hid ((1 ≤ r → hasI fz 0 2 = false) ∧ (2 ≤ r → hasI fz 0 3 = false)) ∧ Hid (Below WZ.heap.size WZ wr)) (fun s133 _ => 2 - (intOf s133).toNat)
  case atStart => exact ⟨0, by omega, rfl, Lib.hid ⟨fun h => absurd h (by omega), fun h => absurd h (by omega)⟩, Lib.hid (Below.refl _ _)⟩
  case round =>
    obtain ⟨wo2, hwo2⟩ : ∃ wo2 : World, wo2 = wr := ⟨_, rfl⟩
    subst hwo2
    obtain ⟨r, hr2, rfl, HAS, HWR⟩ := hrel
    have y0' := (HWR.out.cell (p := ⟨x + 1 + 1 + 1, 0, none⟩) lz).trans y0
    have y1' := (HWR.out.cell (p := ⟨x + 1 + 1 + 1, 1, none⟩) lz).trans y1
    have h3 : r = 0 ∨ r = 1 ∨ r = 2 := by omega
    rcases h3 with rfl | rfl | rfl
    · have HH : Hid (∀ w : World, Rd w none 0 (fun i => .int .i64 (fz i)) → Calls Try.prog 21 #[.slice none 0 0, .int .i64 2] w fun e w' => e = .returned (.bool (hasI fz 0 2)) ∧ w = w') := Lib.hid (fun w hr => hasE_any none 0 0 fz 2 w hr HML.out)
      by_cases hb : hasI fz 0 2 = true
      · rw [hb] at HH
        go_wp2_with fail
        refine (HH.out _ (HRZ.out.below HWR.out)).mono ?_
        rintro e w' ⟨rfl, rfl⟩
        clear HH
        go_wp2_with fail
        go_ret
        exact ⟨⟨2, rfl, fun h => absurd h (by decide), fun h => absurd h (asked_bad (by decide) hb T.out)⟩, HBZ.out.trans (HWR.out.mono HBZ.out.size)⟩
      · have hb2 : hasI fz 0 2 = false := by simpa using hb
        rw [hb2] at HH
        clear hb
        have HB2 := Lib.hid hb2
        clear hb2
        go_wp2_with fail
        refine (HH.out _ (HRZ.out.below HWR.out)).mono ?_
        rintro e w' ⟨rfl, rfl⟩
        clear HH
        go_wp2_with fail
        go_roundw
        case rel => exact ⟨1, by omega, rfl, Lib.hid ⟨fun _ => HB2.out, fun h => absurd h (by omega)⟩, HWR⟩
        case measure => simp [intOf]
    · have HH : Hid (∀ w : World, Rd w none 0 (fun i => .int .i64 (fz i)) → Calls Try.prog 21 #[.slice none 0 0, .int .i64 3] w fun e w' => e = .returned (.bool (hasI fz 0 3)) ∧ w = w') := Lib.hid (fun w hr => hasE_any none 0 0 fz 3 w hr HML.out)
      by_cases hb : hasI fz 0 3 = true
      · rw [hb] at HH
        go_wp2_with fail
        refine (HH.out _ (HRZ.out.below HWR.out)).mono ?_
        rintro e w' ⟨rfl, rfl⟩
        clear HH
        go_wp2_with fail
        go_ret
        exact ⟨⟨3, rfl, fun h => absurd h (by decide), fun h => absurd h (asked_bad (by decide) hb T.out)⟩, HBZ.out.trans (HWR.out.mono HBZ.out.size)⟩
      · have hb2 : hasI fz 0 3 = false := by simpa using hb
        rw [hb2] at HH
        clear hb
        have HB2 := Lib.hid hb2
        clear hb2
        go_wp2_with fail
        refine (HH.out _ (HRZ.out.below HWR.out)).mono ?_
        rintro e w' ⟨rfl, rfl⟩
        clear HH
        go_wp2_with fail
        go_roundw
        case rel => exact ⟨2, by omega, rfl, Lib.hid ⟨fun _ => HAS.out.1 (by omega), fun _ => HB2.out⟩, HWR⟩
        case measure => simp [intOf]
    · go_wp2_with fail
      go_ret
      exact ⟨⟨0, rfl, fun _ => asked_ok VV.out (HAS.out.1 (by omega)) (HAS.out.2 (by omega)) T.out, fun _ => rfl⟩, HBZ.out.trans (HWR.out.mono HBZ.out.size)⟩
set_option maxRecDepth 100000 in
set_option maxHeartbeats 4000000 in
theorem wrongK3
    (D : Nat → SF) (b off n c i : Nat) (W : World) (hin : i < n) (hn : n ≤ 100) (hr : Rd W (some ⟨b, off, none⟩) (n * 6) (fcF D)) (hg : (D i).good W) (hk : (D i).k = 3) :
    Calls Try.prog 17 #[.slice (some ⟨b, off, none⟩) n c, .int .i64 (i : Nat)] W fun e w' => (∃ z, e = .returned (.int .i64 z) ∧ (z = 0 ↔ okFn D i)) ∧ Below W.heap.size W w' := by
  have HR := Lib.hid hr
  obtain ⟨c0, c1, c2, c3, c4, c5⟩ := fc_at hr hin
  have lb : b < W.heap.size := by
    obtain ⟨b', o', e, h, _⟩ := hr.at_ (show 0 < n * 6 by omega)
    cases e
    exact h
  obtain ⟨K, hK⟩ : ∃ z, z = (D i).k := ⟨_, rfl⟩
  obtain ⟨a, ha⟩ : ∃ z, z = (D i).a := ⟨_, rfl⟩
  obtain ⟨p, hp⟩ : ∃ z, z = (D i).p := ⟨_, rfl⟩
  obtain ⟨u, hu⟩ : ∃ z, z = (D i).x := ⟨_, rfl⟩
  obtain ⟨y, hy⟩ : ∃ z, z = (D i).y := ⟨_, rfl⟩
  obtain ⟨s, hs⟩ : ∃ z, z = (D i).s := ⟨_, rfl⟩
  have hok : okFn D i ↔ okFn D i := Iff.rfl
  conv at hok => rhs; unfold okFn; rw [← hK, ← ha, ← hp, ← hu, ← hy, ← hs]
  have hsg := hg.2
  rw [← hs] at hsg
  have hag := hg.1.2.1
  rw [← ha] at hag
  rw [← hK] at c0
  rw [← ha] at c1
  rw [← hp] at c2
  rw [← hu] at c3
  rw [← hy] at c4
  rw [← hs] at c5
  obtain ⟨sA, sn, sc, sf⟩ := s
  change _ = some (Value.slice sA sn sc) at c5
  obtain ⟨hsr, _, hsl, hsm⟩ := hsg
  change Rd W sA sn (fun i => .int .i64 (sf i)) at hsr
  change sn ≤ sc at hsl
  change sc ≤ maxLen at hsm
  unfold maxLen at hsm
  have HSR := Lib.hid hsr
  clear hsr
  rw [← hK] at hk
  have hq : okFn D i ↔ _ := hok
  simp only [] at hok
  have HOK := Lib.hid hok
  clear hok hq hr hK ha hp hu hy hg
  subst hk
  clear hs
  by_cases b1 : a < 0
  · have q0 : ¬ (okFn D i) := fun h => by
      have h := HOK.out.1 h
      have := h.2.1
      omega
    have Q0 := Lib.hid q0
    clear q0
    go_enter Try.func17, Try.ntmps17
    go_wp2_with fail
    go_ret
    exact ⟨⟨1, rfl, fun h => absurd h (by decide), fun h => absurd h Q0.out⟩, (((Below.refl _ _).alloc (Nat.le_refl _) _).alloc (by simp) _).alloc (by simp; omega) _⟩
  by_cases b2 : 4 < a
  · have q0 : ¬ (okFn D i) := fun h => by
      have h := HOK.out.1 h
      have := h.2.1
      omega
    have Q0 := Lib.hid q0
    clear q0
    go_enter Try.func17, Try.ntmps17
    go_wp2_with fail
    go_ret
    exact ⟨⟨1, rfl, fun h => absurd h (by decide), fun h => absurd h Q0.out⟩, (((Below.refl _ _).alloc (Nat.le_refl _) _).alloc (by simp) _).alloc (by simp; omega) _⟩
  by_cases b3 : p < 0
  · have q0 : ¬ (okFn D i) := fun h => by
      have h := HOK.out.1 h
      have := h.2.2.2.1 rfl
      omega
    have Q0 := Lib.hid q0
    clear q0
    go_enter Try.func17, Try.ntmps17
    go_wp2_with fail
    go_ret
    exact ⟨⟨4, rfl, fun h => absurd h (by decide), fun h => absurd h Q0.out⟩, (((Below.refl _ _).alloc (Nat.le_refl _) _).alloc (by simp) _).alloc (by simp; omega) _⟩
  by_cases b4 : a ≤ p
  · have q0 : ¬ (okFn D i) := fun h => by
      have h := HOK.out.1 h
      have := h.2.2.2.1 rfl
      omega
    have Q0 := Lib.hid q0
    clear q0
    go_enter Try.func17, Try.ntmps17
    go_wp2_with fail
    go_ret
    exact ⟨⟨4, rfl, fun h => absurd h (by decide), fun h => absurd h Q0.out⟩, (((Below.refl _ _).alloc (Nat.le_refl _) _).alloc (by simp) _).alloc (by simp; omega) _⟩
  have hokf : okFn D i := HOK.out.2 ⟨by omega, by omega, fun h => by omega, fun h => by omega, fun h => by omega, fun h => by omega⟩
  obtain ⟨fz, hfz⟩ : ∃ f : Nat → Int, f = fun _ => 0 := ⟨_, rfl⟩
  clear hfz
  have T : Hid ((∀ q, q < 0 → fz q = 0) ↔ okFn D i) := Lib.hid ⟨fun _ => hokf, fun _ q h => absurd h (by omega)⟩
  clear hokf
  have VV : Hid (∀ q, q < 0 → fz q = 0 ∨ fz q = 2 ∨ fz q = 3) := Lib.hid fun q h => absurd h (by omega)
  have HML : Hid (0 ≤ maxLen) := Lib.hid (Nat.zero_le _)
  obtain ⟨x, hx⟩ : ∃ x, x = W.heap.size := ⟨_, rfl⟩
  obtain ⟨W3, hW3⟩ : ∃ W3, W3 = ((W.alloc (.cells #[.slice (some ⟨b, off, none⟩) n c] 30)).alloc (.cells #[.int .i64 (i : Nat)] 3)).alloc (.cells #[.int .i64 3, .int .i64 a, .int .i64 p, .int .i64 u, .int .i64 y, .slice sA sn sc] 29) := ⟨_, rfl⟩
  have hb3 : Below W.heap.size W W3 := by rw [hW3]; exact (((Below.refl _ _).alloc (Nat.le_refl _) _).alloc (by simp) _).alloc (by simp; omega) _
  have hs3 : W3.heap.size = x + 3 := by rw [hW3, hx]; simp [go_sem]
  have kl : W3.cell? ⟨x, 0, none⟩ = some (.slice (some ⟨b, off, none⟩) n c) := by rw [hW3, hx]; simp [go_sem]
  have ki : W3.cell? ⟨x + 1, 0, none⟩ = some (.int .i64 (i : Nat)) := by rw [hW3, hx]; simp [go_sem]
  have d0 : W3.cell? ⟨x + 1 + 1, 0, none⟩ = some (.int .i64 3) := by rw [hW3, hx]; simp [go_sem]
  have d1 : W3.cell? ⟨x + 1 + 1, 1, none⟩ = some (.int .i64 a) := by rw [hW3, hx]; simp [go_sem]
  have d2 : W3.cell? ⟨x + 1 + 1, 2, none⟩ = some (.int .i64 p) := by rw [hW3, hx]; simp [go_sem]
  have d3 : W3.cell? ⟨x + 1 + 1, 3, none⟩ = some (.int .i64 u) := by rw [hW3, hx]; simp [go_sem]
  have d4 : W3.cell? ⟨x + 1 + 1, 4, none⟩ = some (.int .i64 y) := by rw [hW3, hx]; simp [go_sem]
  have d5 : W3.cell? ⟨x + 1 + 1, 5, none⟩ = some (.slice sA sn sc) := by rw [hW3, hx]; simp [go_sem]
  have HR3 := Lib.hid (HR.out.below hb3)
  have HSR3 := Lib.hid (HSR.out.below hb3)
  have HW3 := Lib.hid hW3
  have HB3 := Lib.hid hb3
  have HS3 := Lib.hid hs3
  have HX := Lib.hid hx
  have l0 : x < W3.heap.size := by omega
  have l1 : x + 1 < W3.heap.size := by omega
  have l2 : x + 1 + 1 < W3.heap.size := by omega
  clear hW3 hb3 hs3 hx
  go_enter Try.func17, Try.ntmps17
  go_wp2_with fail
  rw [← HX.out, ← HW3.out]
  obtain ⟨WZ, hWZ⟩ : ∃ W', W' = W3.alloc (.cells #[.int .i64 2, .int .i64 3] 22) := ⟨_, rfl⟩
  have hbZ : Below W3.heap.size W3 WZ := by rw [hWZ]; exact (Below.refl _ _).alloc (Nat.le_refl _) _
  have y0 : WZ.cell? ⟨x + 1 + 1 + 1, 0, none⟩ = some (.int .i64 2) := by rw [← (HS3.out : W3.heap.size = x + 1 + 1 + 1)]; rw [hWZ]; simp [go_sem]
  have y1 : WZ.cell? ⟨x + 1 + 1 + 1, 1, none⟩ = some (.int .i64 3) := by rw [← (HS3.out : W3.heap.size = x + 1 + 1 + 1)]; rw [hWZ]; simp [go_sem]
  have lz : x + 1 + 1 + 1 < WZ.heap.size := by rw [← (HS3.out : W3.heap.size = x + 1 + 1 + 1)]; rw [hWZ]; simp
  have HRZ := Lib.hid (((Rd.zero _ _ _ : Rd W3 none 0 (fun i => .int .i64 (fz i)))).below hbZ)
  have HBZ := Lib.hid ((HB3.out).trans (hbZ.mono (HB3.out).size))
  rw [← hWZ]
  clear hWZ hbZ
  go_loopw [133] (fun s133 wr => ∃ r : Nat, r ≤ 2 ∧ s133 = .int .i64 (r : Nat) ∧ Hid ((1 ≤ r → hasI fz 0 2 = false) ∧ (2 ≤ r → hasI fz 0 3 = false)) ∧ Hid (Below WZ.heap.size WZ wr)) (fun s133 _ => 2 - (intOf s133).toNat)
  case atStart => exact ⟨0, by omega, rfl, Lib.hid ⟨fun h => absurd h (by omega), fun h => absurd h (by omega)⟩, Lib.hid (Below.refl _ _)⟩
  case round =>
    obtain ⟨wo2, hwo2⟩ : ∃ wo2 : World, wo2 = wr := ⟨_, rfl⟩
    subst hwo2
    obtain ⟨r, hr2, rfl, HAS, HWR⟩ := hrel
    have y0' := (HWR.out.cell (p := ⟨x + 1 + 1 + 1, 0, none⟩) lz).trans y0
    have y1' := (HWR.out.cell (p := ⟨x + 1 + 1 + 1, 1, none⟩) lz).trans y1
    have h3 : r = 0 ∨ r = 1 ∨ r = 2 := by omega
    rcases h3 with rfl | rfl | rfl
    · have HH : Hid (∀ w : World, Rd w none 0 (fun i => .int .i64 (fz i)) → Calls Try.prog 21 #[.slice none 0 0, .int .i64 2] w fun e w' => e = .returned (.bool (hasI fz 0 2)) ∧ w = w') := Lib.hid (fun w hr => hasE_any none 0 0 fz 2 w hr HML.out)
      by_cases hb : hasI fz 0 2 = true
      · rw [hb] at HH
        go_wp2_with fail
        refine (HH.out _ (HRZ.out.below HWR.out)).mono ?_
        rintro e w' ⟨rfl, rfl⟩
        clear HH
        go_wp2_with fail
        go_ret
        exact ⟨⟨2, rfl, fun h => absurd h (by decide), fun h => absurd h (asked_bad (by decide) hb T.out)⟩, HBZ.out.trans (HWR.out.mono HBZ.out.size)⟩
      · have hb2 : hasI fz 0 2 = false := by simpa using hb
        rw [hb2] at HH
        clear hb
        have HB2 := Lib.hid hb2
        clear hb2
        go_wp2_with fail
        refine (HH.out _ (HRZ.out.below HWR.out)).mono ?_
        rintro e w' ⟨rfl, rfl⟩
        clear HH
        go_wp2_with fail
        go_roundw
        case rel => exact ⟨1, by omega, rfl, Lib.hid ⟨fun _ => HB2.out, fun h => absurd h (by omega)⟩, HWR⟩
        case measure => simp [intOf]
    · have HH : Hid (∀ w : World, Rd w none 0 (fun i => .int .i64 (fz i)) → Calls Try.prog 21 #[.slice none 0 0, .int .i64 3] w fun e w' => e = .returned (.bool (hasI fz 0 3)) ∧ w = w') := Lib.hid (fun w hr => hasE_any none 0 0 fz 3 w hr HML.out)
      by_cases hb : hasI fz 0 3 = true
      · rw [hb] at HH
        go_wp2_with fail
        refine (HH.out _ (HRZ.out.below HWR.out)).mono ?_
        rintro e w' ⟨rfl, rfl⟩
        clear HH
        go_wp2_with fail
        go_ret
        exact ⟨⟨3, rfl, fun h => absurd h (by decide), fun h => absurd h (asked_bad (by decide) hb T.out)⟩, HBZ.out.trans (HWR.out.mono HBZ.out.size)⟩
      · have hb2 : hasI fz 0 3 = false := by simpa using hb
        rw [hb2] at HH
        clear hb
        have HB2 := Lib.hid hb2
        clear hb2
        go_wp2_with fail
        refine (HH.out _ (HRZ.out.below HWR.out)).mono ?_
        rintro e w' ⟨rfl, rfl⟩
        clear HH
        go_wp2_with fail
        go_roundw
        case rel => exact ⟨2, by omega, rfl, Lib.hid ⟨fun _ => HAS.out.1 (by omega), fun _ => HB2.out⟩, HWR⟩
        case measure => simp [intOf]
    · go_wp2_with fail
      go_ret
      exact ⟨⟨0, rfl, fun _ => asked_ok VV.out (HAS.out.1 (by omega)) (HAS.out.2 (by omega)) T.out, fun _ => rfl⟩, HBZ.out.trans (HWR.out.mono HBZ.out.size)⟩
set_option maxRecDepth 100000 in
set_option maxHeartbeats 4000000 in
theorem wrongK4
    (D : Nat → SF) (b off n c i : Nat) (W : World) (hin : i < n) (hn : n ≤ 100) (hr : Rd W (some ⟨b, off, none⟩) (n * 6) (fcF D)) (hg : (D i).good W) (hk : (D i).k = 4) :
    Calls Try.prog 17 #[.slice (some ⟨b, off, none⟩) n c, .int .i64 (i : Nat)] W fun e w' => (∃ z, e = .returned (.int .i64 z) ∧ (z = 0 ↔ okFn D i)) ∧ Below W.heap.size W w' := by
  have HR := Lib.hid hr
  obtain ⟨c0, c1, c2, c3, c4, c5⟩ := fc_at hr hin
  have lb : b < W.heap.size := by
    obtain ⟨b', o', e, h, _⟩ := hr.at_ (show 0 < n * 6 by omega)
    cases e
    exact h
  obtain ⟨K, hK⟩ : ∃ z, z = (D i).k := ⟨_, rfl⟩
  obtain ⟨a, ha⟩ : ∃ z, z = (D i).a := ⟨_, rfl⟩
  obtain ⟨p, hp⟩ : ∃ z, z = (D i).p := ⟨_, rfl⟩
  obtain ⟨u, hu⟩ : ∃ z, z = (D i).x := ⟨_, rfl⟩
  obtain ⟨y, hy⟩ : ∃ z, z = (D i).y := ⟨_, rfl⟩
  obtain ⟨s, hs⟩ : ∃ z, z = (D i).s := ⟨_, rfl⟩
  have hok : okFn D i ↔ okFn D i := Iff.rfl
  conv at hok => rhs; unfold okFn; rw [← hK, ← ha, ← hp, ← hu, ← hy, ← hs]
  have hsg := hg.2
  rw [← hs] at hsg
  have hag := hg.1.2.1
  rw [← ha] at hag
  rw [← hK] at c0
  rw [← ha] at c1
  rw [← hp] at c2
  rw [← hu] at c3
  rw [← hy] at c4
  rw [← hs] at c5
  obtain ⟨sA, sn, sc, sf⟩ := s
  change _ = some (Value.slice sA sn sc) at c5
  obtain ⟨hsr, _, hsl, hsm⟩ := hsg
  change Rd W sA sn (fun i => .int .i64 (sf i)) at hsr
  change sn ≤ sc at hsl
  change sc ≤ maxLen at hsm
  unfold maxLen at hsm
  have HSR := Lib.hid hsr
  clear hsr
  rw [← hK] at hk
  have hq : okFn D i ↔ _ := hok
  simp only [] at hok
  have HOK := Lib.hid hok
  clear hok hq hr hK ha hp hu hy hg
  subst hk
  clear hs
  by_cases b1 : a < 0
  · have q0 : ¬ (okFn D i) := fun h => by
      have h := HOK.out.1 h
      have := h.2.1
      omega
    have Q0 := Lib.hid q0
    clear q0
    go_enter Try.func17, Try.ntmps17
    go_wp2_with fail
    go_ret
    exact ⟨⟨1, rfl, fun h => absurd h (by decide), fun h => absurd h Q0.out⟩, (((Below.refl _ _).alloc (Nat.le_refl _) _).alloc (by simp) _).alloc (by simp; omega) _⟩
  by_cases b2 : 4 < a
  · have q0 : ¬ (okFn D i) := fun h => by
      have h := HOK.out.1 h
      have := h.2.1
      omega
    have Q0 := Lib.hid q0
    clear q0
    go_enter Try.func17, Try.ntmps17
    go_wp2_with fail
    go_ret
    exact ⟨⟨1, rfl, fun h => absurd h (by decide), fun h => absurd h Q0.out⟩, (((Below.refl _ _).alloc (Nat.le_refl _) _).alloc (by simp) _).alloc (by simp; omega) _⟩
  by_cases b3 : 4 < sn
  · have q0 : ¬ (okFn D i) := fun h => by
      have h := HOK.out.1 h
      have := (h.2.2.2.2.1 rfl).1
      omega
    have Q0 := Lib.hid q0
    clear q0
    go_enter Try.func17, Try.ntmps17
    go_wp2_with fail
    go_ret
    exact ⟨⟨1, rfl, fun h => absurd h (by decide), fun h => absurd h Q0.out⟩, (((Below.refl _ _).alloc (Nat.le_refl _) _).alloc (by simp) _).alloc (by simp; omega) _⟩
  obtain ⟨e0, he0⟩ : ∃ z, z = thE D i u (sn : Nat) := ⟨_, rfl⟩
  obtain ⟨G, hG⟩ : ∃ G : Nat → Int, G = fun q => if q = 0 then e0 else thE D i (sf (q - 1)) a := ⟨_, rfl⟩
  have G0 : G 0 = e0 := by rw [hG]; rfl
  have GS : Hid (∀ q, G (q + 1) = thE D i (sf q) a) := Lib.hid (fun q => by rw [hG]; rfl)
  have HG0 := Lib.hid G0
  have HE0 := Lib.hid he0
  clear hG G0 he0
  have T : Hid ((∀ q, q < sn + 1 → G q = 0) ↔ okFn D i) := Lib.hid (by
    constructor
    · intro h
      refine HOK.out.2 ⟨by omega, by omega, fun h => by omega, fun h => by omega, fun _ => ⟨by omega, (thE_zero _ _ _ _).1 ?_, fun q hq => (thE_zero _ _ _ _).1 ?_⟩, fun h => by omega⟩
      · rw [← HE0.out, ← HG0.out]; exact h 0 (by omega)
      · rw [← GS.out]; exact h (q + 1) (by omega)
    · intro h q hq
      have h4 := (HOK.out.1 h).2.2.2.2.1 rfl
      cases q with
      | zero => rw [HG0.out, HE0.out]; exact (thE_zero _ _ _ _).2 h4.2.1
      | succ q => rw [GS.out]; exact (thE_zero _ _ _ _).2 (h4.2.2 q (by omega)))
  have VV : Hid (∀ q, q < sn + 1 → G q = 0 ∨ G q = 2 ∨ G q = 3) := Lib.hid fun q _ => by
    cases q with
    | zero => rw [HG0.out, HE0.out]; exact thE_of _ _ _ _
    | succ q => rw [GS.out]; exact thE_of _ _ _ _
  have HML : Hid (sn + 1 ≤ maxLen) := Lib.hid (by unfold maxLen; omega)
  obtain ⟨x, hx⟩ : ∃ x, x = W.heap.size := ⟨_, rfl⟩
  obtain ⟨W3, hW3⟩ : ∃ W3, W3 = ((W.alloc (.cells #[.slice (some ⟨b, off, none⟩) n c] 30)).alloc (.cells #[.int .i64 (i : Nat)] 3)).alloc (.cells #[.int .i64 4, .int .i64 a, .int .i64 p, .int .i64 u, .int .i64 y, .slice sA sn sc] 29) := ⟨_, rfl⟩
  have hb3 : Below W.heap.size W W3 := by rw [hW3]; exact (((Below.refl _ _).alloc (Nat.le_refl _) _).alloc (by simp) _).alloc (by simp; omega) _
  have hs3 : W3.heap.size = x + 3 := by rw [hW3, hx]; simp [go_sem]
  have kl : W3.cell? ⟨x, 0, none⟩ = some (.slice (some ⟨b, off, none⟩) n c) := by rw [hW3, hx]; simp [go_sem]
  have ki : W3.cell? ⟨x + 1, 0, none⟩ = some (.int .i64 (i : Nat)) := by rw [hW3, hx]; simp [go_sem]
  have d0 : W3.cell? ⟨x + 1 + 1, 0, none⟩ = some (.int .i64 4) := by rw [hW3, hx]; simp [go_sem]
  have d1 : W3.cell? ⟨x + 1 + 1, 1, none⟩ = some (.int .i64 a) := by rw [hW3, hx]; simp [go_sem]
  have d2 : W3.cell? ⟨x + 1 + 1, 2, none⟩ = some (.int .i64 p) := by rw [hW3, hx]; simp [go_sem]
  have d3 : W3.cell? ⟨x + 1 + 1, 3, none⟩ = some (.int .i64 u) := by rw [hW3, hx]; simp [go_sem]
  have d4 : W3.cell? ⟨x + 1 + 1, 4, none⟩ = some (.int .i64 y) := by rw [hW3, hx]; simp [go_sem]
  have d5 : W3.cell? ⟨x + 1 + 1, 5, none⟩ = some (.slice sA sn sc) := by rw [hW3, hx]; simp [go_sem]
  have HR3 := Lib.hid (HR.out.below hb3)
  have HSR3 := Lib.hid (HSR.out.below hb3)
  have HW3 := Lib.hid hW3
  have HB3 := Lib.hid hb3
  have HS3 := Lib.hid hs3
  have HX := Lib.hid hx
  have l0 : x < W3.heap.size := by omega
  have l1 : x + 1 < W3.heap.size := by omega
  have l2 : x + 1 + 1 < W3.heap.size := by omega
  clear hW3 hb3 hs3 hx
  have HTH : Hid (∀ (j z : Int) (w : World), Below W3.heap.size W3 w → Calls Try.prog 20 #[.int .i64 j, .int .i64 z, .pointer (some ⟨x + 1, 0, none⟩), .pointer (some ⟨x, 0, none⟩)] w fun e w' => e = .returned (.int .i64 (thE D i j z)) ∧ w = w') := Lib.hid (fun j z w hb => thereG_any D i j z b off (x + 1) x n c w ((hb.cell (p := ⟨x + 1, 0, none⟩) l1).trans ki) ((hb.cell (p := ⟨x, 0, none⟩) l0).trans kl) hin hn (HR3.out.below hb))
  go_enter Try.func17, Try.ntmps17
  go_wp2_with fail
  rw [← HX.out, ← HW3.out]
  refine (HTH.out u (sn : Nat) W3 (Below.refl _ _)).mono ?_
  rw [← HE0.out]
  rintro e w' ⟨rfl, rfl⟩
  have HB0 : Hid (Below W3.heap.size W3 W3) := Lib.hid (Below.refl _ _)
  have HO0 : Hid (Own W3 W3.heap.size 22 1 none 0 0 0 (fun q => .int .i64 (G q))) := Lib.hid (Own.nil _ _ _ _ _)
  obtain ⟨WA, hWA⟩ : ∃ WA, WA = W3.alloc (.cells #[.int .i64 e0] 22) := ⟨_, rfl⟩
  have hbA : Below W3.heap.size W3 WA := by rw [hWA]; exact (Below.refl _ _).alloc (Nat.le_refl _) _
  have HBA := Lib.hid (HB0.out.trans (hbA.mono HB0.out.size))
  have HOA := Lib.hid (HO0.out.below hbA)
  have HRA : Hid (Rd WA (some ⟨W3.heap.size, 0, none⟩) 1 (fun _ => .int .i64 e0)) := Lib.hid (by rw [hWA]; exact Rd.one _ _ _)
  have hsA : W3.heap.size ≤ WA.heap.size := HBA.out.size
  have HWA := Lib.hid hWA
  clear hWA hbA
  go_wp2_with (at_builtin; go_must (rw [← HWA.out]; refine wpList_app _ rfl (.tmp 85) (.tmp 93) 49 rfl EEg rfl HOA.out rfl (l := 1) rfl HRA.out (fun _ _ => rfl) (by unfold maxLen; omega) (by omega) hsA (0 + 1) (0 + 1) rfl rfl ?_); intro A5 n5 w5 hown hgr hat hb5; have HO5 : Hid (Own w5 W3.heap.size 22 1 A5 (0 + 1) n5 (0 + 1) (fun q => .int .i64 (G q))) := Lib.hid (hown.congr fun q hq => by rw [cat_ge (by omega), show q = 0 by omega, HG0.out]); have HB5 := Lib.hid (HBA.out.trans hb5); clear hown hgr hat hb5; have d15 := (HB5.out.cell (p := ⟨x + 1 + 1, 1, none⟩) l2).trans d1; have d55 := (HB5.out.cell (p := ⟨x + 1 + 1, 5, none⟩) l2).trans d5)
  clear d15 d55 HBA HOA HRA HWA HB0 HO0
  go_loopw [8, 98] (fun s8 s98 wr => ∃ (k m c' : Nat) (A' : Option Addr), k ≤ sn ∧ m = k + 1 ∧ s98 = .int .i64 (k : Nat) ∧ s8 = .slice A' m c' ∧ Hid (Own wr W3.heap.size 22 1 A' m c' m (fun q => .int .i64 (G q))) ∧ Hid (Below W3.heap.size W3 wr)) (fun _ s98 _ => sn - (intOf s98).toNat)
  case atStart => exact ⟨0, 0 + 1, n5, A5, by omega, rfl, rfl, rfl, HO5, HB5⟩
  case round =>
    clear HO5 HB5
    obtain ⟨wo, hwo⟩ : ∃ wo : World, wo = wr := ⟨_, rfl⟩
    subst hwo
    obtain ⟨k, m, c', A', hks, hm, rfl, rfl, HO, HB⟩ := hrel
    have HM := Lib.hid hm
    have hm4 : m ≤ 5 := by omega
    clear hm
    have d1' := (HB.out.cell (p := ⟨x + 1 + 1, 1, none⟩) l2).trans d1
    have d0' := (HB.out.cell (p := ⟨x + 1 + 1, 0, none⟩) l2).trans d0
    by_cases hlt : k < sn
    · obtain ⟨b', o', e', lb', hc⟩ := (HSR3.out.below HB.out).at_ hlt
      subst e'
      obtain ⟨v, hv⟩ : ∃ v, v = sf k := ⟨_, rfl⟩
      rw [← hv] at hc
      obtain ⟨e1, he1⟩ : ∃ z, z = thE D i v a := ⟨_, rfl⟩
      have HE1 : Hid (e1 = G (k + 1)) := Lib.hid (by rw [GS.out, he1, hv])
      have HE2 := Lib.hid he1
      clear hv he1
      go_wp2_with fail
      refine (HTH.out v a wo HB.out).mono ?_
      rw [← HE2.out]
      rintro e w' ⟨rfl, rfl⟩
      obtain ⟨WA, hWA⟩ : ∃ WA, WA = wo.alloc (.cells #[.int .i64 e1] 22) := ⟨_, rfl⟩
      have hbA : Below wo.heap.size wo WA := by rw [hWA]; exact (Below.refl _ _).alloc (Nat.le_refl _) _
      have HBA := Lib.hid (HB.out.trans (hbA.mono HB.out.size))
      have HOA := Lib.hid (HO.out.below hbA)
      have HRA : Hid (Rd WA (some ⟨wo.heap.size, 0, none⟩) 1 (fun _ => .int .i64 e1)) := Lib.hid (by rw [hWA]; exact Rd.one _ _ _)
      have hsA : W3.heap.size ≤ WA.heap.size := HBA.out.size
      have HWA := Lib.hid hWA
      clear hWA hbA
      go_wp2_with (at_builtin; go_must (rw [← HWA.out]; refine wpList_app _ rfl (.tmp 102) (.tmp 108) 49 rfl EEg rfl HOA.out rfl (l := 1) rfl HRA.out (fun _ _ => rfl) (by unfold maxLen; omega) (by omega) hsA (m + 1) (m + 1) rfl rfl ?_); intro A5 n5 w5 hown hgr hat hb5; have HO5 : Hid (Own w5 W3.heap.size 22 1 A5 (m + 1) n5 (m + 1) (fun q => .int .i64 (G q))) := Lib.hid (hown.congr fun q hq => by
              unfold cat
              split
              · rfl
              · rw [HE1.out, show q = k + 1 from by have := HM.out; omega]); have HB5 := Lib.hid (HBA.out.trans hb5); clear hown hgr hat hb5)
      go_roundw
      case rel => exact ⟨k + 1, m + 1, n5, A5, by omega, by have := HM.out; omega, by go_num, rfl, HO5, HB5⟩
      case measure => simp [intOf]; omega
    · obtain rfl : k = sn := by omega
      obtain rfl : m = k + 1 := HM.out
      clear HM
      go_wp2_with fail
      obtain ⟨WZ, hWZ⟩ : ∃ W', W' = wo.alloc (.cells #[.int .i64 2, .int .i64 3] 22) := ⟨_, rfl⟩
      have hbZ : Below wo.heap.size wo WZ := by rw [hWZ]; exact (Below.refl _ _).alloc (Nat.le_refl _) _
      have y0 : WZ.cell? ⟨wo.heap.size, 0, none⟩ = some (.int .i64 2) := by rw [hWZ]; simp [go_sem]
      have y1 : WZ.cell? ⟨wo.heap.size, 1, none⟩ = some (.int .i64 3) := by rw [hWZ]; simp [go_sem]
      have lz : wo.heap.size < WZ.heap.size := by rw [hWZ]; simp
      have HRZ := Lib.hid ((HO.out.rd).below hbZ)
      have HBZ := Lib.hid (((HB3.out.trans (HB.out.mono HB3.out.size))).trans (hbZ.mono ((HB3.out.trans (HB.out.mono HB3.out.size))).size))
      rw [← hWZ]
      clear hWZ hbZ
      go_loopw [133] (fun s133 wr => ∃ r : Nat, r ≤ 2 ∧ s133 = .int .i64 (r : Nat) ∧ Hid ((1 ≤ r → hasI G (k + 1) 2 = false) ∧ (2 ≤ r → hasI G (k + 1) 3 = false)) ∧ Hid (Below WZ.heap.size WZ wr)) (fun s133 _ => 2 - (intOf s133).toNat)
      case atStart => exact ⟨0, by omega, rfl, Lib.hid ⟨fun h => absurd h (by omega), fun h => absurd h (by omega)⟩, Lib.hid (Below.refl _ _)⟩
      case round =>
        obtain ⟨wo2, hwo2⟩ : ∃ wo2 : World, wo2 = wr := ⟨_, rfl⟩
        subst hwo2
        obtain ⟨r, hr2, rfl, HAS, HWR⟩ := hrel
        have y0' := (HWR.out.cell (p := ⟨wo.heap.size, 0, none⟩) lz).trans y0
        have y1' := (HWR.out.cell (p := ⟨wo.heap.size, 1, none⟩) lz).trans y1
        have h3 : r = 0 ∨ r = 1 ∨ r = 2 := by omega
        rcases h3 with rfl | rfl | rfl
        · have HH : Hid (∀ w : World, Rd w A' (k + 1) (fun i => .int .i64 (G i)) → Calls Try.prog 21 #[.slice A' (k + 1) c', .int .i64 2] w fun e w' => e = .returned (.bool (hasI G (k + 1) 2)) ∧ w = w') := Lib.hid (fun w hr => hasE_any A' (k + 1) c' G 2 w hr HML.out)
          by_cases hb : hasI G (k + 1) 2 = true
          · rw [hb] at HH
            go_wp2_with fail
            refine (HH.out _ (HRZ.out.below HWR.out)).mono ?_
            rintro e w' ⟨rfl, rfl⟩
            clear HH
            go_wp2_with fail
            go_ret
            exact ⟨⟨2, rfl, fun h => absurd h (by decide), fun h => absurd h (asked_bad (by decide) hb T.out)⟩, HBZ.out.trans (HWR.out.mono HBZ.out.size)⟩
          · have hb2 : hasI G (k + 1) 2 = false := by simpa using hb
            rw [hb2] at HH
            clear hb
            have HB2 := Lib.hid hb2
            clear hb2
            go_wp2_with fail
            refine (HH.out _ (HRZ.out.below HWR.out)).mono ?_
            rintro e w' ⟨rfl, rfl⟩
            clear HH
            go_wp2_with fail
            go_roundw
            case rel => exact ⟨1, by omega, rfl, Lib.hid ⟨fun _ => HB2.out, fun h => absurd h (by omega)⟩, HWR⟩
            case measure => simp [intOf]
        · have HH : Hid (∀ w : World, Rd w A' (k + 1) (fun i => .int .i64 (G i)) → Calls Try.prog 21 #[.slice A' (k + 1) c', .int .i64 3] w fun e w' => e = .returned (.bool (hasI G (k + 1) 3)) ∧ w = w') := Lib.hid (fun w hr => hasE_any A' (k + 1) c' G 3 w hr HML.out)
          by_cases hb : hasI G (k + 1) 3 = true
          · rw [hb] at HH
            go_wp2_with fail
            refine (HH.out _ (HRZ.out.below HWR.out)).mono ?_
            rintro e w' ⟨rfl, rfl⟩
            clear HH
            go_wp2_with fail
            go_ret
            exact ⟨⟨3, rfl, fun h => absurd h (by decide), fun h => absurd h (asked_bad (by decide) hb T.out)⟩, HBZ.out.trans (HWR.out.mono HBZ.out.size)⟩
          · have hb2 : hasI G (k + 1) 3 = false := by simpa using hb
            rw [hb2] at HH
            clear hb
            have HB2 := Lib.hid hb2
            clear hb2
            go_wp2_with fail
            refine (HH.out _ (HRZ.out.below HWR.out)).mono ?_
            rintro e w' ⟨rfl, rfl⟩
            clear HH
            go_wp2_with fail
            go_roundw
            case rel => exact ⟨2, by omega, rfl, Lib.hid ⟨fun _ => HAS.out.1 (by omega), fun _ => HB2.out⟩, HWR⟩
            case measure => simp [intOf]
        · go_wp2_with fail
          go_ret
          exact ⟨⟨0, rfl, fun _ => asked_ok VV.out (HAS.out.1 (by omega)) (HAS.out.2 (by omega)) T.out, fun _ => rfl⟩, HBZ.out.trans (HWR.out.mono HBZ.out.size)⟩
set_option maxRecDepth 100000 in
set_option maxHeartbeats 4000000 in
theorem wrongK5
    (D : Nat → SF) (b off n c i : Nat) (W : World) (hin : i < n) (hn : n ≤ 100) (hr : Rd W (some ⟨b, off, none⟩) (n * 6) (fcF D)) (hg : (D i).good W) (hk : (D i).k = 5) :
    Calls Try.prog 17 #[.slice (some ⟨b, off, none⟩) n c, .int .i64 (i : Nat)] W fun e w' => (∃ z, e = .returned (.int .i64 z) ∧ (z = 0 ↔ okFn D i)) ∧ Below W.heap.size W w' := by
  have HR := Lib.hid hr
  obtain ⟨c0, c1, c2, c3, c4, c5⟩ := fc_at hr hin
  have lb : b < W.heap.size := by
    obtain ⟨b', o', e, h, _⟩ := hr.at_ (show 0 < n * 6 by omega)
    cases e
    exact h
  obtain ⟨K, hK⟩ : ∃ z, z = (D i).k := ⟨_, rfl⟩
  obtain ⟨a, ha⟩ : ∃ z, z = (D i).a := ⟨_, rfl⟩
  obtain ⟨p, hp⟩ : ∃ z, z = (D i).p := ⟨_, rfl⟩
  obtain ⟨u, hu⟩ : ∃ z, z = (D i).x := ⟨_, rfl⟩
  obtain ⟨y, hy⟩ : ∃ z, z = (D i).y := ⟨_, rfl⟩
  obtain ⟨s, hs⟩ : ∃ z, z = (D i).s := ⟨_, rfl⟩
  have hok : okFn D i ↔ okFn D i := Iff.rfl
  conv at hok => rhs; unfold okFn; rw [← hK, ← ha, ← hp, ← hu, ← hy, ← hs]
  have hsg := hg.2
  rw [← hs] at hsg
  have hag := hg.1.2.1
  rw [← ha] at hag
  rw [← hK] at c0
  rw [← ha] at c1
  rw [← hp] at c2
  rw [← hu] at c3
  rw [← hy] at c4
  rw [← hs] at c5
  obtain ⟨sA, sn, sc, sf⟩ := s
  change _ = some (Value.slice sA sn sc) at c5
  obtain ⟨hsr, _, hsl, hsm⟩ := hsg
  change Rd W sA sn (fun i => .int .i64 (sf i)) at hsr
  change sn ≤ sc at hsl
  change sc ≤ maxLen at hsm
  unfold maxLen at hsm
  have HSR := Lib.hid hsr
  clear hsr
  rw [← hK] at hk
  have hq : okFn D i ↔ _ := hok
  simp only [] at hok
  have HOK := Lib.hid hok
  clear hok hq hr hK ha hp hu hy hg
  subst hk
  clear hs
  by_cases b1 : a < 1
  · have q0 : ¬ (okFn D i) := fun h => by
      have h := HOK.out.1 h
      have := (h.2.2.2.2.2 rfl).1
      omega
    have Q0 := Lib.hid q0
    clear q0
    go_enter Try.func17, Try.ntmps17
    go_wp2_with fail
    go_ret
    exact ⟨⟨1, rfl, fun h => absurd h (by decide), fun h => absurd h Q0.out⟩, (((Below.refl _ _).alloc (Nat.le_refl _) _).alloc (by simp) _).alloc (by simp; omega) _⟩
  by_cases b2 : 4 < a
  · have q0 : ¬ (okFn D i) := fun h => by
      have h := HOK.out.1 h
      have := h.2.1
      omega
    have Q0 := Lib.hid q0
    clear q0
    go_enter Try.func17, Try.ntmps17
    go_wp2_with fail
    go_ret
    exact ⟨⟨1, rfl, fun h => absurd h (by decide), fun h => absurd h Q0.out⟩, (((Below.refl _ _).alloc (Nat.le_refl _) _).alloc (by simp) _).alloc (by simp; omega) _⟩
  have WM : Hid (IntKind.i64.wrap (a - 1) = a - 1) := Lib.hid (IntWalk.i64_in _ (by omega))
  have WP : Hid (IntKind.i64.wrap (a + 1) = a + 1) := Lib.hid (IntWalk.i64_in _ (by omega))
  obtain ⟨e0, he0⟩ : ∃ z, z = thE D i u (a - 1) := ⟨_, rfl⟩
  obtain ⟨e1, he1⟩ : ∃ z, z = thE D i y (a + 1) := ⟨_, rfl⟩
  obtain ⟨G, hG⟩ : ∃ G : Nat → Int, G = fun q => if q = 0 then e0 else e1 := ⟨_, rfl⟩
  have HG0 : Hid (G 0 = e0) := Lib.hid (by rw [hG]; rfl)
  have HG1 : Hid (G 1 = e1) := Lib.hid (by rw [hG]; rfl)
  have HE0 := Lib.hid he0
  have HE1 := Lib.hid he1
  clear hG he0 he1
  have T : Hid ((∀ q, q < 2 → G q = 0) ↔ okFn D i) := Lib.hid (by
    constructor
    · intro h
      have z0 := h 0 (by omega)
      have z1 := h 1 (by omega)
      rw [HG0.out, HE0.out, thE_zero] at z0
      rw [HG1.out, HE1.out, thE_zero] at z1
      exact HOK.out.2 ⟨by omega, by omega, fun h => by omega, fun h => by omega, fun h => by omega, fun _ => ⟨by omega, z0, z1⟩⟩
    · intro h q hq
      obtain ⟨_, h5, h6⟩ := (HOK.out.1 h).2.2.2.2.2 rfl
      have : q = 0 ∨ q = 1 := by omega
      rcases this with rfl | rfl
      · rw [HG0.out, HE0.out]; exact (thE_zero _ _ _ _).2 h5
      · rw [HG1.out, HE1.out]; exact (thE_zero _ _ _ _).2 h6)
  have VV : Hid (∀ q, q < 2 → G q = 0 ∨ G q = 2 ∨ G q = 3) := Lib.hid fun q hq => by
    have : q = 0 ∨ q = 1 := by omega
    rcases this with rfl | rfl
    · rw [HG0.out, HE0.out]; exact thE_of _ _ _ _
    · rw [HG1.out, HE1.out]; exact thE_of _ _ _ _
  have HML : Hid (2 ≤ maxLen) := Lib.hid (by unfold maxLen; omega)
  obtain ⟨x, hx⟩ : ∃ x, x = W.heap.size := ⟨_, rfl⟩
  obtain ⟨W3, hW3⟩ : ∃ W3, W3 = ((W.alloc (.cells #[.slice (some ⟨b, off, none⟩) n c] 30)).alloc (.cells #[.int .i64 (i : Nat)] 3)).alloc (.cells #[.int .i64 5, .int .i64 a, .int .i64 p, .int .i64 u, .int .i64 y, .slice sA sn sc] 29) := ⟨_, rfl⟩
  have hb3 : Below W.heap.size W W3 := by rw [hW3]; exact (((Below.refl _ _).alloc (Nat.le_refl _) _).alloc (by simp) _).alloc (by simp; omega) _
  have hs3 : W3.heap.size = x + 3 := by rw [hW3, hx]; simp [go_sem]
  have kl : W3.cell? ⟨x, 0, none⟩ = some (.slice (some ⟨b, off, none⟩) n c) := by rw [hW3, hx]; simp [go_sem]
  have ki : W3.cell? ⟨x + 1, 0, none⟩ = some (.int .i64 (i : Nat)) := by rw [hW3, hx]; simp [go_sem]
  have d0 : W3.cell? ⟨x + 1 + 1, 0, none⟩ = some (.int .i64 5) := by rw [hW3, hx]; simp [go_sem]
  have d1 : W3.cell? ⟨x + 1 + 1, 1, none⟩ = some (.int .i64 a) := by rw [hW3, hx]; simp [go_sem]
  have d2 : W3.cell? ⟨x + 1 + 1, 2, none⟩ = some (.int .i64 p) := by rw [hW3, hx]; simp [go_sem]
  have d3 : W3.cell? ⟨x + 1 + 1, 3, none⟩ = some (.int .i64 u) := by rw [hW3, hx]; simp [go_sem]
  have d4 : W3.cell? ⟨x + 1 + 1, 4, none⟩ = some (.int .i64 y) := by rw [hW3, hx]; simp [go_sem]
  have d5 : W3.cell? ⟨x + 1 + 1, 5, none⟩ = some (.slice sA sn sc) := by rw [hW3, hx]; simp [go_sem]
  have HR3 := Lib.hid (HR.out.below hb3)
  have HSR3 := Lib.hid (HSR.out.below hb3)
  have HW3 := Lib.hid hW3
  have HB3 := Lib.hid hb3
  have HS3 := Lib.hid hs3
  have HX := Lib.hid hx
  have l0 : x < W3.heap.size := by omega
  have l1 : x + 1 < W3.heap.size := by omega
  have l2 : x + 1 + 1 < W3.heap.size := by omega
  clear hW3 hb3 hs3 hx
  have HTH : Hid (∀ (j z : Int) (w : World), Below W3.heap.size W3 w → Calls Try.prog 20 #[.int .i64 j, .int .i64 z, .pointer (some ⟨x + 1, 0, none⟩), .pointer (some ⟨x, 0, none⟩)] w fun e w' => e = .returned (.int .i64 (thE D i j z)) ∧ w = w') := Lib.hid (fun j z w hb => thereG_any D i j z b off (x + 1) x n c w ((hb.cell (p := ⟨x + 1, 0, none⟩) l1).trans ki) ((hb.cell (p := ⟨x, 0, none⟩) l0).trans kl) hin hn (HR3.out.below hb))
  have hdr : Below W3.heap.size W3 W3.drew := (Below.refl _ _).drew
  go_enter Try.func17, Try.ntmps17
  go_wp2_with fail
  rw [← HX.out, ← HW3.out]
  have HS0 : Hid (W3.drew.cell? ⟨x + 1 + 1, 3, none⟩ = some (.int .i64 u) ∧ W3.drew.cell? ⟨x + 1 + 1, 1, none⟩ = some (.int .i64 a) ∧ W3.drew.cell? ⟨x + 1 + 1, 4, none⟩ = some (.int .i64 y)) := Lib.hid ⟨d3, d1, d4⟩
  refine wp_region_any (by kernel_rfl) ?_
  change wpAny _ _ _ _ _ _ _ (World.drew _)
  refine any_of_T (S := fun W => W.cell? ⟨x + 1 + 1, 3, none⟩ = some (.int .i64 u) ∧ W.cell? ⟨x + 1 + 1, 1, none⟩ = some (.int .i64 a) ∧ W.cell? ⟨x + 1 + 1, 4, none⟩ = some (.int .i64 y)) (c := 14) _ _ _ _ ?_
  refine anyT_takeY (i := 0) (v := ?_) rfl (by decide +kernel) (by decide +kernel) (by decide +kernel) (by decide +kernel) (fun _ _ _ h => h) (Or.inl ⟨by rfl, ?_⟩) HS0.out ?_
  rotate_left 1
  · intro w _; go_simp; with_reducible rfl
  simp only [Act.put, List.getElem_toArray, List.getElem_cons_zero, List.getElem_cons_succ, List.setIfInBounds_toArray, List.set_cons_zero, List.set_cons_succ]
  refine anyT_takeY (i := 1) (v := ?_) rfl (by decide +kernel) (by decide +kernel) (by decide +kernel) (by decide +kernel) (fun _ _ _ h => h) (Or.inl ⟨by rfl, ?_⟩) HS0.out ?_
  rotate_left 1
  · intro w _; go_simp; with_reducible rfl
  simp only [Act.put, List.getElem_toArray, List.getElem_cons_zero, List.getElem_cons_succ, List.setIfInBounds_toArray, List.set_cons_zero, List.set_cons_succ]
  refine anyT_takeY (i := 2) (v := ?_) rfl (by decide +kernel) (by decide +kernel) (by decide +kernel) (by decide +kernel) (fun _ _ _ h => h) (Or.inl ⟨by rfl, ?_⟩) HS0.out ?_
  rotate_left 1
  · intro w _; go_simp; with_reducible rfl
  simp only [Act.put, List.getElem_toArray, List.getElem_cons_zero, List.getElem_cons_succ, List.setIfInBounds_toArray, List.set_cons_zero, List.set_cons_succ]
  refine anyT_takeL [7, 14] (i := 3) (v := ?_) rfl (by decide +kernel) (by decide +kernel) (by decide +kernel) (by decide +kernel) (by decide +kernel) (by decide +kernel) (fun _ _ _ h => h) (Or.inl ⟨by rfl, ?_⟩) HS0.out ?_
  rotate_left 1
  · intro w hS; obtain ⟨s0, s1, s2⟩ := hS; go_simp; with_reducible rfl
  simp only [Act.put, List.getElem_toArray, List.getElem_cons_zero, List.getElem_cons_succ, List.setIfInBounds_toArray, List.set_cons_zero, List.set_cons_succ]
  refine anyT_takeY (i := 4) (v := ?_) rfl (by decide +kernel) (by decide +kernel) (by decide +kernel) (by decide +kernel) (fun _ _ _ h => h) (Or.inl ⟨by rfl, ?_⟩) HS0.out ?_
  rotate_left 1
  · intro w _; go_simp; with_reducible rfl
  simp only [Act.put, List.getElem_toArray, List.getElem_cons_zero, List.getElem_cons_succ, List.setIfInBounds_toArray, List.set_cons_zero, List.set_cons_succ]
  refine anyT_takeL [6, 7, 14] (i := 5) (v := ?_) rfl (by decide +kernel) (by decide +kernel) (by decide +kernel) (by decide +kernel) (by decide +kernel) (by decide +kernel) (fun _ _ _ h => h) (Or.inl ⟨by rfl, ?_⟩) HS0.out ?_
  rotate_left 1
  · intro w hS; obtain ⟨s0, s1, s2⟩ := hS; go_simp; with_reducible rfl
  simp only [Act.put, List.getElem_toArray, List.getElem_cons_zero, List.getElem_cons_succ, List.setIfInBounds_toArray, List.set_cons_zero, List.set_cons_succ]
  refine anyT_takeY (i := 6) (v := ?_) rfl (by decide +kernel) (by decide +kernel) (by decide +kernel) (by decide +kernel) (fun _ _ _ h => h) (Or.inl ⟨by rfl, ?_⟩) HS0.out ?_
  rotate_left 1
  · intro w _; go_simp; with_reducible rfl
  simp only [Act.put, List.getElem_toArray, List.getElem_cons_zero, List.getElem_cons_succ, List.setIfInBounds_toArray, List.set_cons_zero, List.set_cons_succ]
  refine anyT_takeY (i := 8) (v := ?_) rfl (by decide +kernel) (by decide +kernel) (by decide +kernel) (by decide +kernel) (fun _ _ _ h => h) (Or.inl ⟨by rfl, ?_⟩) HS0.out ?_
  rotate_left 1
  · intro w _; go_simp; with_reducible rfl
  simp only [Act.put, List.getElem_toArray, List.getElem_cons_zero, List.getElem_cons_succ, List.setIfInBounds_toArray, List.set_cons_zero, List.set_cons_succ]
  refine anyT_takeY (i := 9) (v := ?_) rfl (by decide +kernel) (by decide +kernel) (by decide +kernel) (by decide +kernel) (fun _ _ _ h => h) (Or.inl ⟨by rfl, ?_⟩) HS0.out ?_
  rotate_left 1
  · intro w _; go_simp; with_reducible rfl
  simp only [Act.put, List.getElem_toArray, List.getElem_cons_zero, List.getElem_cons_succ, List.setIfInBounds_toArray, List.set_cons_zero, List.set_cons_succ]
  refine anyT_takeL [14] (i := 10) (v := ?_) rfl (by decide +kernel) (by decide +kernel) (by decide +kernel) (by decide +kernel) (by decide +kernel) (by decide +kernel) (fun _ _ _ h => h) (Or.inl ⟨by rfl, ?_⟩) HS0.out ?_
  rotate_left 1
  · intro w hS; obtain ⟨s0, s1, s2⟩ := hS; go_simp; with_reducible rfl
  simp only [Act.put, List.getElem_toArray, List.getElem_cons_zero, List.getElem_cons_succ, List.setIfInBounds_toArray, List.set_cons_zero, List.set_cons_succ]
  refine anyT_takeY (i := 11) (v := ?_) rfl (by decide +kernel) (by decide +kernel) (by decide +kernel) (by decide +kernel) (fun _ _ _ h => h) (Or.inl ⟨by rfl, ?_⟩) HS0.out ?_
  rotate_left 1
  · intro w _; go_simp; with_reducible rfl
  simp only [Act.put, List.getElem_toArray, List.getElem_cons_zero, List.getElem_cons_succ, List.setIfInBounds_toArray, List.set_cons_zero, List.set_cons_succ]
  refine anyT_takeL [13, 14] (i := 12) (v := ?_) rfl (by decide +kernel) (by decide +kernel) (by decide +kernel) (by decide +kernel) (by decide +kernel) (by decide +kernel) (fun _ _ _ h => h) (Or.inl ⟨by rfl, ?_⟩) HS0.out ?_
  rotate_left 1
  · intro w hS; obtain ⟨s0, s1, s2⟩ := hS; go_simp; with_reducible rfl
  simp only [Act.put, List.getElem_toArray, List.getElem_cons_zero, List.getElem_cons_succ, List.setIfInBounds_toArray, List.set_cons_zero, List.set_cons_succ]
  refine anyT_takeY (i := 13) (v := ?_) rfl (by decide +kernel) (by decide +kernel) (by decide +kernel) (by decide +kernel) (fun _ _ _ h => h) (Or.inl ⟨by rfl, ?_⟩) HS0.out ?_
  rotate_left 1
  · intro w _; go_simp; with_reducible rfl
  simp only [Act.put, List.getElem_toArray, List.getElem_cons_zero, List.getElem_cons_succ, List.setIfInBounds_toArray, List.set_cons_zero, List.set_cons_succ]
  refine anyT_one (i := 7) (by decide +kernel) rfl (fun KK hK => ?_)
  go_simp
  rw [WM.out]
  refine (HTH.out u (a - 1) W3.drew hdr).mono ?_
  rw [← HE0.out]
  rintro e w' ⟨rfl, rfl⟩
  try go_simp
  refine hK.out _ _ (fun _ => HS0.out) ?_
  clear hK KK
  try simp only [Act.put, List.getElem_toArray, List.getElem_cons_zero, List.getElem_cons_succ, List.setIfInBounds_toArray, List.set_cons_zero, List.set_cons_succ]
  refine anyT_one (i := 14) (by decide +kernel) rfl (fun KK hK => ?_)
  go_simp
  rw [WP.out]
  refine (HTH.out y (a + 1) W3.drew hdr).mono ?_
  rw [← HE1.out]
  rintro e w' ⟨rfl, rfl⟩
  try go_simp
  refine hK.out _ _ (fun h => absurd h (by decide +kernel)) ?_
  clear hK KK
  try simp only [Act.put, List.getElem_toArray, List.getElem_cons_zero, List.getElem_cons_succ, List.setIfInBounds_toArray, List.set_cons_zero, List.set_cons_succ]
  refine T_of_any _ _ _ _ (by decide +kernel) ?_
  refine wpAny_ready (rs := [15]) (by decide +kernel) (by simp) ?_
  refine AllReady.cons rfl (fun KK hK => ?_) AllReady.nil
  go_simp
  refine hK _ _ ?_
  clear hK KK
  try simp only [Act.put, List.getElem_toArray, List.getElem_cons_zero, List.getElem_cons_succ, List.setIfInBounds_toArray, List.set_cons_zero, List.set_cons_succ]
  obtain ⟨WA, hWA⟩ : ∃ WA, WA = (W3.alloc (.cells #[.int .i64 e0, .int .i64 e1] 22)).drew := ⟨_, rfl⟩
  have hbA : Below W3.heap.size W3 WA := by rw [hWA]; exact ((Below.refl _ _).alloc (Nat.le_refl _) _).drew
  have HRA : Hid (Rd WA (some ⟨W3.heap.size, 0, none⟩) 2 (fun q => .int .i64 (G q))) := Lib.hid (by
    rw [hWA]
    exact (Rd.of_row ((World.rowIs_alloc W3 #[.int .i64 e0, .int .i64 e1] 22 (fun q => .int .i64 (G q)) (fun i hi => by
      have : i = 0 ∨ i = 1 := by simp at hi; omega
      rcases this with rfl | rfl
      · rw [HG0.out]; rfl
      · rw [HG1.out]; rfl)) : _) (Nat.le_refl 2)).drew)
  have HBA := Lib.hid hbA
  rw [← hWA]
  clear hWA hbA
  refine wpAny_ready (rs := [16]) (by decide +kernel) (by simp) ?_
  refine AllReady.cons rfl (fun KK hK => ?_) AllReady.nil
  refine step_app WA rfl (.tmp 114) (.tmp 129) 49 rfl EEg rfl (Own.nil WA W3.heap.size 22 1 (fun q => .int .i64 (G q))) rfl (l := 2) rfl HRA.out (fun _ _ => rfl) (by unfold maxLen; omega) (by omega) HBA.out.size 2 2 rfl rfl ?_
  intro A5 n5 w5 hown hgr hat hb5
  have HO5 : Hid (Own w5 W3.heap.size 22 1 A5 2 n5 2 (fun q => .int .i64 (G q))) := Lib.hid (hown.congr fun q _ => by unfold cat; rw [if_neg (by omega)]; rfl)
  have HB5 := Lib.hid (HBA.out.trans hb5)
  clear hown hgr hat hb5 HRA HBA
  refine hK _ _ ?_
  clear hK KK
  try simp only [Act.put, List.getElem_toArray, List.getElem_cons_zero, List.getElem_cons_succ, List.setIfInBounds_toArray, List.set_cons_zero, List.set_cons_succ]
  refine wpAny_take (i := 17) (v := ?_) rfl (by decide +kernel) (by decide +kernel) (by decide +kernel) (fun _ _ _ h => h) (Or.inl ⟨by rfl, ?_⟩) ?_
  rotate_left 1
  · intro w; go_simp; with_reducible rfl
  simp only [Act.put, List.getElem_toArray, List.getElem_cons_zero, List.getElem_cons_succ, List.setIfInBounds_toArray, List.set_cons_zero, List.set_cons_succ]
  refine wpAny_done (by decide +kernel) ?_ _
  obtain ⟨wo, hwo⟩ : ∃ wo, wo = w5 := ⟨_, rfl⟩
  rw [← hwo] at HO5 HB5 ⊢
  clear hwo kl ki d0 d1 d2 d3 d4 d5 c0 c1 c2 c3 c4 c5
  go_wp2_with fail
  obtain ⟨WZ, hWZ⟩ : ∃ W', W' = wo.alloc (.cells #[.int .i64 2, .int .i64 3] 22) := ⟨_, rfl⟩
  have hbZ : Below wo.heap.size wo WZ := by rw [hWZ]; exact (Below.refl _ _).alloc (Nat.le_refl _) _
  have y0 : WZ.cell? ⟨wo.heap.size, 0, none⟩ = some (.int .i64 2) := by rw [hWZ]; simp [go_sem]
  have y1 : WZ.cell? ⟨wo.heap.size, 1, none⟩ = some (.int .i64 3) := by rw [hWZ]; simp [go_sem]
  have lz : wo.heap.size < WZ.heap.size := by rw [hWZ]; simp
  have HRZ := Lib.hid ((HO5.out.rd).below hbZ)
  have HBZ := Lib.hid (((HB3.out.trans (HB5.out.mono HB3.out.size))).trans (hbZ.mono ((HB3.out.trans (HB5.out.mono HB3.out.size))).size))
  rw [← hWZ]
  clear hWZ hbZ
  go_loopw [133] (fun s133 wr => ∃ r : Nat, r ≤ 2 ∧ s133 = .int .i64 (r : Nat) ∧ Hid ((1 ≤ r → hasI G 2 2 = false) ∧ (2 ≤ r → hasI G 2 3 = false)) ∧ Hid (Below WZ.heap.size WZ wr)) (fun s133 _ => 2 - (intOf s133).toNat)
  case atStart => exact ⟨0, by omega, rfl, Lib.hid ⟨fun h => absurd h (by omega), fun h => absurd h (by omega)⟩, Lib.hid (Below.refl _ _)⟩
  case round =>
    obtain ⟨wo2, hwo2⟩ : ∃ wo2 : World, wo2 = wr := ⟨_, rfl⟩
    subst hwo2
    obtain ⟨r, hr2, rfl, HAS, HWR⟩ := hrel
    have y0' := (HWR.out.cell (p := ⟨wo.heap.size, 0, none⟩) lz).trans y0
    have y1' := (HWR.out.cell (p := ⟨wo.heap.size, 1, none⟩) lz).trans y1
    have h3 : r = 0 ∨ r = 1 ∨ r = 2 := by omega
    rcases h3 with rfl | rfl | rfl
    · have HH : Hid (∀ w : World, Rd w A5 2 (fun i => .int .i64 (G i)) → Calls Try.prog 21 #[.slice A5 2 n5, .int .i64 2] w fun e w' => e = .returned (.bool (hasI G 2 2)) ∧ w = w') := Lib.hid (fun w hr => hasE_any A5 2 n5 G 2 w hr HML.out)
      by_cases hb : hasI G 2 2 = true
      · rw [hb] at HH
        go_wp2_with fail
        refine (HH.out _ (HRZ.out.below HWR.out)).mono ?_
        rintro e w' ⟨rfl, rfl⟩
        clear HH
        go_wp2_with fail
        go_ret
        exact ⟨⟨2, rfl, fun h => absurd h (by decide), fun h => absurd h (asked_bad (by decide) hb T.out)⟩, HBZ.out.trans (HWR.out.mono HBZ.out.size)⟩
      · have hb2 : hasI G 2 2 = false := by simpa using hb
        rw [hb2] at HH
        clear hb
        have HB2 := Lib.hid hb2
        clear hb2
        go_wp2_with fail
        refine (HH.out _ (HRZ.out.below HWR.out)).mono ?_
        rintro e w' ⟨rfl, rfl⟩
        clear HH
        go_wp2_with fail
        go_roundw
        case rel => exact ⟨1, by omega, rfl, Lib.hid ⟨fun _ => HB2.out, fun h => absurd h (by omega)⟩, HWR⟩
        case measure => simp [intOf]
    · have HH : Hid (∀ w : World, Rd w A5 2 (fun i => .int .i64 (G i)) → Calls Try.prog 21 #[.slice A5 2 n5, .int .i64 3] w fun e w' => e = .returned (.bool (hasI G 2 3)) ∧ w = w') := Lib.hid (fun w hr => hasE_any A5 2 n5 G 3 w hr HML.out)
      by_cases hb : hasI G 2 3 = true
      · rw [hb] at HH
        go_wp2_with fail
        refine (HH.out _ (HRZ.out.below HWR.out)).mono ?_
        rintro e w' ⟨rfl, rfl⟩
        clear HH
        go_wp2_with fail
        go_ret
        exact ⟨⟨3, rfl, fun h => absurd h (by decide), fun h => absurd h (asked_bad (by decide) hb T.out)⟩, HBZ.out.trans (HWR.out.mono HBZ.out.size)⟩
      · have hb2 : hasI G 2 3 = false := by simpa using hb
        rw [hb2] at HH
        clear hb
        have HB2 := Lib.hid hb2
        clear hb2
        go_wp2_with fail
        refine (HH.out _ (HRZ.out.below HWR.out)).mono ?_
        rintro e w' ⟨rfl, rfl⟩
        clear HH
        go_wp2_with fail
        go_roundw
        case rel => exact ⟨2, by omega, rfl, Lib.hid ⟨fun _ => HAS.out.1 (by omega), fun _ => HB2.out⟩, HWR⟩
        case measure => simp [intOf]
    · go_wp2_with fail
      go_ret
      exact ⟨⟨0, rfl, fun _ => asked_ok VV.out (HAS.out.1 (by omega)) (HAS.out.2 (by omega)) T.out, fun _ => rfl⟩, HBZ.out.trans (HWR.out.mono HBZ.out.size)⟩
set_option maxRecDepth 100000 in
theorem wrongG_any
    (D : Nat → SF) (b off n c i : Nat) (W : World) (hin : i < n) (hn : n ≤ 100) (hr : Rd W (some ⟨b, off, none⟩) (n * 6) (fcF D)) (hg : (D i).good W) :
    Calls Try.prog 17 #[.slice (some ⟨b, off, none⟩) n c, .int .i64 (i : Nat)] W fun e w' => (∃ z, e = .returned (.int .i64 z) ∧ (z = 0 ↔ okFn D i)) ∧ Below W.heap.size W w' := by
  by_cases h0 : (D i).k < 1
  · exact wrongK0 D b off n c i W hin hn hr hg h0
  by_cases h6 : 5 < (D i).k
  · exact wrongK6 D b off n c i W hin hn hr hg h6
  have h : (D i).k = 1 ∨ (D i).k = 2 ∨ (D i).k = 3 ∨ (D i).k = 4 ∨ (D i).k = 5 := by omega
  rcases h with h | h | h | h | h
  · exact wrongK1 D b off n c i W hin hn hr hg h
  · exact wrongK2 D b off n c i W hin hn hr hg h
  · exact wrongK3 D b off n c i W hin hn hr hg h
  · exact wrongK4 D b off n c i W hin hn hr hg h
  · exact wrongK5 D b off n c i W hin hn hr hg h
end Go.Proofs.Ytjnoolfdlgocjaa
