/- The references' FuncsCheck. Condition: the list reads as told. -/
import Derived.Test.YtjnoolfdlgocjaaFnWrong
import Derived.Test.YtjnoolfdlgocjaaInside
import Derived.IntWalk
import Derived.BigQuiet
import Derived.Deep.RegionLaw
namespace Go.Proofs.Ytjnoolfdlgocjaa
open Go.ChangeShapes Go.WideShapes Go.ChangeAt Go.RowKit
set_option linter.unusedVariables false
set_option linter.unusedSimpArgs false
set_option maxRecDepth 100000 in
set_option maxHeartbeats 8000000 in
theorem frefG_any (D : Nat → SF) (A : Option Addr) (n c : Nat) (W : World) (hn : n ≤ maxLen) (hr : Rd W A (n * 6) (fcF D)) (hg : ∀ i, (D i).good W) :
    Calls Try.prog 10 #[.slice A n c] W fun e w' => (∃ z, e = .returned (.int .i64 z) ∧ (z = 0 ↔ okFs D n)) ∧ Below W.heap.size W w' := by
  unfold maxLen at hn
  have HR := Lib.hid hr
  have HG := Lib.hid hg
  clear hg
  by_cases h1 : ¬ (1 ≤ (n : Int) ∧ (n : Int) ≤ 12)
  · clear hr
    have Q0 : Hid (¬ okFs D n) := Lib.hid fun h => by have := h.1; have := h.2.1; omega
    go_enter Try.func10, Try.ntmps10
    go_wp2_with fail
    refine (within_any 1 (n : Nat) 12 W).mono ?_
    rintro e w' ⟨rfl, rfl⟩
    rw [inB_no h1]
    go_wp2_with fail
    go_ret
    exact ⟨⟨1, rfl, fun h => absurd h (by decide), fun h => absurd h Q0.out⟩, Below.refl _ _⟩
  have h1' : 1 ≤ n ∧ n ≤ 12 := by omega
  obtain ⟨b, off, rfl, hlb, _⟩ := hr.at_ (show 0 < n * 6 by omega)
  clear hr h1
  go_enter Try.func10, Try.ntmps10
  go_wp2_with fail
  refine (within_any 1 (n : Nat) 12 W).mono ?_
  rintro e w' ⟨rfl, rfl⟩
  rw [inB_yes (by omega) (by omega)]
  go_wp2_with fail
  go_loopw [14] (fun s14 wr => ∃ t : Nat, t ≤ n ∧ s14 = .int .i64 (t : Nat) ∧ Hid (∀ j, j < t → okFn D j) ∧ Hid (Below W.heap.size W wr)) (fun s14 _ => n - (intOf s14).toNat)
  case atStart => exact ⟨0, by omega, rfl, Lib.hid fun j h => absurd h (by omega), Lib.hid (Below.refl _ _)⟩
  case round =>
    obtain ⟨wo, rfl⟩ : ∃ wo : World, wo = wr := ⟨_, rfl⟩
    obtain ⟨t, ht, rfl, HAL, HB⟩ := hrel
    have hzo := HB.out.size
    by_cases hlt : t < n
    case neg =>
      obtain rfl : t = n := by omega
      go_wp2_with fail
      go_ret
      exact ⟨⟨0, rfl, fun _ => ⟨by omega, by omega, HAL.out⟩, fun _ => rfl⟩, HB.out⟩
    have HRo := Lib.hid (HR.out.below HB.out)
    obtain ⟨c0, c1, c2, c3, c4, c5⟩ := fc_at HRo.out hlt
    have lb : b < wo.heap.size := by omega
    obtain ⟨f, hf⟩ : ∃ f, f = D t := ⟨_, rfl⟩
    have hsg := ((HG.out t).below HB.out).2
    have hag := (HG.out t).1.2.1
    rw [← hf] at c0 c1 c2 c3 c4 c5 hsg hag
    obtain ⟨fk, fa, fp, fx, fy, ⟨sA, sn, fc, sf⟩⟩ := f
    change _ = some (Value.slice sA sn fc) at c5
    simp only [] at c0 c1 c2 c3 c4 hag
    obtain ⟨hsr, _, hsl, hsm⟩ := hsg
    change Rd wo sA sn (fun i => .int .i64 (sf i)) at hsr
    change sn ≤ fc at hsl
    change fc ≤ maxLen at hsm
    unfold maxLen at hsm
    have HSR := Lib.hid hsr
    have e0 : (D t).k = fk := by rw [← hf]
    have e1 : (D t).a = fa := by rw [← hf]
    have e2 : (D t).p = fp := by rw [← hf]
    have e3 : (D t).x = fx := by rw [← hf]
    have e4 : (D t).y = fy := by rw [← hf]
    have e5 : (D t).s.n = sn := by rw [← hf]
    have e6 : (D t).s.f = sf := by rw [← hf]
    have hok : okFn D t ↔ okFn D t := Iff.rfl
    conv at hok => rhs; unfold okFn; rw [e0, e1, e2, e3, e4, e5, e6]
    have HOK := Lib.hid hok
    have HBADD : Hid (¬ okFn D t → ¬ okFs D n) := Lib.hid fun h h2 => h (h2.2.2 t hlt)
    have HGO : Hid (okFn D t → ∀ j, j < t + 1 → okFn D j) := Lib.hid fun h j hj => by
      by_cases e : j = t
      · subst e; exact h
      · exact HAL.out j (by omega)
    clear hsr hok e0 e1 e2 e3 e4 e5 e6 hf
    by_cases hk15 : 1 ≤ fk ∧ fk ≤ 5
    case neg =>
      have Q0 : Hid (¬ okFn D t) := Lib.hid fun h => by
        have h := HOK.out.1 h
        exact hk15 h.1
      obtain ⟨x, hx⟩ : ∃ x, x = wo.heap.size := ⟨_, rfl⟩
      obtain ⟨W1, hW1⟩ : ∃ W1, W1 = wo.alloc (.cells #[.int .i64 fk, .int .i64 fa, .int .i64 fp, .int .i64 fx, .int .i64 fy, .slice sA sn fc] 29) := ⟨_, rfl⟩
      have hb1 : Below wo.heap.size wo W1 := by rw [hW1]; exact (Below.refl _ _).alloc (Nat.le_refl _) _
      have hs1 : W1.heap.size = x + 1 := by rw [hW1, hx]; simp [go_sem]
      have d0 : W1.cell? ⟨x, 0, none⟩ = some (.int .i64 fk) := by rw [hW1, hx]; simp [go_sem]
      have d1 : W1.cell? ⟨x, 1, none⟩ = some (.int .i64 fa) := by rw [hW1, hx]; simp [go_sem]
      have d2 : W1.cell? ⟨x, 2, none⟩ = some (.int .i64 fp) := by rw [hW1, hx]; simp [go_sem]
      have d3 : W1.cell? ⟨x, 3, none⟩ = some (.int .i64 fx) := by rw [hW1, hx]; simp [go_sem]
      have d4 : W1.cell? ⟨x, 4, none⟩ = some (.int .i64 fy) := by rw [hW1, hx]; simp [go_sem]
      have d5 : W1.cell? ⟨x, 5, none⟩ = some (.slice sA sn fc) := by rw [hW1, hx]; simp [go_sem]
      have HB1 := Lib.hid (HB.out.trans (hb1.mono HB.out.size))
      have HR1 := Lib.hid (HRo.out.below hb1)
      have HS1 := Lib.hid (HSR.out.below hb1)
      have HW1 := Lib.hid hW1
      have HX := Lib.hid hx
      have HZ1 := Lib.hid hs1
      have l0 : x < W1.heap.size := by omega
      have lb1 : b < W1.heap.size := by omega
      clear hW1 hx hs1 hb1
      go_wp2_with fail
      rw [← HX.out, ← HW1.out]
      refine (within_any 1 fk 5 W1).mono ?_
      rintro e w' ⟨rfl, rfl⟩
      rw [inB_no hk15]
      go_wp2_with fail
      go_ret
      exact ⟨⟨6, rfl, fun h => absurd h (by decide), fun h => absurd h (HBADD.out Q0.out)⟩, HB1.out⟩
    have hk5 : fk = 1 ∨ fk = 2 ∨ fk = 3 ∨ fk = 4 ∨ fk = 5 := by omega
    rcases hk5 with e | e | e | e | e
    · subst e
      obtain ⟨x, hx⟩ : ∃ x, x = wo.heap.size := ⟨_, rfl⟩
      obtain ⟨W1, hW1⟩ : ∃ W1, W1 = wo.alloc (.cells #[.int .i64 1, .int .i64 fa, .int .i64 fp, .int .i64 fx, .int .i64 fy, .slice sA sn fc] 29) := ⟨_, rfl⟩
      have hb1 : Below wo.heap.size wo W1 := by rw [hW1]; exact (Below.refl _ _).alloc (Nat.le_refl _) _
      have hs1 : W1.heap.size = x + 1 := by rw [hW1, hx]; simp [go_sem]
      have d0 : W1.cell? ⟨x, 0, none⟩ = some (.int .i64 1) := by rw [hW1, hx]; simp [go_sem]
      have d1 : W1.cell? ⟨x, 1, none⟩ = some (.int .i64 fa) := by rw [hW1, hx]; simp [go_sem]
      have d2 : W1.cell? ⟨x, 2, none⟩ = some (.int .i64 fp) := by rw [hW1, hx]; simp [go_sem]
      have d3 : W1.cell? ⟨x, 3, none⟩ = some (.int .i64 fx) := by rw [hW1, hx]; simp [go_sem]
      have d4 : W1.cell? ⟨x, 4, none⟩ = some (.int .i64 fy) := by rw [hW1, hx]; simp [go_sem]
      have d5 : W1.cell? ⟨x, 5, none⟩ = some (.slice sA sn fc) := by rw [hW1, hx]; simp [go_sem]
      have HB1 := Lib.hid (HB.out.trans (hb1.mono HB.out.size))
      have HR1 := Lib.hid (HRo.out.below hb1)
      have HS1 := Lib.hid (HSR.out.below hb1)
      have HW1 := Lib.hid hW1
      have HX := Lib.hid hx
      have HZ1 := Lib.hid hs1
      have l0 : x < W1.heap.size := by omega
      have lb1 : b < W1.heap.size := by omega
      clear hW1 hx hs1 hb1
      go_wp2_with fail
      rw [← HX.out, ← HW1.out]
      refine (within_any 1 1 5 W1).mono ?_
      rintro e w' ⟨rfl, rfl⟩
      rw [inB_yes (by decide) (by decide)]
      go_wp2_with fail
      refine (within_any 0 fa 4 W1).mono ?_
      rintro e w' ⟨rfl, rfl⟩
      by_cases ha : 0 ≤ fa ∧ fa ≤ 4
      case neg =>
        rw [inB_no ha]
        have Q0 : Hid (¬ okFn D t) := Lib.hid fun h => by
          have h := HOK.out.1 h
          have := h.2.1
          omega
        go_wp2_with fail
        go_ret
        exact ⟨⟨1, rfl, fun h => absurd h (by decide), fun h => absurd h (HBADD.out Q0.out)⟩, HB1.out⟩
      rw [inB_yes ha.1 ha.2]
      have HO2 : Hid (okFn D t) := Lib.hid (HOK.out.2 ⟨⟨by omega, by omega⟩, ⟨by omega, by omega⟩, fun h => absurd h (by decide), fun h => absurd h (by decide), fun h => absurd h (by decide), fun h => absurd h (by decide)⟩)
      go_wp2_with fail
      go_roundw
      case rel => exact ⟨t + 1, by omega, by go_num, Lib.hid (HGO.out HO2.out), Lib.hid HB1.out⟩
      case measure => simp [intOf]; omega
    · subst e
      obtain ⟨x, hx⟩ : ∃ x, x = wo.heap.size := ⟨_, rfl⟩
      obtain ⟨W1, hW1⟩ : ∃ W1, W1 = wo.alloc (.cells #[.int .i64 2, .int .i64 fa, .int .i64 fp, .int .i64 fx, .int .i64 fy, .slice sA sn fc] 29) := ⟨_, rfl⟩
      have hb1 : Below wo.heap.size wo W1 := by rw [hW1]; exact (Below.refl _ _).alloc (Nat.le_refl _) _
      have hs1 : W1.heap.size = x + 1 := by rw [hW1, hx]; simp [go_sem]
      have d0 : W1.cell? ⟨x, 0, none⟩ = some (.int .i64 2) := by rw [hW1, hx]; simp [go_sem]
      have d1 : W1.cell? ⟨x, 1, none⟩ = some (.int .i64 fa) := by rw [hW1, hx]; simp [go_sem]
      have d2 : W1.cell? ⟨x, 2, none⟩ = some (.int .i64 fp) := by rw [hW1, hx]; simp [go_sem]
      have d3 : W1.cell? ⟨x, 3, none⟩ = some (.int .i64 fx) := by rw [hW1, hx]; simp [go_sem]
      have d4 : W1.cell? ⟨x, 4, none⟩ = some (.int .i64 fy) := by rw [hW1, hx]; simp [go_sem]
      have d5 : W1.cell? ⟨x, 5, none⟩ = some (.slice sA sn fc) := by rw [hW1, hx]; simp [go_sem]
      have HB1 := Lib.hid (HB.out.trans (hb1.mono HB.out.size))
      have HR1 := Lib.hid (HRo.out.below hb1)
      have HS1 := Lib.hid (HSR.out.below hb1)
      have HW1 := Lib.hid hW1
      have HX := Lib.hid hx
      have HZ1 := Lib.hid hs1
      have l0 : x < W1.heap.size := by omega
      have lb1 : b < W1.heap.size := by omega
      clear hW1 hx hs1 hb1
      go_wp2_with fail
      rw [← HX.out, ← HW1.out]
      refine (within_any 1 2 5 W1).mono ?_
      rintro e w' ⟨rfl, rfl⟩
      rw [inB_yes (by decide) (by decide)]
      go_wp2_with fail
      refine (within_any 1 fa 4 W1).mono ?_
      rintro e w' ⟨rfl, rfl⟩
      by_cases ha : 1 ≤ fa ∧ fa ≤ 4
      case neg =>
        rw [inB_no ha]
        have Q0 : Hid (¬ okFn D t) := Lib.hid fun h => by
          have h := HOK.out.1 h
          have := h.2.1
          have := h.2.2.1 (by trivial)
          omega
        go_wp2_with fail
        go_ret
        exact ⟨⟨1, rfl, fun h => absurd h (by decide), fun h => absurd h (HBADD.out Q0.out)⟩, HB1.out⟩
      rw [inB_yes ha.1 ha.2]
      by_cases h1 : fa = 1
      case neg =>
        have n1 : (fa != 1) = true := by simp [h1]
        have Q0 : Hid (¬ okFn D t) := Lib.hid fun h => by
          have h := HOK.out.1 h
          exact h1 (h.2.2.1 (by trivial))
        go_wp2_with fail
        go_ret
        exact ⟨⟨1, rfl, fun h => absurd h (by decide), fun h => absurd h (HBADD.out Q0.out)⟩, HB1.out⟩
      have n1 : (fa != 1) = false := by simp [h1]
      have HO2 : Hid (okFn D t) := Lib.hid (HOK.out.2 ⟨⟨by omega, by omega⟩, ⟨by omega, by omega⟩, fun _ => h1, fun h => absurd h (by decide), fun h => absurd h (by decide), fun h => absurd h (by decide)⟩)
      go_wp2_with fail
      go_roundw
      case rel => exact ⟨t + 1, by omega, by go_num, Lib.hid (HGO.out HO2.out), Lib.hid HB1.out⟩
      case measure => simp [intOf]; omega
    · subst e
      obtain ⟨x, hx⟩ : ∃ x, x = wo.heap.size := ⟨_, rfl⟩
      obtain ⟨W1, hW1⟩ : ∃ W1, W1 = wo.alloc (.cells #[.int .i64 3, .int .i64 fa, .int .i64 fp, .int .i64 fx, .int .i64 fy, .slice sA sn fc] 29) := ⟨_, rfl⟩
      have hb1 : Below wo.heap.size wo W1 := by rw [hW1]; exact (Below.refl _ _).alloc (Nat.le_refl _) _
      have hs1 : W1.heap.size = x + 1 := by rw [hW1, hx]; simp [go_sem]
      have d0 : W1.cell? ⟨x, 0, none⟩ = some (.int .i64 3) := by rw [hW1, hx]; simp [go_sem]
      have d1 : W1.cell? ⟨x, 1, none⟩ = some (.int .i64 fa) := by rw [hW1, hx]; simp [go_sem]
      have d2 : W1.cell? ⟨x, 2, none⟩ = some (.int .i64 fp) := by rw [hW1, hx]; simp [go_sem]
      have d3 : W1.cell? ⟨x, 3, none⟩ = some (.int .i64 fx) := by rw [hW1, hx]; simp [go_sem]
      have d4 : W1.cell? ⟨x, 4, none⟩ = some (.int .i64 fy) := by rw [hW1, hx]; simp [go_sem]
      have d5 : W1.cell? ⟨x, 5, none⟩ = some (.slice sA sn fc) := by rw [hW1, hx]; simp [go_sem]
      have HB1 := Lib.hid (HB.out.trans (hb1.mono HB.out.size))
      have HR1 := Lib.hid (HRo.out.below hb1)
      have HS1 := Lib.hid (HSR.out.below hb1)
      have HW1 := Lib.hid hW1
      have HX := Lib.hid hx
      have HZ1 := Lib.hid hs1
      have l0 : x < W1.heap.size := by omega
      have lb1 : b < W1.heap.size := by omega
      clear hW1 hx hs1 hb1
      go_wp2_with fail
      rw [← HX.out, ← HW1.out]
      refine (within_any 1 3 5 W1).mono ?_
      rintro e w' ⟨rfl, rfl⟩
      rw [inB_yes (by decide) (by decide)]
      go_wp2_with fail
      refine (within_any 0 fa 4 W1).mono ?_
      rintro e w' ⟨rfl, rfl⟩
      by_cases ha : 0 ≤ fa ∧ fa ≤ 4
      case neg =>
        rw [inB_no ha]
        have Q0 : Hid (¬ okFn D t) := Lib.hid fun h => by
          have h := HOK.out.1 h
          have := h.2.1
          omega
        go_wp2_with fail
        go_ret
        exact ⟨⟨1, rfl, fun h => absurd h (by decide), fun h => absurd h (HBADD.out Q0.out)⟩, HB1.out⟩
      rw [inB_yes ha.1 ha.2]
      go_wp2_with fail
      refine (inside_any fa (some ⟨W1.heap.size, 0, none⟩) 1 1 (fun _ => fp) (W1.alloc (.cells #[.int .i64 fp] 3)) (Rd.one _ _ _) (by decide)).mono ?_
      rintro e w' ⟨rfl, rfl⟩
      have hba : Below W.heap.size W (W1.alloc (.cells #[.int .i64 fp] 3)) := HB1.out.alloc HB1.out.size _
      have HBA := Lib.hid hba
      clear hba
      by_cases hp : 0 ≤ fp ∧ fp < fa
      case neg =>
        rw [show insB fa 1 (fun _ => fp) = false from insB_no (k := 0) (by omega) hp]
        have Q0 : Hid (¬ okFn D t) := Lib.hid fun h => by
          have h := HOK.out.1 h
          exact hp (h.2.2.2.1 (by trivial))
        go_wp2_with fail
        go_ret
        exact ⟨⟨4, rfl, fun h => absurd h (by decide), fun h => absurd h (HBADD.out Q0.out)⟩, HBA.out⟩
      rw [show insB fa 1 (fun _ => fp) = true from insB_iff.2 fun _ _ => hp]
      have HO2 : Hid (okFn D t) := Lib.hid (HOK.out.2 ⟨⟨by omega, by omega⟩, ⟨by omega, by omega⟩, fun h => absurd h (by decide), fun _ => hp, fun h => absurd h (by decide), fun h => absurd h (by decide)⟩)
      go_wp2_with fail
      go_roundw
      case rel => exact ⟨t + 1, by omega, by go_num, Lib.hid (HGO.out HO2.out), Lib.hid HBA.out⟩
      case measure => simp [intOf]; omega
    · subst e
      obtain ⟨x, hx⟩ : ∃ x, x = wo.heap.size := ⟨_, rfl⟩
      obtain ⟨W1, hW1⟩ : ∃ W1, W1 = wo.alloc (.cells #[.int .i64 4, .int .i64 fa, .int .i64 fp, .int .i64 fx, .int .i64 fy, .slice sA sn fc] 29) := ⟨_, rfl⟩
      have hb1 : Below wo.heap.size wo W1 := by rw [hW1]; exact (Below.refl _ _).alloc (Nat.le_refl _) _
      have hs1 : W1.heap.size = x + 1 := by rw [hW1, hx]; simp [go_sem]
      have d0 : W1.cell? ⟨x, 0, none⟩ = some (.int .i64 4) := by rw [hW1, hx]; simp [go_sem]
      have d1 : W1.cell? ⟨x, 1, none⟩ = some (.int .i64 fa) := by rw [hW1, hx]; simp [go_sem]
      have d2 : W1.cell? ⟨x, 2, none⟩ = some (.int .i64 fp) := by rw [hW1, hx]; simp [go_sem]
      have d3 : W1.cell? ⟨x, 3, none⟩ = some (.int .i64 fx) := by rw [hW1, hx]; simp [go_sem]
      have d4 : W1.cell? ⟨x, 4, none⟩ = some (.int .i64 fy) := by rw [hW1, hx]; simp [go_sem]
      have d5 : W1.cell? ⟨x, 5, none⟩ = some (.slice sA sn fc) := by rw [hW1, hx]; simp [go_sem]
      have HB1 := Lib.hid (HB.out.trans (hb1.mono HB.out.size))
      have HR1 := Lib.hid (HRo.out.below hb1)
      have HS1 := Lib.hid (HSR.out.below hb1)
      have HW1 := Lib.hid hW1
      have HX := Lib.hid hx
      have HZ1 := Lib.hid hs1
      have l0 : x < W1.heap.size := by omega
      have lb1 : b < W1.heap.size := by omega
      clear hW1 hx hs1 hb1
      go_wp2_with fail
      rw [← HX.out, ← HW1.out]
      refine (within_any 1 4 5 W1).mono ?_
      rintro e w' ⟨rfl, rfl⟩
      rw [inB_yes (by decide) (by decide)]
      go_wp2_with fail
      refine (within_any 0 fa 4 W1).mono ?_
      rintro e w' ⟨rfl, rfl⟩
      by_cases ha : 0 ≤ fa ∧ fa ≤ 4
      case neg =>
        rw [inB_no ha]
        have Q0 : Hid (¬ okFn D t) := Lib.hid fun h => by
          have h := HOK.out.1 h
          have := h.2.1
          omega
        go_wp2_with fail
        go_ret
        exact ⟨⟨1, rfl, fun h => absurd h (by decide), fun h => absurd h (HBADD.out Q0.out)⟩, HB1.out⟩
      rw [inB_yes ha.1 ha.2]
      by_cases hs4 : sn ≤ 4
      case neg =>
        have hs4' : 4 < sn := by omega
        have Q0 : Hid (¬ okFn D t) := Lib.hid fun h => by
          have h := HOK.out.1 h
          have := (h.2.2.2.2.1 (by trivial)).1
          omega
        go_wp2_with fail
        go_ret
        exact ⟨⟨1, rfl, fun h => absurd h (by decide), fun h => absurd h (HBADD.out Q0.out)⟩, HB1.out⟩
      go_wp2_with fail
      obtain ⟨W2, hW2⟩ : ∃ W2, W2 = W1.alloc (.cells #[.int .i64 fx] 3) := ⟨_, rfl⟩
      have hb2 : Below W1.heap.size W1 W2 := by rw [hW2]; exact (Below.refl _ _).alloc (Nat.le_refl _) _
      have HRD2 : Hid (Rd W2 (some ⟨W1.heap.size, 0, none⟩) 1 (fun _ => .int .i64 fx)) := Lib.hid (by rw [hW2]; exact Rd.one _ _ _)
      have HB2 := Lib.hid (HB1.out.trans (hb2.mono HB1.out.size))
      have HL2 := Lib.hid (HR1.out.below hb2)
      have HS2 := Lib.hid (HS1.out.below hb2)
      have d1' := (hb2.cell (p := ⟨x, 1, none⟩) l0).trans d1
      have d3' := (hb2.cell (p := ⟨x, 3, none⟩) l0).trans d3
      have d4' := (hb2.cell (p := ⟨x, 4, none⟩) l0).trans d4
      have d5' := (hb2.cell (p := ⟨x, 5, none⟩) l0).trans d5
      have d0' := (hb2.cell (p := ⟨x, 0, none⟩) l0).trans d0
      have l2 : x < W2.heap.size := Nat.lt_of_lt_of_le l0 hb2.size
      have lb2 : b < W2.heap.size := Nat.lt_of_lt_of_le lb1 hb2.size
      rw [← hW2]
      clear hW2 hb2 d0 d1 d2 d3 d4 d5 c0 c1 c2 c3 c4 c5
      refine (inside_any (t : Nat) (some ⟨W1.heap.size, 0, none⟩) 1 1 (fun _ => fx) W2 HRD2.out (by decide)).mono ?_
      rintro e w' ⟨rfl, rfl⟩
      by_cases hu : 0 ≤ fx ∧ fx < (t : Int)
      case neg =>
        rw [show insB (t : Nat) 1 (fun _ => fx) = false from insB_no (k := 0) (by omega) hu]
        have Q0 : Hid (¬ okFn D t) := Lib.hid fun h => by
          have h := HOK.out.1 h
          have := (h.2.2.2.2.1 (by trivial)).2.1
          omega
        go_wp2_with fail
        go_ret
        exact ⟨⟨2, rfl, fun h => absurd h (by decide), fun h => absurd h (HBADD.out Q0.out)⟩, HB2.out⟩
      rw [show insB (t : Nat) 1 (fun _ => fx) = true from insB_iff.2 fun _ _ => hu]
      go_wp2_with fail
      refine (inside_any (t : Nat) sA sn fc sf W2 HS2.out (by unfold maxLen; omega)).mono ?_
      rintro e w' ⟨rfl, rfl⟩
      by_cases hi : ∀ q, q < sn → 0 ≤ sf q ∧ sf q < (t : Int)
      case neg =>
        rw [show insB (t : Nat) sn sf = false from by unfold insB; exact decide_eq_false hi]
        have HI := Lib.hid hi
        clear hi
        have Q0 : Hid (¬ okFn D t) := Lib.hid fun h => by
          have h := HOK.out.1 h
          have h2 := (h.2.2.2.2.1 (by trivial)).2.2
          exact HI.out fun q hq => ⟨(h2 q hq).1, (h2 q hq).2.1⟩
        go_wp2_with fail
        go_ret
        exact ⟨⟨2, rfl, fun h => absurd h (by decide), fun h => absurd h (HBADD.out Q0.out)⟩, HB2.out⟩
      rw [show insB (t : Nat) sn sf = true from insB_iff.2 hi]
      have HI := Lib.hid hi
      clear hi
      obtain ⟨ux, hux⟩ : ∃ ux : Nat, fx = ux := ⟨fx.toNat, by omega⟩
      subst hux
      have hut : ux < t := by omega
      have hun : (ux : Int) < (n : Int) := by omega
      have ca := (fc_at HL2.out (show ux < n by omega)).2.1
      obtain ⟨au, hau⟩ : ∃ au, au = (D ux).a := ⟨_, rfl⟩
      rw [← hau] at ca
      have HAU := Lib.hid hau
      clear hau
      by_cases hae : au = (sn : Int)
      case neg =>
        have nb : (au != (sn : Int)) = true := by simp [hae]
        have Q0 : Hid (¬ okFn D t) := Lib.hid fun h => by
          have h := HOK.out.1 h
          have h2 := (h.2.2.2.2.1 (by trivial)).2.1.2.2
          exact hae (by rw [HAU.out]; exact h2)
        go_wp2_with fail
        go_region
        go_wp2_with fail
        go_ret
        exact ⟨⟨3, rfl, fun h => absurd h (by decide), fun h => absurd h (HBADD.out Q0.out)⟩, HB2.out.drew⟩
      have nb : (au != (sn : Int)) = false := by simp [hae]
      have HAE := Lib.hid hae
      clear hae
      go_wp2_with fail
      go_region
      go_wp2_with fail
      go_loopw [98] (fun s98 wr => ∃ q : Nat, q ≤ sn ∧ s98 = .int .i64 (q : Nat) ∧ Hid (∀ j, j < q → (D (sf j).toNat).a = fa) ∧ Hid (Below W2.heap.size W2 wr)) (fun s98 _ => sn - (intOf s98).toNat)
      case atStart => exact ⟨0, by omega, rfl, Lib.hid fun j h => absurd h (by omega), Lib.hid ((Below.refl _ _).drew)⟩
      case round =>
        obtain ⟨wp, hwp⟩ : ∃ wp : World, wp = wr := ⟨_, rfl⟩
        subst hwp
        obtain ⟨q, hq, rfl, HQ, HBW⟩ := hrel
        have f0 := (HBW.out.cell (p := ⟨x, 0, none⟩) l2).trans d0'
        have f1 := (HBW.out.cell (p := ⟨x, 1, none⟩) l2).trans d1'
        have HBX := Lib.hid (HB2.out.trans (HBW.out.mono HB2.out.size))
        by_cases hqs : q < sn
        · obtain ⟨b', o', e', lb', hc⟩ := (HS2.out.below HBW.out).at_ hqs
          subst e'
          obtain ⟨j, hj⟩ : ∃ j : Nat, sf q = j := ⟨(sf q).toNat, by have := HI.out q hqs; omega⟩
          have hjt : j < t := by have := HI.out q hqs; omega
          have hjn : (j : Int) < (n : Int) := by omega
          have hc0 := hc
          rw [hj] at hc
          have cj := (fc_at (HL2.out.below HBW.out) (show j < n by omega)).2.1
          obtain ⟨aj, haj⟩ : ∃ aj, aj = (D j).a := ⟨_, rfl⟩
          rw [← haj] at cj
          have HJ : Hid (aj = (D (sf q).toNat).a) := Lib.hid (by rw [hj, haj]; rfl)
          clear hj haj hc0
          by_cases hje : aj = fa
          · have nb2 : (aj != fa) = false := by simp [hje]
            have HJE := Lib.hid hje
            clear hje
            go_wp2_with fail
            go_region
            go_wp2_with fail
            go_roundw
            case rel => exact ⟨q + 1, by omega, by go_num, Lib.hid fun i hi => by
              by_cases e : i = q
              · subst e; rw [← HJ.out]; exact HJE.out
              · exact HQ.out i (by omega), Lib.hid (HBW.out.drew)⟩
            case measure => simp [intOf]; omega
          · have nb2 : (aj != fa) = true := by simp [hje]
            have Q0 : Hid (¬ okFn D t) := Lib.hid fun h => by
              have h := HOK.out.1 h
              exact hje (by rw [HJ.out]; exact ((h.2.2.2.2.1 (by trivial)).2.2 q hqs).2.2)
            go_wp2_with fail
            go_region
            go_wp2_with fail
            go_ret
            exact ⟨⟨3, rfl, fun h => absurd h (by decide), fun h => absurd h (HBADD.out Q0.out)⟩, HBX.out.drew⟩
        · have hqe : q = sn := by omega
          have HO2 : Hid (okFn D t) := Lib.hid (HOK.out.2 ⟨⟨by omega, by omega⟩, ⟨by omega, by omega⟩, fun h => absurd h (by decide), fun h => absurd h (by decide), fun _ => ⟨hs4, ⟨by omega, by omega, by rw [← HAE.out, HAU.out]; rfl⟩, fun j hj => ⟨(HI.out j hj).1, (HI.out j hj).2, HQ.out j (by omega)⟩⟩, fun h => absurd h (by decide)⟩)
          have hqI : ¬ (q : Int) < (sn : Int) := by omega
          clear hqe
          go_wp2_with fail
          go_roundw
          case rel => exact ⟨t + 1, by omega, by go_num, Lib.hid (HGO.out HO2.out), Lib.hid HBX.out⟩
          case measure => simp [intOf]; omega
    · subst e
      obtain ⟨x, hx⟩ : ∃ x, x = wo.heap.size := ⟨_, rfl⟩
      obtain ⟨W1, hW1⟩ : ∃ W1, W1 = wo.alloc (.cells #[.int .i64 5, .int .i64 fa, .int .i64 fp, .int .i64 fx, .int .i64 fy, .slice sA sn fc] 29) := ⟨_, rfl⟩
      have hb1 : Below wo.heap.size wo W1 := by rw [hW1]; exact (Below.refl _ _).alloc (Nat.le_refl _) _
      have hs1 : W1.heap.size = x + 1 := by rw [hW1, hx]; simp [go_sem]
      have d0 : W1.cell? ⟨x, 0, none⟩ = some (.int .i64 5) := by rw [hW1, hx]; simp [go_sem]
      have d1 : W1.cell? ⟨x, 1, none⟩ = some (.int .i64 fa) := by rw [hW1, hx]; simp [go_sem]
      have d2 : W1.cell? ⟨x, 2, none⟩ = some (.int .i64 fp) := by rw [hW1, hx]; simp [go_sem]
      have d3 : W1.cell? ⟨x, 3, none⟩ = some (.int .i64 fx) := by rw [hW1, hx]; simp [go_sem]
      have d4 : W1.cell? ⟨x, 4, none⟩ = some (.int .i64 fy) := by rw [hW1, hx]; simp [go_sem]
      have d5 : W1.cell? ⟨x, 5, none⟩ = some (.slice sA sn fc) := by rw [hW1, hx]; simp [go_sem]
      have HB1 := Lib.hid (HB.out.trans (hb1.mono HB.out.size))
      have HR1 := Lib.hid (HRo.out.below hb1)
      have HS1 := Lib.hid (HSR.out.below hb1)
      have HW1 := Lib.hid hW1
      have HX := Lib.hid hx
      have HZ1 := Lib.hid hs1
      have l0 : x < W1.heap.size := by omega
      have lb1 : b < W1.heap.size := by omega
      clear hW1 hx hs1 hb1
      go_wp2_with fail
      rw [← HX.out, ← HW1.out]
      refine (within_any 1 5 5 W1).mono ?_
      rintro e w' ⟨rfl, rfl⟩
      rw [inB_yes (by decide) (by decide)]
      go_wp2_with fail
      refine (within_any 1 fa 4 W1).mono ?_
      rintro e w' ⟨rfl, rfl⟩
      by_cases ha : 1 ≤ fa ∧ fa ≤ 4
      case neg =>
        rw [inB_no ha]
        have Q0 : Hid (¬ okFn D t) := Lib.hid fun h => by
          have h := HOK.out.1 h
          have := h.2.1
          have := (h.2.2.2.2.2 (by trivial)).1
          omega
        go_wp2_with fail
        go_ret
        exact ⟨⟨1, rfl, fun h => absurd h (by decide), fun h => absurd h (HBADD.out Q0.out)⟩, HB1.out⟩
      rw [inB_yes ha.1 ha.2]
      go_wp2_with fail
      obtain ⟨W2, hW2⟩ : ∃ W2, W2 = W1.alloc (.cells #[.int .i64 fx, .int .i64 fy] 3) := ⟨_, rfl⟩
      have hb2 : Below W1.heap.size W1 W2 := by rw [hW2]; exact (Below.refl _ _).alloc (Nat.le_refl _) _
      have HRD2 : Hid (Rd W2 (some ⟨W1.heap.size, 0, none⟩) 2 (fun q => .int .i64 (if q = 0 then fx else fy))) := Lib.hid (by
        rw [hW2]
        exact Rd.of_row (World.rowIs_alloc W1 #[.int .i64 fx, .int .i64 fy] 3 (fun q => .int .i64 (if q = 0 then fx else fy)) fun i hi => by
          have : i < 2 := hi
          match i, this with
          | 0, _ => rfl
          | 1, _ => rfl) (Nat.le_refl _))
      have HB2 := Lib.hid (HB1.out.trans (hb2.mono HB1.out.size))
      have HL2 := Lib.hid (HR1.out.below hb2)
      have HS2 := Lib.hid (HS1.out.below hb2)
      have d1' := (hb2.cell (p := ⟨x, 1, none⟩) l0).trans d1
      have d3' := (hb2.cell (p := ⟨x, 3, none⟩) l0).trans d3
      have d4' := (hb2.cell (p := ⟨x, 4, none⟩) l0).trans d4
      have d5' := (hb2.cell (p := ⟨x, 5, none⟩) l0).trans d5
      have d0' := (hb2.cell (p := ⟨x, 0, none⟩) l0).trans d0
      have l2 : x < W2.heap.size := Nat.lt_of_lt_of_le l0 hb2.size
      have lb2 : b < W2.heap.size := Nat.lt_of_lt_of_le lb1 hb2.size
      rw [← hW2]
      clear hW2 hb2 d0 d1 d2 d3 d4 d5 c0 c1 c2 c3 c4 c5
      refine (inside_any (t : Nat) (some ⟨W1.heap.size, 0, none⟩) 2 2 (fun q => if q = 0 then fx else fy) W2 HRD2.out (by decide)).mono ?_
      rintro e w' ⟨rfl, rfl⟩
      by_cases hu : (0 ≤ fx ∧ fx < (t : Int)) ∧ (0 ≤ fy ∧ fy < (t : Int))
      case neg =>
        rw [show insB (t : Nat) 2 (fun q => if q = 0 then fx else fy) = false from by
          unfold insB
          exact decide_eq_false fun h => hu ⟨h 0 (by omega), h 1 (by omega)⟩]
        have Q0 : Hid (¬ okFn D t) := Lib.hid fun h => by
          have h := HOK.out.1 h
          have h2 := (h.2.2.2.2.2 (by trivial)).2
          exact hu ⟨⟨h2.1.1, h2.1.2.1⟩, ⟨h2.2.1, h2.2.2.1⟩⟩
        go_wp2_with fail
        go_ret
        exact ⟨⟨2, rfl, fun h => absurd h (by decide), fun h => absurd h (HBADD.out Q0.out)⟩, HB2.out⟩
      rw [show insB (t : Nat) 2 (fun q => if q = 0 then fx else fy) = true from insB_iff.2 fun q hq => by
        split
        · exact hu.1
        · exact hu.2]
      obtain ⟨ux, hux⟩ : ∃ ux : Nat, fx = ux := ⟨fx.toNat, by omega⟩
      obtain ⟨uy, huy⟩ : ∃ uy : Nat, fy = uy := ⟨fy.toNat, by omega⟩
      subst hux
      subst huy
      have hut : ux < t := by omega
      have hut2 : uy < t := by omega
      have hun : (ux : Int) < (n : Int) := by omega
      have hun2 : (uy : Int) < (n : Int) := by omega
      have ca := (fc_at HL2.out (show ux < n by omega)).2.1
      have cb := (fc_at HL2.out (show uy < n by omega)).2.1
      obtain ⟨au, hau⟩ : ∃ au, au = (D ux).a := ⟨_, rfl⟩
      obtain ⟨ay, hay⟩ : ∃ ay, ay = (D uy).a := ⟨_, rfl⟩
      rw [← hau] at ca
      rw [← hay] at cb
      have HAU := Lib.hid hau
      have HAY := Lib.hid hay
      clear hau hay hu
      have wl : IntKind.i64.wrap (fa - 1) = fa - 1 := IntWalk.i64_in _ (by omega)
      have wp : IntKind.i64.wrap (fa + 1) = fa + 1 := IntWalk.i64_in _ (by omega)
      by_cases hae : au = fa - 1
      case neg =>
        have nb : (au != fa - 1) = true := by simp [hae]
        have Q0 : Hid (¬ okFn D t) := Lib.hid fun h => by
          have h := HOK.out.1 h
          have h2 := (h.2.2.2.2.2 (by trivial)).2.1.2.2
          exact hae (by rw [HAU.out]; exact h2)
        go_wp2_with fail
        go_quiet (fail)
        go_wp2_with fail
        go_ret
        exact ⟨⟨3, rfl, fun h => absurd h (by decide), fun h => absurd h (HBADD.out Q0.out)⟩, (below_drewN HB2.out _)⟩
      have nb : (au != fa - 1) = false := by simp [hae]
      have HAE := Lib.hid hae
      clear hae
      by_cases hbe : ay = fa + 1
      case neg =>
        have nb2 : (ay != fa + 1) = true := by simp [hbe]
        have Q0 : Hid (¬ okFn D t) := Lib.hid fun h => by
          have h := HOK.out.1 h
          have h2 := (h.2.2.2.2.2 (by trivial)).2.2.2.2
          exact hbe (by rw [HAY.out]; exact h2)
        go_wp2_with fail
        go_quiet (fail)
        go_wp2_with fail
        go_ret
        exact ⟨⟨3, rfl, fun h => absurd h (by decide), fun h => absurd h (HBADD.out Q0.out)⟩, (below_drewN HB2.out _)⟩
      have nb2 : (ay != fa + 1) = false := by simp [hbe]
      have HBE := Lib.hid hbe
      clear hbe
      have HO2 : Hid (okFn D t) := Lib.hid (HOK.out.2 ⟨⟨by omega, by omega⟩, ⟨by omega, by omega⟩, fun h => absurd h (by decide), fun h => absurd h (by decide), fun h => absurd h (by decide), fun _ => ⟨by omega, ⟨by omega, by omega, by rw [← HAE.out, HAU.out]; rfl⟩, by omega, by omega, by rw [← HBE.out, HAY.out]; rfl⟩⟩)
      go_wp2_with fail
      go_quiet (fail)
      go_wp2_with fail
      go_roundw
      case rel => exact ⟨t + 1, by omega, by go_num, Lib.hid (HGO.out HO2.out), Lib.hid (below_drewN HB2.out _)⟩
      case measure => simp [intOf]; omega
end Go.Proofs.Ytjnoolfdlgocjaa
