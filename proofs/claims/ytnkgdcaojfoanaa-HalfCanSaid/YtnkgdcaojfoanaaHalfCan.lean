/- HalfCan: one can come there in so many steps just if a way of no more steps is told, and it is asked at most 5000 times. No condition. -/
import Derived.Test.YtnkgdcaojfoanaaHalfAsk
namespace Go.Proofs.Ytnkgdcaojfoanaa
open Go.ChangeShapes Go.WideShapes Go.ChangeAt Go.RowKit
set_option linter.unusedVariables false
set_option linter.unusedSimpArgs false
namespace halfCan
set_option maxRecDepth 100000 in
set_option maxHeartbeats 2000000 in
theorem walk (w : World) (A : Option Addr) (n c : Nat) (R : Nat → SI) (x y st : Int) (h : Rd w A n (fun i => (R i).val)) (hg : ∀ i, (R i).good w) (hl : n ≤ c) (hm : c ≤ maxLen) (zc : c * 24 ≤ 140737488351232) (wx : (Lit.int .i64 x).wf = true) (wy' : (Lit.int .i64 y).wf = true) (ws : (Lit.int .i64 st).wf = true) :
    Calls Try.prog 5 #[.slice A n c, .int .i64 x, .int .i64 y, .int .i64 st] w fun e w' => e = .returned (.bool true) ∧ Below w.heap.size w w' := by
  have hn : n ≤ maxLen := Nat.le_trans hl hm
  have HN := Lib.hid hn
  have H : Hid (Gr w A n R) := Lib.hid ⟨h, fun i _ => hg i⟩
  clear h hg hl hm zc wx wy' ws
  go_enter Try.func5, Try.ntmps5
  go_wp2_with fail
  refine (Can_any A n c R x y st w H.out HN.out).mono ?_
  rintro e w1 ⟨hcan, hb1⟩
  have HB1 := Lib.hid hb1
  clear hb1
  rcases hcan with ⟨z, hz, hzb, rfl⟩ | ⟨hz, hst, rfl⟩ | ⟨hz, f, t, s, r, rfl, rfl, rfl, hf, ht, s8, hr1, hr2, rfl⟩
  · go_wp2_with fail
    refine (way_any A n c R x y w1 (H.out.below HB1.out) HN.out).mono ?_
    rintro e w2 ⟨hw, hb2⟩
    have HB2 := Lib.hid (HB1.out.trans (hb2.mono HB1.out.size))
    clear hb2
    rcases hw with ⟨z2, hz2, hzb2, rfl⟩ | ⟨hz2, _⟩
    · obtain ⟨W3, hW3⟩ : ∃ W, W = w2.alloc (.cells #[.int .i64 x, .int .i64 y] 3) := ⟨_, rfl⟩
      have hbA : Below w2.heap.size w2 W3 := by rw [hW3]; exact (Below.refl _ _).alloc (Nat.le_refl _) _
      have hb3 := HB2.out.trans (hbA.mono HB2.out.size)
      have hr3 : Rd W3 (some ⟨w2.heap.size, 0, none⟩) 2 (fun i => .int .i64 (ftD x y i)) := by rw [hW3]; exact two_ints w2 x y _
      have hnx := nexted_any A n c R (some ⟨w2.heap.size, 0, none⟩) 2 2 (ftD x y) W3 (H.out.below hb3) hr3 HN.out (by omega)
      have hz0 : (hwE n R 2 (ftD x y) == 0) = false := by rw [hz]; rw [bne_iff_ne] at hzb; rw [beq_eq_false_iff_ne]; exact hzb
      rw [hz0] at hnx
      have HNX := Lib.hid hnx
      have HB3 := Lib.hid hb3
      have HW3 := Lib.hid hW3
      clear hbA hb3 hr3 hnx hW3 hz0 hz hz2
      go_wp2_with fail
      rw [← HW3.out]
      refine HNX.out.mono ?_
      rintro e w4 ⟨rfl, rfl⟩
      go_wp2_with fail
      go_ret
      exact ⟨rfl, HB3.out⟩
    · rw [hz2] at hz
      subst hz
      cases hzb
  · go_wp2_with fail
    refine (way_any A n c R x y w1 (H.out.below HB1.out) HN.out).mono ?_
    rintro e w2 ⟨hw, hb2⟩
    have HB2 := Lib.hid (HB1.out.trans (hb2.mono HB1.out.size))
    clear hb2
    have hwith : inB 0 st 8 = false := inB_no hst
    have HWI := Lib.hid hwith
    clear hwith
    obtain ⟨W3, hW3⟩ : ∃ W, W = w2.alloc (.cells #[.int .i64 x, .int .i64 y] 3) := ⟨_, rfl⟩
    have hbA : Below w2.heap.size w2 W3 := by rw [hW3]; exact (Below.refl _ _).alloc (Nat.le_refl _) _
    have hb3 := HB2.out.trans (hbA.mono HB2.out.size)
    have hr3 : Rd W3 (some ⟨w2.heap.size, 0, none⟩) 2 (fun i => .int .i64 (ftD x y i)) := by rw [hW3]; exact two_ints w2 x y _
    have hnx := nexted_any A n c R (some ⟨w2.heap.size, 0, none⟩) 2 2 (ftD x y) W3 (H.out.below hb3) hr3 HN.out (by omega)
    have hz0 : (hwE n R 2 (ftD x y) == 0) = true := by rw [hz]; rfl
    rw [hz0] at hnx
    have HNX := Lib.hid hnx
    have HB3 := Lib.hid hb3
    have HW3 := Lib.hid hW3
    clear hbA hb3 hr3 hnx hW3 hz0 hz hst
    have hgo : ∀ v1 v2 : Value, e = .returned (.tuple #[v1, v2]) → True := fun _ _ _ => trivial
    obtain ⟨v1, v2, rfl⟩ : ∃ v1 v2, e = .returned (.tuple #[v1, v2]) := by
      rcases hw with ⟨z2, _, _, rfl⟩ | ⟨_, f, t, _, _, _, _, out, _, ⟨_, rfl⟩ | ⟨d, A', c', P, _, _, rfl, _⟩⟩
      · exact ⟨_, _, rfl⟩
      · exact ⟨_, _, rfl⟩
      · exact ⟨_, _, rfl⟩
    clear hw hgo
    go_wp2_with fail
    rw [← HW3.out]
    refine HNX.out.mono ?_
    rintro e w4 ⟨rfl, rfl⟩
    go_wp2_with fail
    refine (within_any 0 st 8 _).mono ?_
    rintro e w5 ⟨rfl, rfl⟩
    rw [HWI.out]
    go_wp2_with fail
    go_ret
    exact ⟨rfl, HB3.out⟩
  · go_wp2_with fail
    refine (way_any A n c R (f : Int) (t : Int) w1 (H.out.below HB1.out) HN.out).mono ?_
    rintro e w2 ⟨hw, hb2⟩
    have HB2 := Lib.hid (HB1.out.trans (hb2.mono HB1.out.size))
    clear hb2
    have hwith : inB 0 (s : Int) 8 = true := inB_yes (by omega) (by omega)
    have HWI := Lib.hid hwith
    clear hwith
    obtain ⟨W3, hW3⟩ : ∃ W, W = w2.alloc (.cells #[.int .i64 (f : Int), .int .i64 (t : Int)] 3) := ⟨_, rfl⟩
    have hbA : Below w2.heap.size w2 W3 := by rw [hW3]; exact (Below.refl _ _).alloc (Nat.le_refl _) _
    have hb3 := HB2.out.trans (hbA.mono HB2.out.size)
    have hr3 : Rd W3 (some ⟨w2.heap.size, 0, none⟩) 2 (fun i => .int .i64 (ftD (f : Int) (t : Int) i)) := by rw [hW3]; exact two_ints w2 _ _ _
    have hnx := nexted_any A n c R (some ⟨w2.heap.size, 0, none⟩) 2 2 (ftD (f : Int) (t : Int)) W3 (H.out.below hb3) hr3 HN.out (by omega)
    have hz0 : (hwE n R 2 (ftD (f : Int) (t : Int)) == 0) = true := by rw [hz]; rfl
    rw [hz0] at hnx
    have HNX := Lib.hid hnx
    have HB3 := Lib.hid hb3
    have HW3 := Lib.hid hW3
    clear hbA hb3 hr3 hnx hW3 hz0
    rcases hw with ⟨z2, hz2, hzb2, rfl⟩ | ⟨hz2, f', t', hff, htt, _, _, out, hok, hcase⟩
    · rw [hz] at hz2
      subst hz2
      cases hzb2
    · obtain rfl : f' = f := by omega
      obtain rfl : t' = t := by omega
      have hle := hok.le (s := s) hf ht
      have r1' : (1 : Int) ≤ (r : Int) := by omega
      have r2' : (r : Int) ≤ 4369 := by omega
      rcases hcase with ⟨hneg, rfl⟩ | ⟨d, A1, c1, P, hfd, d8, rfl, _⟩
      · have hwf : wy R n s f' t' = false := by
          cases e : wy R n s f' t'
          · rfl
          · have := (hle.1 e).1; omega
        rw [hwf]
        clear hle hok hneg hz hz2
        go_wp2_with fail
        rw [← HW3.out]
        refine HNX.out.mono ?_
        rintro e w4 ⟨rfl, rfl⟩
        go_wp2_with fail
        refine (within_any 0 (s : Int) 8 _).mono ?_
        rintro e w5 ⟨rfl, rfl⟩
        rw [HWI.out]
        go_wp2_with fail
        go_ret
        exact ⟨rfl, HB3.out⟩
      · have hdl : IntKind.i64.wrap ((d : Int) + 1 - 1) = (d : Int) := by rw [show (d : Int) + 1 - 1 = (d : Int) by omega]; exact IntWalk.i64_in _ (by omega)
        by_cases hds : d ≤ s
        · have hwf : wy R n s f' t' = true := hle.2 (by omega)
          have hds' : (d : Int) ≤ (s : Int) := by omega
          rw [hwf]
          clear hle hok hz hz2 hfd
          go_wp2_with fail
          rw [← HW3.out]
          refine HNX.out.mono ?_
          rintro e w4 ⟨rfl, rfl⟩
          go_wp2_with fail
          refine (within_any 0 (s : Int) 8 _).mono ?_
          rintro e w5 ⟨rfl, rfl⟩
          rw [HWI.out]
          go_wp2_with fail
          go_ret
          exact ⟨rfl, HB3.out⟩
        · have hwf : wy R n s f' t' = false := by
            cases e : wy R n s f' t'
            · rfl
            · have := (hle.1 e).2; omega
          have hds' : ¬ (d : Int) ≤ (s : Int) := by omega
          rw [hwf]
          clear hle hok hz hz2 hfd
          go_wp2_with fail
          rw [← HW3.out]
          refine HNX.out.mono ?_
          rintro e w4 ⟨rfl, rfl⟩
          go_wp2_with fail
          refine (within_any 0 (s : Int) 8 _).mono ?_
          rintro e w5 ⟨rfl, rfl⟩
          rw [HWI.out]
          go_wp2_with fail
          go_ret
          exact ⟨rfl, HB3.out⟩
end halfCan
end Go.Proofs.Ytnkgdcaojfoanaa
