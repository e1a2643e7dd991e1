/- The function values that hard.Free and hard.Cover search with. Conditions: the boxes hold what they are told to. -/
import Derived.Test.YtkedkgmcdhmjiaaHardGraph
import Derived.Test.YtkedkgmcdhmjiaaHardSrch
import Derived.Test.YtkedkgmcdhmjiaaContI
namespace Go.Proofs.Ytkedkgmcdhmjiaa
open Go.ChangeShapes Go.WideShapes Go.ChangeAt Go.RowKit
set_option linter.unusedVariables false
set_option linter.unusedSimpArgs false
def hasN (g : Nat → Nat) (m : Nat) (x : Int) : Bool := hasI (fun q => ((g q : Nat) : Int)) m x
/-- does a line join i to one of the list -/
def hitL (x y i : Int) (g : Nat → Nat) (m : Nat) : Bool := (x == i && hasN g m y) || (y == i && hasN g m x)
def mayF (P : Nat → Int) (l m : Nat) (g : Nat → Nat) (i : Nat) : Bool := !(anyB (fun q => hitL (P (2 * q)) (P (2 * q + 1)) (i : Int) g m) l)
def missL (x y : Int) (g : Nat → Nat) (m : Nat) : Bool := !(hasN g m x) && !(hasN g m y)
def goodC (P : Nat → Int) (l m : Nat) (g : Nat → Nat) : Bool := !(anyB (fun q => missL (P (2 * q)) (P (2 * q + 1)) g m) l)
set_option maxRecDepth 100000 in
set_option maxHeartbeats 1000000 in
theorem freeP_any (x y i : Int) (I L : Nat) (A : Option Addr) (m c : Nat) (g : Nat → Nat) (w : World) (hm : m ≤ maxLen) (hI : w.cell? ⟨I, 0, none⟩ = some (.int .i64 i)) (hL : w.cell? ⟨L, 0, none⟩ = some (.slice A m c)) (lI : I < w.heap.size) (lL : L < w.heap.size) (h : Rd w A m (fun q => .int .i64 ((g q : Nat) : Int))) :
    Calls Try.prog 17 #[.agg #[.int .i64 x, .int .i64 y], .pointer (some ⟨I, 0, none⟩), .pointer (some ⟨L, 0, none⟩)] w fun e w' => e = .returned (.bool (hitL x y i g m)) ∧ Below w.heap.size w w' := by
  have HM := Lib.hid hm
  have H := Lib.hid (h.alloc (.cells #[.int .i64 x, .int .i64 y] 40))
  have HB := Lib.hid ((Below.refl w.heap.size w).alloc (Nat.le_refl _) (.cells #[.int .i64 x, .int .i64 y] 40))
  clear h hm
  have HV : Hid (hitL x y i g m = ((x == i && hasN g m y) || (y == i && hasN g m x))) := Lib.hid rfl
  cases hy : hasN g m y <;> cases hx : hasN g m x
  all_goals
    have HX := Lib.hid hx
    have HY := Lib.hid hy
    by_cases e1 : x = i
    · have b1 : (x == i) = true := by simpa using e1
      by_cases e2 : y = i
      · have b2 : (y == i) = true := by simpa using e2
        have HR : Hid (hitL x y i g m = (hasN g m y || hasN g m x)) := Lib.hid (by rw [HV.out, b1, b2, Bool.true_and, Bool.true_and])
        rw [HX.out, HY.out] at HR
        clear e1 e2 hx hy HV
        go_enter Try.func17, Try.ntmps17
        go_wp2_with (first
          | (go_at_call 18; refine (hasI_any A m c (fun q => ((g q : Nat) : Int)) y _ H.out HM.out).mono ?_; rintro e w' ⟨rfl, rfl⟩; rw [show hasI (fun q => ((g q : Nat) : Int)) m y = _ from HY.out])
          | (go_at_call 18; refine (hasI_any A m c (fun q => ((g q : Nat) : Int)) x _ H.out HM.out).mono ?_; rintro e w' ⟨rfl, rfl⟩; rw [show hasI (fun q => ((g q : Nat) : Int)) m x = _ from HX.out]))
        all_goals
          go_ret
          exact ⟨(by rw [HR.out]; try rfl), HB.out⟩
      · have b2 : (y == i) = false := by simpa using e2
        have HR : Hid (hitL x y i g m = hasN g m y) := Lib.hid (by rw [HV.out, b1, b2, Bool.true_and, Bool.false_and, Bool.or_false])
        rw [HY.out] at HR
        clear e1 e2 hx hy HV
        go_enter Try.func17, Try.ntmps17
        go_wp2_with (first
          | (go_at_call 18; refine (hasI_any A m c (fun q => ((g q : Nat) : Int)) y _ H.out HM.out).mono ?_; rintro e w' ⟨rfl, rfl⟩; rw [show hasI (fun q => ((g q : Nat) : Int)) m y = _ from HY.out]))
        all_goals
          go_ret
          exact ⟨(by rw [HR.out]; try rfl), HB.out⟩
    · have b1 : (x == i) = false := by simpa using e1
      by_cases e2 : y = i
      · have b2 : (y == i) = true := by simpa using e2
        have HR : Hid (hitL x y i g m = hasN g m x) := Lib.hid (by rw [HV.out, b1, b2, Bool.true_and, Bool.false_and, Bool.false_or])
        rw [HX.out] at HR
        clear e1 e2 hx hy HV
        go_enter Try.func17, Try.ntmps17
        go_wp2_with (first
          | (go_at_call 18; refine (hasI_any A m c (fun q => ((g q : Nat) : Int)) x _ H.out HM.out).mono ?_; rintro e w' ⟨rfl, rfl⟩; rw [show hasI (fun q => ((g q : Nat) : Int)) m x = _ from HX.out]))
        all_goals
          go_ret
          exact ⟨(by rw [HR.out]; try rfl), HB.out⟩
      · have b2 : (y == i) = false := by simpa using e2
        have HR : Hid (hitL x y i g m = false) := Lib.hid (by rw [HV.out, b1, b2, Bool.false_and, Bool.false_and, Bool.false_or])
        clear e1 e2 hx hy HV
        go_enter Try.func17, Try.ntmps17
        go_wp2_with fail
        all_goals
          go_ret
          exact ⟨(by rw [HR.out]; try rfl), HB.out⟩
set_option maxRecDepth 100000 in
theorem free1_any (A B : Option Addr) (l d m c X i : Nat) (P : Nat → Int) (g : Nat → Nat) (w : World) (hl : l ≤ maxLen) (hm : m ≤ 16) (hX : w.cell? ⟨X, 0, none⟩ = some (.slice B l d)) (lX : X < w.heap.size) (hP : Rd w B (l * 2) (fun q => .int .i64 (P q))) (h : Rd w A m (fun q => .int .i64 ((g q : Nat) : Int))) :
    Calls Try.prog 15 #[.slice A m c, .int .i64 (i : Nat), .pointer (some ⟨X, 0, none⟩)] w fun e w' => e = .returned (.bool (mayF P l m g i)) ∧ Below w.heap.size w w' := by
  have HL := Lib.hid hl
  have hmm : m ≤ maxLen := by unfold maxLen; omega
  have HM := Lib.hid hmm
  obtain ⟨W1, hW1⟩ : ∃ W1, W1 = (w.alloc (.cells #[.slice A m c] 23)).alloc (.cells #[.int .i64 (i : Nat)] 3) := ⟨_, rfl⟩
  have hb : Below w.heap.size w W1 := by rw [hW1]; exact ((Below.refl w.heap.size w).alloc (Nat.le_refl _) _).alloc (by simp) _
  have hPP := hP.below hb
  have hh := h.below hb
  have hs : W1.heap.size = w.heap.size + 1 + 1 := by rw [hW1]; simp
  have cI : W1.cell? ⟨w.heap.size + 1, 0, none⟩ = some (.int .i64 (i : Nat)) := by rw [hW1]; simp
  have cL : W1.cell? ⟨w.heap.size, 0, none⟩ = some (.slice A m c) := by rw [hW1]; simp
  have HW1 := Lib.hid hW1
  have HB := Lib.hid hb
  have HPP := Lib.hid hPP
  have HH := Lib.hid hh
  have HS := Lib.hid hs
  have CI := Lib.hid cI
  have CL := Lib.hid cL
  clear hb hPP hh hs cI cL hW1 hP h hl hmm
  go_enter Try.func15, Try.ntmps15
  go_wp2_with fail
  rw [← HW1.out]
  refine (containsR_any 17 #[.pointer (some ⟨w.heap.size + 1, 0, none⟩), .pointer (some ⟨w.heap.size, 0, none⟩)] B l d P (fun q => hitL (P (2 * q)) (P (2 * q + 1)) ((i : Nat) : Int) g m) W1 HPP.out HL.out (fun _ _ => rfl) (fun q hq W hW => freeP_any (P (2 * q)) (P (2 * q + 1)) ((i : Nat) : Int) (w.heap.size + 1) w.heap.size A m c g W HM.out ?_ ?_ ?_ ?_ (HH.out.below hW))).mono ?_
  · rw [hW.cell (p := ⟨w.heap.size + 1, 0, none⟩) (by rw [HS.out]; exact Nat.lt_succ_self _)]; exact CI.out
  · rw [hW.cell (p := ⟨w.heap.size, 0, none⟩) (by rw [HS.out]; show w.heap.size < w.heap.size + 1 + 1; omega)]; exact CL.out
  · have := hW.size; have := HS.out; omega
  · have := hW.size; have := HS.out; omega
  · rintro e w2 ⟨rfl, hb2⟩
    have HB2 := Lib.hid (HB.out.trans (hb2.mono HB.out.size))
    obtain ⟨v, hv⟩ : ∃ v, v = anyB (fun q => hitL (P (2 * q)) (P (2 * q + 1)) ((i : Nat) : Int) g m) l := ⟨_, rfl⟩
    have HV : Hid (mayF P l m g i = !v) := Lib.hid (by rw [hv]; rfl)
    rw [← hv]
    clear hb2 hv
    go_wp2_with fail
    go_ret
    exact ⟨(by rw [HV.out]; try rfl), HB2.out⟩
set_option maxRecDepth 100000 in
set_option maxHeartbeats 1000000 in
theorem coverP_any (x y : Int) (L : Nat) (A : Option Addr) (m c : Nat) (g : Nat → Nat) (w : World) (hm : m ≤ maxLen) (hL : w.cell? ⟨L, 0, none⟩ = some (.slice A m c)) (lL : L < w.heap.size) (h : Rd w A m (fun q => .int .i64 ((g q : Nat) : Int))) :
    Calls Try.prog 24 #[.agg #[.int .i64 x, .int .i64 y], .pointer (some ⟨L, 0, none⟩)] w fun e w' => e = .returned (.bool (missL x y g m)) ∧ Below w.heap.size w w' := by
  have HM := Lib.hid hm
  have H := Lib.hid (h.alloc (.cells #[.int .i64 x, .int .i64 y] 40))
  have HB := Lib.hid ((Below.refl w.heap.size w).alloc (Nat.le_refl _) (.cells #[.int .i64 x, .int .i64 y] 40))
  clear h hm
  have HV : Hid (missL x y g m = (!(hasN g m x) && !(hasN g m y))) := Lib.hid rfl
  cases hy : hasN g m y <;> cases hx : hasN g m x
  all_goals
    have HX := Lib.hid hx
    have HY := Lib.hid hy
    rw [HX.out, HY.out] at HV
    clear hx hy
    go_enter Try.func24, Try.ntmps24
    go_wp2_with (first
      | (go_at_call 18; refine (hasI_any A m c (fun q => ((g q : Nat) : Int)) x _ H.out HM.out).mono ?_; rintro e w' ⟨rfl, rfl⟩; rw [show hasI (fun q => ((g q : Nat) : Int)) m x = _ from HX.out])
      | (go_at_call 18; refine (hasI_any A m c (fun q => ((g q : Nat) : Int)) y _ H.out HM.out).mono ?_; rintro e w' ⟨rfl, rfl⟩; rw [show hasI (fun q => ((g q : Nat) : Int)) m y = _ from HY.out]))
    all_goals
      go_ret
      exact ⟨(by rw [HV.out]; try rfl), HB.out⟩
set_option maxRecDepth 100000 in
theorem cover1_any (A B : Option Addr) (l d m c X : Nat) (P : Nat → Int) (g : Nat → Nat) (w : World) (hl : l ≤ maxLen) (hm : m ≤ 16) (hX : w.cell? ⟨X, 0, none⟩ = some (.slice B l d)) (lX : X < w.heap.size) (hP : Rd w B (l * 2) (fun q => .int .i64 (P q))) (h : Rd w A m (fun q => .int .i64 ((g q : Nat) : Int))) :
    Calls Try.prog 23 #[.slice A m c, .pointer (some ⟨X, 0, none⟩)] w fun e w' => e = .returned (.bool (goodC P l m g)) ∧ Below w.heap.size w w' := by
  have HL := Lib.hid hl
  have hmm : m ≤ maxLen := by unfold maxLen; omega
  have HM := Lib.hid hmm
  obtain ⟨W1, hW1⟩ : ∃ W1, W1 = w.alloc (.cells #[.slice A m c] 23) := ⟨_, rfl⟩
  have hb : Below w.heap.size w W1 := by rw [hW1]; exact (Below.refl w.heap.size w).alloc (Nat.le_refl _) _
  have hPP := hP.below hb
  have hh := h.below hb
  have hs : W1.heap.size = w.heap.size + 1 := by rw [hW1]; simp
  have cL : W1.cell? ⟨w.heap.size, 0, none⟩ = some (.slice A m c) := by rw [hW1]; simp
  have HW1 := Lib.hid hW1
  have HB := Lib.hid hb
  have HPP := Lib.hid hPP
  have HH := Lib.hid hh
  have HS := Lib.hid hs
  have CL := Lib.hid cL
  clear hb hPP hh hs cL hW1 hP h hl hmm
  go_enter Try.func23, Try.ntmps23
  go_wp2_with fail
  rw [← HW1.out]
  refine (containsR_any 24 #[.pointer (some ⟨w.heap.size, 0, none⟩)] B l d P (fun q => missL (P (2 * q)) (P (2 * q + 1)) g m) W1 HPP.out HL.out (fun _ _ => rfl) (fun q hq W hW => coverP_any (P (2 * q)) (P (2 * q + 1)) w.heap.size A m c g W HM.out ?_ ?_ (HH.out.below hW))).mono ?_
  · rw [hW.cell (p := ⟨w.heap.size, 0, none⟩) (by rw [HS.out]; exact Nat.lt_succ_self _)]; exact CL.out
  · have := hW.size; have := HS.out; omega
  · rintro e w2 ⟨rfl, hb2⟩
    have HB2 := Lib.hid (HB.out.trans (hb2.mono HB.out.size))
    obtain ⟨v, hv⟩ : ∃ v, v = anyB (fun q => missL (P (2 * q)) (P (2 * q + 1)) g m) l := ⟨_, rfl⟩
    have HV : Hid (goodC P l m g = !v) := Lib.hid (by rw [hv]; rfl)
    rw [← hv]
    clear hb2 hv
    go_wp2_with fail
    go_ret
    exact ⟨(by rw [HV.out]; try rfl), HB2.out⟩
theorem free2_any (A : Option Addr) (m c : Nat) (w : World) :
    Calls Try.prog 20 #[.slice A m c] w fun e w' => e = .returned (.bool true) ∧ Below w.heap.size w w' := by
  go_enter Try.func20, Try.ntmps20
  go_wp2_with fail
  go_ret
  exact ⟨rfl, Below.refl _ _⟩
theorem cover2_any (A : Option Addr) (m c : Nat) (i : Int) (w : World) :
    Calls Try.prog 25 #[.slice A m c, .int .i64 i] w fun e w' => e = .returned (.bool true) ∧ Below w.heap.size w w' := by
  go_enter Try.func25, Try.ntmps25
  go_wp2_with fail
  go_ret
  exact ⟨rfl, Below.refl _ _⟩
end Go.Proofs.Ytkedkgmcdhmjiaa
