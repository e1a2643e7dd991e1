/- hard.graph and the reference's DotsCheck: both say the same of dots and lines. Condition: the list reads as a function. -/
import Derived.Test.YtkedkgmcdhmjiaaPredR
import Derived.Test.YtkedkgmcdhmjiaaInside
import Derived.Test.YtkedkgmcdhmjiaaApp
import Derived.IntWalk
namespace Go.Proofs.Ytkedkgmcdhmjiaa
open Go.ChangeShapes Go.WideShapes Go.ChangeAt Go.RowKit
set_option linter.unusedVariables false
set_option linter.unusedSimpArgs false
/-- is line k out of place -/
def outL (n : Int) (P : Nat → Int) (k : Nat) : Bool := decide (¬ ((0 ≤ P (2 * k) ∧ P (2 * k) < n) ∧ (0 ≤ P (2 * k + 1) ∧ P (2 * k + 1) < n)))
def loopL (P : Nat → Int) (k : Nat) : Bool := P (2 * k) == P (2 * k + 1)
def gphE (n : Int) (P : Nat → Int) (m : Nat) (k : Int) : Int :=
  if n < 0 ∨ 16 < n ∨ 200 < m then 1 else if anyB (outL n P) m = true then 2 else if anyB (loopL P) m = true then 3 else if k < 0 ∨ n < k then 4 else 0
theorem gphE_ok {n : Int} {P : Nat → Int} {m : Nat} {k : Int} (h : gphE n P m k = 0) : 0 ≤ n ∧ n ≤ 16 ∧ m ≤ 200 ∧ (∀ j, j < m → (0 ≤ P (2 * j) ∧ P (2 * j) < n) ∧ (0 ≤ P (2 * j + 1) ∧ P (2 * j + 1) < n)) ∧ (∀ j, j < m → P (2 * j) ≠ P (2 * j + 1)) ∧ 0 ≤ k ∧ k ≤ n := by
  unfold gphE at h
  by_cases h1 : n < 0 ∨ 16 < n ∨ 200 < m
  · rw [if_pos h1] at h; omega
  rw [if_neg h1] at h
  cases h2 : anyB (outL n P) m
  · rw [h2, if_neg (by decide)] at h
    cases h3 : anyB (loopL P) m
    · rw [h3, if_neg (by decide)] at h
      by_cases h4 : k < 0 ∨ n < k
      · rw [if_pos h4] at h; omega
      · refine ⟨by omega, by omega, by omega, fun j hj => ?_, fun j hj => ?_, by omega, by omega⟩
        · have := anyB_false.1 h2 j hj
          unfold outL at this
          have := of_decide_eq_false this
          exact Decidable.not_not.1 this
        · have := anyB_false.1 h3 j hj
          unfold loopL at this
          simpa using this
    · rw [h3, if_pos rfl] at h; omega
  · rw [h2, if_pos rfl] at h; omega
set_option maxRecDepth 100000 in
theorem graphP_any (a b : Int) (w : World) :
    Calls Try.prog 34 #[.agg #[.int .i64 a, .int .i64 b]] w fun e w' => e = .returned (.bool (a == b)) ∧ Below w.heap.size w w' := by
  go_enter Try.func34, Try.ntmps34
  go_wp2_with fail
  go_ret
  exact ⟨rfl, (Below.refl _ _).alloc (Nat.le_refl _) _⟩
set_option maxRecDepth 100000 in
set_option maxHeartbeats 1000000 in
theorem graph_any (n : Int) (A : Option Addr) (m c : Nat) (P : Nat → Int) (k : Int) (w : World) (h : Rd w A (m * 2) (fun i => .int .i64 (P i))) (hm : m ≤ maxLen) :
    Calls Try.prog 14 #[.int .i64 n, .slice A m c, .int .i64 k] w fun e w' => e = .returned (.int .i64 (gphE n P m k)) ∧ Below w.heap.size w w' := by
  have HM := Lib.hid hm
  have H := Lib.hid h
  clear h
  unfold maxLen at hm
  by_cases h1 : n < 0 ∨ 16 < n ∨ 200 < m
  · have e1 : gphE n P m k = 1 := if_pos h1
    rw [e1]
    have hb : (decide (n < 0) || decide (16 < n) || decide (200 < (m : Int))) = true := by
      simp only [Bool.or_eq_true, decide_eq_true_eq]; omega
    clear e1
    by_cases a1 : n < 0
    · go_enter Try.func14, Try.ntmps14
      go_wp2_with fail
      go_ret
      exact ⟨rfl, Below.refl _ _⟩
    by_cases a2 : 16 < n
    · go_enter Try.func14, Try.ntmps14
      go_wp2_with fail
      go_ret
      exact ⟨rfl, Below.refl _ _⟩
    have a3 : 200 < m := by omega
    go_enter Try.func14, Try.ntmps14
    go_wp2_with fail
    go_ret
    exact ⟨rfl, Below.refl _ _⟩
  · have HE : Hid (gphE n P m k = if anyB (outL n P) m = true then 2 else if anyB (loopL P) m = true then 3 else if k < 0 ∨ n < k then 4 else 0) := Lib.hid (if_neg h1)
    have n0 : 0 ≤ n := by omega
    have n16 : n ≤ 16 := by omega
    have m200 : m ≤ 200 := by omega
    clear h1
    go_enter Try.func14, Try.ntmps14
    go_wp2_with fail
    go_loopw [22] (fun i wr => ∃ j : Nat, j ≤ m ∧ i = .int .i64 (j : Nat) ∧ Hid (∀ q, q < j → outL n P q = false) ∧ Hid (Below w.heap.size w wr)) (fun i _ => m - (intOf i).toNat)
    case atStart => exact ⟨0, Nat.zero_le _, rfl, Lib.hid (fun q hq => absurd hq (Nat.not_lt_zero _)), Lib.hid (Below.refl _ _)⟩
    case round =>
      obtain ⟨wo, rfl⟩ : ∃ wo : World, wo = wr := ⟨_, rfl⟩
      obtain ⟨j, hj, rfl, HALL, HB⟩ := hrel
      by_cases hlt : j < m
      · obtain ⟨b, off, rfl, hb, hc0, hc1⟩ := (H.out.below HB.out).at2 hlt
        obtain ⟨x, hx⟩ : ∃ x, x = P (2 * j) := ⟨_, rfl⟩
        obtain ⟨y, hy⟩ : ∃ y, y = P (2 * j + 1) := ⟨_, rfl⟩
        rw [← hx] at hc0
        rw [← hy] at hc1
        have HO : Hid (outL n P j = decide (¬ ((0 ≤ x ∧ x < n) ∧ (0 ≤ y ∧ y < n)))) := Lib.hid (by unfold outL; rw [← hx, ← hy])
        clear hx hy
        have HB' := Lib.hid (HB.out.alloc HB.out.size (.cells #[.int .i64 x, .int .i64 y] 40))
        by_cases hbad : ¬ ((0 ≤ x ∧ x < n) ∧ (0 ≤ y ∧ y < n))
        · have HE2 : Hid (gphE n P m k = 2) := Lib.hid (by rw [HE.out, if_pos (anyB_yes hlt (by rw [HO.out]; exact decide_eq_true hbad))])
          have hq : ((0 ≤ x ∧ x < n) ∧ (0 ≤ y ∧ y < n)) = False := by simp only [eq_iff_iff, iff_false]; exact hbad
          clear HO hq
          by_cases c1 : x < 0
          · go_wp2_with fail
            all_goals
              go_ret
              exact ⟨(by rw [HE2.out]; try rfl), HB'.out⟩
          by_cases c2 : y < 0
          · go_wp2_with fail
            all_goals
              go_ret
              exact ⟨(by rw [HE2.out]; try rfl), HB'.out⟩
          by_cases c3 : n ≤ x
          · go_wp2_with fail
            all_goals
              go_ret
              exact ⟨(by rw [HE2.out]; try rfl), HB'.out⟩
          have c4 : n ≤ y := by omega
          clear hbad
          go_wp2_with fail
          all_goals
            go_ret
            exact ⟨(by rw [HE2.out]; try rfl), HB'.out⟩
        · have HON : Hid (outL n P j = false) := Lib.hid (by rw [HO.out]; exact decide_eq_false (by simpa using hbad))
          have x0 : 0 ≤ x := by omega
          have xn : x < n := by omega
          have y0 : 0 ≤ y := by omega
          have yn : y < n := by omega
          clear HO hbad
          go_wp2_with fail
          all_goals
            go_roundw
            case rel => exact ⟨j + 1, by omega, by go_num, Lib.hid (fun q hq => by
              by_cases e : q = j
              · subst e; exact HON.out
              · exact HALL.out q (by omega)), HB'⟩
            case measure => simp [intOf]; omega
      · obtain rfl : j = m := by omega
        have HN : Hid (anyB (outL n P) j = false) := Lib.hid (anyB_no HALL.out)
        go_wp2_with fail
        refine (containsR_any 34 #[] A j c P (loopL P) wo (H.out.below HB.out) HM.out (fun _ _ => rfl) (fun i hi W hW => graphP_any _ _ W)).mono ?_
        rintro e w2 ⟨rfl, hb2⟩
        have HB2 := Lib.hid (HB.out.trans (hb2.mono HB.out.size))
        clear hb2
        cases hl : anyB (loopL P) j
        · have HL := Lib.hid hl
          clear hl
          by_cases a1 : k < 0
          · have HE2 : Hid (gphE n P j k = 4) := Lib.hid (by rw [HE.out, HN.out, HL.out, if_neg (by decide), if_neg (by decide), if_pos (.inl a1)])
            go_wp2_with fail
            go_ret
            exact ⟨(by rw [HE2.out]; try rfl), HB2.out⟩
          by_cases a2 : n < k
          · have HE2 : Hid (gphE n P j k = 4) := Lib.hid (by rw [HE.out, HN.out, HL.out, if_neg (by decide), if_neg (by decide), if_pos (.inr a2)])
            go_wp2_with fail
            go_ret
            exact ⟨(by rw [HE2.out]; try rfl), HB2.out⟩
          have HE2 : Hid (gphE n P j k = 0) := Lib.hid (by rw [HE.out, HN.out, HL.out, if_neg (by decide), if_neg (by decide), if_neg (by omega)])
          go_wp2_with fail
          go_ret
          exact ⟨(by rw [HE2.out]; try rfl), HB2.out⟩
        · have HL := Lib.hid hl
          have HE2 : Hid (gphE n P j k = 3) := Lib.hid (by rw [HE.out, HN.out, HL.out, if_neg (by decide), if_pos rfl])
          clear hl
          go_wp2_with fail
          go_ret
          exact ⟨(by rw [HE2.out]; try rfl), HB2.out⟩
end Go.Proofs.Ytkedkgmcdhmjiaa
