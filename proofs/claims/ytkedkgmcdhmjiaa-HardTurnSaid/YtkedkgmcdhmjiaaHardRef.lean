/- The reference's DotsCheck says what hard.graph says. Condition: the list reads as a function. -/
import Derived.Test.YtkedkgmcdhmjiaaHardGraph
namespace Go.Proofs.Ytkedkgmcdhmjiaa
open Go.ChangeShapes Go.WideShapes Go.ChangeAt Go.RowKit
set_option linter.unusedVariables false
set_option linter.unusedSimpArgs false
def two (x y : Int) : Nat → Int := fun i => if i = 0 then x else y
theorem Rd.two (W : World) (x y : Int) (e : TypeId) (K : Nat) (hK : W.heap.size = K) : Rd (W.alloc (.cells #[.int .i64 x, .int .i64 y] e)) (some ⟨K, 0, none⟩) 2 (fun i => .int .i64 (two x y i)) := by
  subst hK
  refine fun _ => ⟨W.heap.size, 0, rfl, by simp, fun i hi => ?_⟩
  match i, hi with
  | 0, _ => simp [Go.Proofs.Ytkedkgmcdhmjiaa.two]
  | 1, _ => simp [Go.Proofs.Ytkedkgmcdhmjiaa.two]
set_option maxRecDepth 100000 in
set_option maxHeartbeats 1000000 in
theorem dotsCheck_any (n : Int) (A : Option Addr) (m c : Nat) (P : Nat → Int) (k : Int) (w : World) (h : Rd w A (m * 2) (fun i => .int .i64 (P i))) (hm : m ≤ maxLen) :
    Calls Try.prog 7 #[.int .i64 n, .slice A m c, .int .i64 k] w fun e w' => e = .returned (.int .i64 (gphE n P m k)) ∧ Below w.heap.size w w' := by
  have HM := Lib.hid hm
  have H := Lib.hid h
  clear h
  unfold maxLen at hm
  by_cases h1 : n < 0 ∨ 16 < n ∨ 200 < m
  · have e1 : Hid (gphE n P m k = 1) := Lib.hid (if_pos h1)
    cases hin : inB 0 n 16
    · have HI := Lib.hid hin
      clear hin
      go_enter Try.func7, Try.ntmps7
      go_wp2_with fail
      refine (within_any 0 n 16 w).mono ?_
      rintro e w1 ⟨rfl, rfl⟩
      rw [HI.out]
      go_wp2_with fail
      go_ret
      exact ⟨(by rw [e1.out]; try rfl), Below.refl _ _⟩
    · have a := inB_iff.1 hin
      have HI := Lib.hid hin
      have a3 : 200 < m := by omega
      clear hin a h1
      go_enter Try.func7, Try.ntmps7
      go_wp2_with fail
      refine (within_any 0 n 16 w).mono ?_
      rintro e w1 ⟨rfl, rfl⟩
      rw [HI.out]
      go_wp2_with fail
      go_ret
      exact ⟨(by rw [e1.out]; try rfl), Below.refl _ _⟩
  · have HE : Hid (gphE n P m k = if anyB (outL n P) m = true then 2 else if anyB (loopL P) m = true then 3 else if k < 0 ∨ n < k then 4 else 0) := Lib.hid (if_neg h1)
    have n0 : 0 ≤ n := by omega
    have n16 : n ≤ 16 := by omega
    have m200 : m ≤ 200 := by omega
    have HI : Hid (inB 0 n 16 = true) := Lib.hid (inB_yes n0 n16)
    clear h1
    go_enter Try.func7, Try.ntmps7
    go_wp2_with fail
    refine (within_any 0 n 16 w).mono ?_
    rintro e w1 ⟨rfl, rfl⟩
    rw [HI.out]
    go_wp2_with fail
    go_loopw [21] (fun i wr => ∃ j : Nat, j ≤ m ∧ i = .int .i64 (j : Nat) ∧ Hid (∀ q, q < j → outL n P q = false) ∧ Hid (Below w.heap.size w wr)) (fun i _ => m - (intOf i).toNat)
    case atStart => exact ⟨0, Nat.zero_le _, rfl, Lib.hid (fun q hq => absurd hq (Nat.not_lt_zero _)), Lib.hid (Below.refl _ _)⟩
    case round =>
      obtain ⟨wo, rfl⟩ : ∃ wo : World, wo = wr := ⟨_, rfl⟩
      obtain ⟨j, hj, rfl, HALL, HB⟩ := hrel
      by_cases hlt : j < m
      · obtain ⟨b, off, rfl, hb, hc0, hc1⟩ := (H.out.below HB.out).at2 hlt
        obtain ⟨x, hx⟩ : ∃ x, x = P (2 * j) := ⟨_, rfl⟩
        obtain ⟨y, hy⟩ : ∃ y, y = P (2 * j + 1) := ⟨_, rfl⟩
        rw [← hx] at hc0
        rw [← hy] at hc1
        have HO : Hid (outL n P j = !(insB n 2 (two x y))) := Lib.hid (by
          unfold outL; rw [← hx, ← hy]
          cases hi : insB n 2 (two x y)
          · refine decide_eq_true fun hh => ?_
            rw [insB_iff.2 fun i hi => by
              match i, hi with
              | 0, _ => exact hh.1
              | 1, _ => exact hh.2] at hi
            cases hi
          · have := insB_iff.1 hi
            exact decide_eq_false (Decidable.not_not.2 ⟨this 0 (by omega), this 1 (by omega)⟩))
        clear hx hy
        have hb' := (HB.out.alloc HB.out.size (.cells #[.int .i64 x, .int .i64 y] 40))
        have HB' := Lib.hid (hb'.alloc hb'.size (.cells #[.int .i64 x, .int .i64 y] 3))
        have HR := Lib.hid (Rd.two (wo.alloc (.cells #[.int .i64 x, .int .i64 y] 40)) x y 3 (wo.heap.size + 1) (by simp))
        clear hb'
        cases hbad : insB n 2 (two x y)
        · have HBD := Lib.hid hbad
          have HE2 : Hid (gphE n P m k = 2) := Lib.hid (by rw [HE.out, if_pos (anyB_yes hlt (by rw [HO.out, hbad]; rfl))])
          clear HO hbad
          go_wp2_with fail
          refine (inside_any n _ 2 2 (two x y) _ HR.out (by unfold maxLen; omega)).mono ?_
          rintro e w2 ⟨rfl, rfl⟩
          rw [HBD.out]
          go_wp2_with fail
          go_ret
          exact ⟨(by rw [HE2.out]; try rfl), HB'.out⟩
        · have HBD := Lib.hid hbad
          have HON : Hid (outL n P j = false) := Lib.hid (by rw [HO.out, hbad]; rfl)
          clear HO hbad
          go_wp2_with fail
          refine (inside_any n _ 2 2 (two x y) _ HR.out (by unfold maxLen; omega)).mono ?_
          rintro e w2 ⟨rfl, rfl⟩
          rw [HBD.out]
          go_wp2_with fail
          go_roundw
          case rel => exact ⟨j + 1, by omega, by go_num, Lib.hid (fun q hq => by
            by_cases e : q = j
            · subst e; exact HON.out
            · exact HALL.out q (by omega)), HB'⟩
          case measure => simp [intOf]; omega
      · obtain rfl : j = m := by omega
        have HN : Hid (anyB (outL n P) j = false) := Lib.hid (anyB_no HALL.out)
        have HBO := HB
        obtain ⟨wz, hwz⟩ : ∃ wz, wz = wo := ⟨_, rfl⟩
        clear HALL
        go_wp2_with fail
        go_loopw [36] (fun i wr => ∃ q : Nat, q ≤ j ∧ i = .int .i64 (q : Nat) ∧ Hid (∀ s, s < q → loopL P s = false) ∧ Hid (Below w.heap.size w wr)) (fun i _ => j - (intOf i).toNat)
        case atStart => exact ⟨0, Nat.zero_le _, rfl, Lib.hid (fun q hq => absurd hq (Nat.not_lt_zero _)), HBO⟩
        case round =>
          obtain ⟨wq, rfl⟩ : ∃ wq : World, wq = wr := ⟨_, rfl⟩
          obtain ⟨q, hq, rfl, HALL, HB2⟩ := hrel
          by_cases hlt : q < j
          · obtain ⟨b, off, rfl, hb, hc0, hc1⟩ := (H.out.below HB2.out).at2 hlt
            obtain ⟨x, hx⟩ : ∃ x, x = P (2 * q) := ⟨_, rfl⟩
            obtain ⟨y, hy⟩ : ∃ y, y = P (2 * q + 1) := ⟨_, rfl⟩
            rw [← hx] at hc0
            rw [← hy] at hc1
            have HO : Hid (loopL P q = (x == y)) := Lib.hid (by unfold loopL; rw [← hx, ← hy])
            clear hx hy
            have HB' := Lib.hid (HB2.out.alloc HB2.out.size (.cells #[.int .i64 x, .int .i64 y] 40))
            by_cases hxy : x = y
            · have HE2 : Hid (gphE n P j k = 3) := Lib.hid (by rw [HE.out, HN.out, if_neg (by decide), if_pos (anyB_yes hlt (by rw [HO.out]; simpa using hxy))])
              subst hxy
              clear HO
              go_wp2_with fail
              go_ret
              exact ⟨(by rw [HE2.out]; try rfl), HB'.out⟩
            · have hb0 : (x == y) = false := by simpa using hxy
              have HON : Hid (loopL P q = false) := Lib.hid (by rw [HO.out]; exact hb0)
              clear HO
              go_wp2_with fail
              go_roundw
              case rel => exact ⟨q + 1, by omega, by go_num, Lib.hid (fun s hs => by
                by_cases e : s = q
                · subst e; exact HON.out
                · exact HALL.out s (by omega)), HB'⟩
              case measure => simp [intOf]; omega
          · obtain rfl : q = j := by omega
            have HL : Hid (anyB (loopL P) q = false) := Lib.hid (anyB_no HALL.out)
            go_wp2_with fail
            refine (within_any 0 k n wq).mono ?_
            rintro e w1 ⟨rfl, rfl⟩
            cases hk : inB 0 k n
            · have HK := Lib.hid hk
              have HE2 : Hid (gphE n P q k = 4) := Lib.hid (by rw [HE.out, HN.out, HL.out, if_neg (by decide), if_neg (by decide), if_pos]; unfold inB at hk; have := of_decide_eq_false hk; omega)
              clear hk
              go_wp2_with fail
              go_ret
              exact ⟨(by rw [HE2.out]; try rfl), HB2.out⟩
            · have HE2 : Hid (gphE n P q k = 0) := Lib.hid (by rw [HE.out, HN.out, HL.out, if_neg (by decide), if_neg (by decide), if_neg]; have := inB_iff.1 hk; omega)
              clear hk
              go_wp2_with fail
              go_ret
              exact ⟨(by rw [HE2.out]; try rfl), HB2.out⟩
end Go.Proofs.Ytkedkgmcdhmjiaa
