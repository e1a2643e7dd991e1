/- talk.Fool: some places that fool, at least one. Condition: the rows read as told. -/
import Derived.Test.YtnfibchffbdmpaaTalkFool
namespace Go.Proofs.Ytnfibchffbdmpaa
open Go.ChangeShapes Go.WideShapes Go.ChangeAt Go.RowKit
set_option linter.unusedVariables false
set_option linter.unusedSimpArgs false
/-- what Fool tells of a good table -/
def FoolT (f : Nat → Nat → Bool) (n m : Nat) (w : World) (e : Ending) (w' : World) : Prop :=
  ∃ v S len c P, e = .returned (.tuple #[.slice S len c, .int .i64 0]) ∧ Rd w' S (len * 2) (fun i => .int .i64 (cF P i : Nat)) ∧ FoolOk f n m v P len ∧ 1 ≤ len ∧ len ≤ 16 ∧ Below w.heap.size w w'
set_option maxRecDepth 100000 in
set_option maxHeartbeats 4000000 in
theorem foolT_ok (A : Option Addr) (n m c : Nat) (R : Nat → SB) (w : World) (h : GrT w A n R) (hn : 1 ≤ n ∧ n ≤ 4) (hm : 1 ≤ m ∧ m ≤ 4) (hl : ∀ i, i < n → (R i).n = m) (h0 : tkE n R = 0) :
    Calls Try.prog 10 #[.slice A n c] w (FoolT (tbB R) n m w) := by
  have hwr := wrongT_any A n c R w h (by unfold maxLen; omega)
  rw [h0] at hwr
  have HWR := Lib.hid hwr
  have hfa := fun (X : World) (hX : Below w.heap.size w X) (v : Bool) => fool_any n m c A R v hn hm hl (n * m + 1) 0 0 none 0 (fun _ => (0, 0)) X (by omega) (Nat.zero_le _) (Nat.le_refl _) (h.below hX) (Rd.zero _ _ _) (fun _ => ⟨rfl, rfl⟩) (Nat.le_refl _) (FoolOk.nil _ _ _ _ _)
  have HFA := Lib.hid hfa
  have hz : tbB R 0 0 = false ∨ tbB R 0 0 = true := by cases tbB R 0 0 <;> simp
  have hnm : 0 < n * m := Nat.mul_pos (by omega) (by omega)
  have HNE : Hid (∀ la lb : Nat, (la = 0 → ∀ k, 0 ≤ k → k < n * m → tbB R (k / m) (k % m) ≠ false) → (lb = 0 → ∀ k, 0 ≤ k → k < n * m → tbB R (k / m) (k % m) ≠ true) → 1 ≤ la ∨ 1 ≤ lb) := Lib.hid fun la lb h1 h2 => by
    rcases Nat.eq_zero_or_pos la with a | a
    · rcases Nat.eq_zero_or_pos lb with b | b
      · have q1 := h1 a 0 (Nat.le_refl _) hnm
        have q2 := h2 b 0 (Nat.le_refl _) hnm
        rw [Nat.zero_div, Nat.zero_mod] at q1 q2
        rcases hz with e | e
        · exact absurd e q1
        · exact absurd e q2
      · exact .inr b
    · exact .inl a
  clear h hn hm hl h0 hwr hfa hz hnm
  go_enter Try.func10, Try.ntmps10
  go_wp2_with fail
  refine HWR.out.mono ?_
  rintro e w1 ⟨rfl, hb1⟩
  have HB1 := Lib.hid hb1
  clear hb1
  go_wp2_with fail
  refine (HFA.out w1 HB1.out false).mono ?_
  rintro e w2 ⟨SA, la, ca, PA, rfl, ra, oka, _, la16, na, ba⟩
  have HRA := Lib.hid ra
  have HOA := Lib.hid oka
  have HNA := Lib.hid na
  have HB2 := Lib.hid (HB1.out.trans (ba.mono HB1.out.size))
  clear ra oka na ba
  go_wp2_with fail
  refine (HFA.out w2 HB2.out true).mono ?_
  rintro e w3 ⟨SB, lb, cb, PB, rfl, rb, okb, _, lb16, nb, bb⟩
  have HRA3 := Lib.hid (HRA.out.below bb)
  have HRB := Lib.hid rb
  have HOB := Lib.hid okb
  have hne := HNE.out la lb HNA.out nb
  have HB3 := Lib.hid (HB2.out.trans (bb.mono HB2.out.size))
  clear rb okb nb bb HRA HNA
  by_cases hgt : la < lb
  · go_wp2_with fail
    go_ret2
    exact ⟨true, SB, lb, cb, PB, rfl, HRB.out, HOB.out, by omega, lb16, HB3.out⟩
  · by_cases heq : lb = la
    · subst heq
      have qe : ((lb : Int) == (lb : Int)) = true := by simp
      go_wp2_with fail
      refine (compF_any SB SA lb cb lb ca PB PA w3 HRB.out HRA3.out (by omega) (by omega)).mono ?_
      rintro e w4 ⟨⟨r, rfl⟩, hb4⟩
      have HRA4 := Lib.hid (HRA3.out.below hb4)
      have HRB4 := Lib.hid (HRB.out.below hb4)
      have HB4 := Lib.hid (HB3.out.trans (hb4.mono HB3.out.size))
      clear hb4
      by_cases hr : r < 0
      · go_wp2_with fail
        go_ret2
        exact ⟨true, SB, lb, cb, PB, rfl, HRB4.out, HOB.out, by omega, lb16, HB4.out⟩
      · go_wp2_with fail
        go_ret2
        exact ⟨false, SA, lb, ca, PA, rfl, HRA4.out, HOA.out, by omega, la16, HB4.out⟩
    · have qe : ((lb : Int) == (la : Int)) = false := by rw [beq_eq_false_iff_ne]; omega
      go_wp2_with fail
      go_ret2
      exact ⟨false, SA, la, ca, PA, rfl, HRA3.out, HOA.out, by omega, la16, HB3.out⟩
set_option maxRecDepth 100000 in
theorem foolT_bad (A : Option Addr) (n c : Nat) (R : Nat → SB) (w : World) (h : GrT w A n R) (hn : n ≤ maxLen) (x : Int) (hx : x = tkE n R) (h0 : x ≠ 0) :
    Calls Try.prog 10 #[.slice A n c] w fun e w' => e = .returned (.tuple #[.slice none 0 0, .int .i64 x]) ∧ Below w.heap.size w w' := by
  have hwr := wrongT_any A n c R w h hn
  rw [← hx] at hwr
  have HWR := Lib.hid hwr
  clear h hwr hx
  go_enter Try.func10, Try.ntmps10
  go_wp2_with fail
  refine HWR.out.mono ?_
  rintro e w1 ⟨rfl, hb1⟩
  go_wp2_with fail
  go_ret2
  exact ⟨rfl, hb1⟩
end Go.Proofs.Ytnfibchffbdmpaa
