/- PairsParity: permanent and determinant have the same parity, and that is what Parity tells. No condition. -/
import Derived.Test.YtenlnkcmabphfaaPairsSigned
import Derived.Test.YtenlnkcmabphfaaPairsSq
namespace Go.Proofs.Ytenlnkcmabphfaa.pairsParity
open Go.ChangeShapes Go.WideShapes Go.ChangeAt Go.RowKit
set_option linter.unusedVariables false
set_option linter.unusedSimpArgs false
theorem and1 (x : Int) : bits .and .i64 x 1 = x % 2 := by
  show IntKind.i64.wrap ((BitVec.ofInt 64 x &&& BitVec.ofInt 64 1).toNat : Int) = _
  have h1 : (BitVec.ofInt 64 x &&& BitVec.ofInt 64 1).toNat = (x % 2).toNat := by
    rw [BitVec.toNat_and]
    have e1 : (BitVec.ofInt 64 1).toNat = 1 := by decide
    rw [e1, Nat.and_one_is_mod, BitVec.toNat_ofInt]
    omega
  rw [h1]
  rw [IntWalk.i64_in _ (by omega)]
  omega
def oddB (x : Int) : Bool := x % 2 == 1
set_option maxRecDepth 100000 in
theorem parity_any (A : Option Addr) (n c : Nat) (R : Nat → SI) (w : World) (h : GrP w A n R) (hn : n ≤ maxLen) :
    Calls Try.prog 16 #[.slice A n c] w fun e w' => e = .returned (.tuple #[.bool (oddB (if pwE n R = 0 then dt (-1) n (mtW R) else 0)), .int .i64 (pwE n R)]) ∧ Below w.heap.size w w' := by
  have HC := Lib.hid (signed_any A n c R w h hn)
  obtain ⟨x, hx⟩ : ∃ x, x = (if pwE n R = 0 then dt (-1) n (mtW R) else 0) := ⟨_, rfl⟩
  obtain ⟨v, hv⟩ : ∃ v, v = pwE n R := ⟨_, rfl⟩
  rw [← hx, ← hv] at HC ⊢
  have hand := and1 x
  obtain ⟨y, hy⟩ : ∃ y, y = x % 2 := ⟨_, rfl⟩
  rw [← hy] at hand
  have HO : Hid (oddB x = (y == 1)) := Lib.hid (by unfold oddB; rw [hy])
  clear h hn hx hv hy
  go_enter Try.func16, Try.ntmps16
  go_wp2_with fail
  refine HC.out.mono ?_
  rintro e w1 ⟨rfl, hb1⟩
  go_wp2_with fail
  go_ret2
  exact ⟨by rw [HO.out]; rfl, hb1⟩
set_option maxRecDepth 100000 in
set_option maxHeartbeats 8000000 in
theorem walk (w : World) (A : Option Addr) (n c : Nat) (R : Nat → SI) (h : Rd w A n (fun i => (R i).val)) (hg : ∀ i, (R i).good w) (hl : n ≤ c) (hm : c ≤ maxLen) (z : c * 24 ≤ 140737488351232) :
    Calls Try.prog 6 #[.slice A n c] w fun e w' => e = .returned (.bool true) ∧ Below w.heap.size w w' := by
  have H : Hid (GrP w A n R) := Lib.hid ⟨h, fun i _ => hg i⟩
  have HNM : Hid (n ≤ maxLen) := Lib.hid (by omega)
  have hcl : ∀ X, Below w.heap.size w X → GrP X A n R := fun X hX => H.out.below hX
  have HCL := Lib.hid hcl
  have hval := fun (h0 : pwE n R = 0) => pwE_zero h0
  obtain ⟨x, hx⟩ : ∃ x, x = (if pwE n R = 0 then dt (-1) n (mtW R) else 0) := ⟨_, rfl⟩
  obtain ⟨y, hy⟩ : ∃ y, y = (if pwE n R = 0 then dt 1 n (mtW R) else 0) := ⟨_, rfl⟩
  have hpar : x % 2 = y % 2 := by
    rw [hx, hy]
    split
    · exact dt_even _ _ (by decide) (by decide) _ _
    · rfl
  have hxb : -46080000000 ≤ x ∧ x ≤ 46080000000 := by
    rw [hx]
    split
    · rename_i h0
      have h1 := dt_bd (-1) 20 (.inr rfl) (n := n) (A := mtW R) fun i hi j hj => (hval h0).2.2 i hi j hj
      have h2 := (bd20 n (hval h0).1.2).2
      omega
    · omega
  have hyb : -46080000000 ≤ y ∧ y ≤ 46080000000 := by
    rw [hy]
    split
    · rename_i h0
      have h1 := dt_bd 1 20 (.inl rfl) (n := n) (A := mtW R) fun i hi j hj => (hval h0).2.2 i hi j hj
      have h2 := (bd20 n (hval h0).1.2).2
      omega
    · omega
  have HC1 := Lib.hid fun X hX => parity_any A n c R X (HCL.out X hX) HNM.out
  have HC2 := Lib.hid fun X hX => ways_any A n c R X (HCL.out X hX) HNM.out
  have HC3 := Lib.hid fun X hX => signed_any A n c R X (HCL.out X hX) HNM.out
  have HC4 := Lib.hid fun X hX => squaredP_any A n c R X (HCL.out X hX) HNM.out
  obtain ⟨v, hv⟩ : ∃ v, v = pwE n R := ⟨_, rfl⟩
  rw [← hv] at hx hy HC1 HC2 HC3 HC4
  rw [← hx] at HC1 HC3
  rw [← hy] at HC2
  have HZ : Hid (v ≠ 0 → x = 0) := Lib.hid fun h0 => by rw [hx, if_neg h0]
  clear h hg hl hm z hcl hval hx hy hv
  have m1 : Int.tmod (y - x) 2 = 0 := by
    obtain ⟨k, hk⟩ : ∃ k, y - x = 2 * k := ⟨(y - x) / 2, by omega⟩
    rw [hk]; exact Int.mul_tmod_right 2 k
  have m2 : (Int.tmod y 2 != 0) = oddB x := by
    unfold oddB
    rw [hpar]
    have hc : y % 2 = 0 ∨ y % 2 = 1 := by omega
    rcases hc with e | e
    · have h2 : Int.tmod y 2 = 0 := by
        obtain ⟨k, hk⟩ : ∃ k, y = 2 * k := ⟨y / 2, by omega⟩
        rw [hk]; exact Int.mul_tmod_right 2 k
      rw [h2, e]; rfl
    · rw [e]
      have h2 : Int.tmod y 2 ≠ 0 := fun h0 => by
        have := Int.dvd_of_tmod_eq_zero h0
        omega
      simpa using h2
  have M2 := Lib.hid m2
  clear hpar m2
  go_enter Try.func6, Try.ntmps6
  go_wp2_with fail
  refine (HC1.out w (Below.refl _ _)).mono ?_
  rintro e w1 ⟨rfl, hb1⟩
  go_wp2_with fail
  refine (HC2.out w1 hb1).mono ?_
  rintro e w2 ⟨rfl, hb2⟩
  have hb2' := hb1.trans (hb2.mono hb1.size)
  go_wp2_with fail
  refine (HC3.out w2 hb2').mono ?_
  rintro e w3 ⟨rfl, hb3⟩
  have hb3' := hb2'.trans (hb3.mono hb2'.size)
  have HB := Lib.hid hb3'
  by_cases hv0 : v = 0
  · subst hv0
    have HSQ := Lib.hid (HC4.out w3 hb3')
    clear hb1 hb2 hb3 hb2' hb3'
    go_wp2_with fail
    refine HSQ.out.mono ?_
    rintro e w4 ⟨rfl, rfl⟩
    go_wp2_with fail
    go_ret
    exact ⟨ret_bool (by rw [M2.out]; simp), HB.out⟩
  · have hxz := HZ.out hv0
    subst hxz
    have q1 : (v != 0) = true := by rw [bne_iff_ne]; exact hv0
    have hsq := HC4.out w3 hb3'
    rw [show (v == 0) = false from beq_eq_false_iff_ne.2 hv0] at hsq
    have HSQ := Lib.hid hsq
    have ho : oddB 0 = false := rfl
    rw [ho]
    clear hb1 hb2 hb3 hb2' hb3' hsq hv0 ho
    go_wp2_with fail
    refine HSQ.out.mono ?_
    rintro e w4 ⟨rfl, rfl⟩
    go_wp2_with fail
    go_ret
    exact ⟨rfl, HB.out⟩
end Go.Proofs.Ytenlnkcmabphfaa.pairsParity
