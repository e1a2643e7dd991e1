/- The multilinear extension agrees with f on words and is linear between them. No condition. -/
import Derived.Test.YthcednankgaogaaProofFold
import Derived.Test.YthcednankgaogaaRow
namespace Go.Proofs.Ythcednankgaogaa.proofWord
open ProofM Go.ChangeShapes Go.WideShapes Go.ChangeAt Go.RowKit
set_option linter.unusedVariables false
/-- place r put to x -/
def put (t : Nat → Int) (r : Nat) (x : Int) (s : Nat) : Int := if s = r then x else t s
theorem put_rd {w : World} {g c n : Nat} {F : Nat → Value} {t : Nat → Int} {r : Nat} {x : Int} {e : TypeId} (h : w.rowIs g e c (fun j => if j = r then .int .i64 x else F j)) (hle : n ≤ c) (hF : ∀ i, i < n → F i = .int .i64 (t i)) :
    Rd w (some ⟨g, 0, none⟩) n (fun i => .int .i64 (put t r x i)) := (Rd.of_row h hle).congr fun i hi => by
  unfold put
  by_cases e : i = r
  · rw [if_pos e, if_pos e]
  · rw [if_neg e, if_neg e, hF i hi]
theorem put_bd {t : Nat → Int} (h : ∀ i, 0 ≤ t i ∧ t i ≤ 6) {r : Nat} {x : Int} (hx : 0 ≤ x ∧ x ≤ 6) (i : Nat) : 0 ≤ put t r x i ∧ put t r x i ≤ 6 := by
  unfold put; split
  · exact hx
  · exact h i
theorem word_at {f t : Nat → Int} {N m k : Nat} (hm : m = 2 ^ N) (hf : ∀ i, i < m → 0 ≤ f i ∧ f i ≤ 6) (ht : ∀ r, t r = ((k / 2 ^ r % 2 : Nat) : Int)) (hk : k < m) : FD f t N 0 = f k := by
  subst hm
  rw [FD_word hf ht N (Nat.le_refl _) 0 (by rw [Nat.sub_self]; decide), Nat.zero_mul, Nat.zero_add, Nat.mod_eq_of_lt hk]
theorem line_at {f t : Nat → Int} {N r : Nat} {x : Int} (hr : r < N) :
    FD f (put t r x) N 0 = (FD f (put t r 0) N 0 * (8 - x) + FD f (put t r 1) N 0 * x) % 7 := by
  have := FD_line (f := f) (a := t) (x := x) N hr 0
  have e : FD f (put t r x) N 0 % 7 = FD f (put t r x) N 0 := by
    obtain ⟨M, rfl⟩ : ∃ M, N = M + 1 := ⟨N - 1, by omega⟩
    show LN _ _ _ % 7 = LN _ _ _
    have := LN_bd (FD f (put t r x) M (2 * 0)) (FD f (put t r x) M (2 * 0 + 1)) (put t r x M)
    omega
  rw [← e]; exact this
set_option maxRecDepth 100000 in
theorem walk (w : World) (n : Int) (A : Option Addr) (m c : Nat) (f : Nat → Int) (u v x : Int) (wn : (Lit.int .i64 n).wf = true) (h : Rd w A m (fun i => .int .i64 (f i))) (wf : ∀ i, (Lit.int .i64 (f i)).wf = true) (hl : m ≤ c) (hm : c ≤ maxLen) (z : c * 8 ≤ 140737488351232) (wu : (Lit.int .u8 u).wf = true) (wv : (Lit.int .u8 v).wf = true) (wx : (Lit.int .i64 x).wf = true) :
    Calls Try.prog 3 #[.int .i64 n, .slice A m c, .int .u8 u, .int .u8 v, .int .i64 x] w fun e w' => e = .returned (.bool true) ∧ Below w.heap.size w w' := by
  have hml : m ≤ maxLen := by omega
  obtain ⟨u0, u1⟩ := bounds_u8 wu
  obtain ⟨v0, v1⟩ := bounds_u8 wv
  clear wn wf hl hm z wu wv wx
  by_cases hv : prE n m f = 0
  · obtain ⟨N, rfl, hN1, hN, hk2, hf⟩ := prE_zero hv
    have hz : isZ (prE (N : Int) m f) = true := by rw [hv]; rfl
    have p := pow_bd hN
    have hm16 : m ≤ 16 := by omega
    have hm1 : 1 ≤ m := by omega
    have tm : u.tmod (m : Int) = u % m := Int.tmod_eq_emod_of_nonneg u0
    have tn : v.tmod (N : Int) = v % N := Int.tmod_eq_emod_of_nonneg v0
    have km0 := Int.emod_nonneg u (show (m : Int) ≠ 0 by omega)
    have km1 := Int.emod_lt_of_pos u (show (0 : Int) < m by omega)
    have kn0 := Int.emod_nonneg v (show (N : Int) ≠ 0 by omega)
    have kn1 := Int.emod_lt_of_pos v (show (0 : Int) < N by omega)
    obtain ⟨k, hk⟩ : ∃ k : Nat, u % m = k := ⟨(u % m).toNat, by omega⟩
    obtain ⟨r, hr⟩ : ∃ r : Nat, v % N = r := ⟨(v % N).toNat, by omega⟩
    rw [hk] at tm km1
    rw [hr] at tn kn1
    have hkm : k < m := by omega
    have hrN : r < N := by omega
    obtain ⟨t, ht⟩ : ∃ t : Nat → Int, ∀ r, t r = ((k / 2 ^ r % 2 : Nat) : Int) := ⟨_, fun _ => rfl⟩
    have htb : ∀ i, 0 ≤ t i ∧ t i ≤ 6 := fun i => by rw [ht]; omega
    have hword := word_at hk2 hf ht hkm
    have H := Lib.hid h
    have HK2 := Lib.hid hk2
    have HF := Lib.hid hf
    have HT := Lib.hid ht
    have HTB := Lib.hid htb
    have HW := Lib.hid hword
    clear hv h hk2 p km0 kn0 hk hr hf ht htb hword
    go_enter Try.func3, Try.ntmps3
    go_wp2_with fail
    refine (proved_any (N : Int) A m c f w H.out hml).mono ?_
    rintro e w' ⟨rfl, rfl⟩
    go_wp2_with fail
    refine (dice2_any N k w hN (by omega)).mono ?_
    rintro e w1 ⟨A1, c1, rfl, hown1, hb1⟩
    have hown1 := hown1.congr (C' := fun i => .int .i64 (t i)) (fun i hi => by rw [HT.out])
    have HO1 := Lib.hid hown1
    have hrd1 := hown1.rd
    have HRD1 := Lib.hid hrd1
    clear hown1 hrd1
    go_wp2_with fail
    refine (value_good N A A1 m c c1 f t w1 (H.out.below hb1) HRD1.out hN1 hN HK2.out HF.out (fun i _ => HTB.out i)).mono ?_
    rintro e w2 ⟨rfl, hb2⟩
    have hb12 := hb1.trans (hb2.mono hb1.size)
    obtain ⟨bb, oo, rfl, _, cck⟩ := (H.out.below hb12).at_ hkm
    rw [HW.out]
    have hne : (f k != f k) = false := by simp
    by_cases hx : 0 ≤ x ∧ x ≤ 6
    · have hins : insB 7 1 (fun _ => x) = true := insB_iff.2 fun i _ => by omega
      go_wp2_with fail
      obtain ⟨w3, hw3⟩ : ∃ w3, w3 = w2.alloc (.cells #[.int .i64 x] 3) := ⟨_, rfl⟩
      have hrx : Rd w3 (some ⟨w2.heap.size, 0, none⟩) 1 (fun _ => .int .i64 x) := by rw [hw3]; exact Rd.one _ _ _
      have hb23 : Below w2.heap.size w2 w3 := by rw [hw3]; exact (Below.refl _ _).alloc (Nat.le_refl _) _
      rw [← hw3]
      clear hw3
      refine (inside_any 7 _ 1 1 (fun _ => x) w3 hrx (by decide)).mono ?_
      rintro e w' ⟨rfl, rfl⟩
      have hb13 := hb2.trans (hb23.mono hb2.size)
      have hb03 := hb1.trans (hb13.mono hb1.size)
      have hA1 := HRD1.out.below hb13
      obtain ⟨g1, F1, rfl, hg1, hr1, hle1, hF1⟩ := HO1.out.row hN1
      have hg1s := hr1.lt
      have HF1 := Lib.hid hF1
      clear hF1
      go_wp2_with (first
        | (at_builtin; refine wpList_app _ rfl (.tmp 71) (.tmp 72) 22 rfl EI rfl (Own.empty w3 w3.heap.size 3 1 (fun _ => .int .i64 0) (Nat.le_refl _)) rfl (l := N) (by omega) (hA1.alloc _) (fun _ _ => rfl) (by unfold maxLen; omega) (by omega) (by simp) N N (by omega) (by omega) ?_; intro A2 c2 w4 hown4 hg4 hat4 hbl4
           obtain ⟨g2, F2, rfl, hg2, hr2, hle2, hF2⟩ := hown4.row hN1
           have hb34 := ((Below.refl w3.heap.size w3).alloc (Nat.le_refl _) (.cells #[] 3)).trans hbl4
           have hs2 := hr2.lt
           have fr2 := hr2.frozen r
           have ce2 := hr2.cell (show r < c2 by omega)
           have hb35 := hb34.setCell (p := ⟨g2, r, none⟩) hg2 (.int .i64 0)
           have hA5 := hA1.below hb35
           have he5 := Own.empty (w4.setCell ⟨g2, r, none⟩ (.int .i64 0)) (w4.setCell ⟨g2, r, none⟩ (.int .i64 0)).heap.size 3 1 (fun _ => .int .i64 0) (Nat.le_refl _)
           rw [show (w4.setCell ⟨g2, r, none⟩ (.int .i64 0)).heap.size = w4.heap.size by simp [World.setCell]] at he5
           have HF2 := Lib.hid hF2
           clear hF2 hown4 hg4 hat4)
        | (at_builtin; refine wpList_app _ rfl (.tmp 77) (.tmp 78) 22 rfl EI rfl he5 rfl (l := N) (by omega) (hA5.alloc _) (fun _ _ => rfl) (by unfold maxLen; omega) (by omega) (by simp) N N (by omega) (by omega) ?_; intro A3 c3 w6 hown6 hg6 hat6 hbl6
           obtain ⟨g3, F3, rfl, hg3, hr3, hle3, hF3⟩ := hown6.row hN1
           have hs3 := hr3.lt
           have fr3 := hr3.frozen r
           have ce3 := hr3.cell (show r < c3 by omega)
           have hb56 := ((Below.refl w4.heap.size (w4.setCell ⟨g2, r, none⟩ (.int .i64 0))).alloc (by simp [World.setCell]) (.cells #[] 3)).trans hbl6
           have hb57 := hb56.setCell (p := ⟨g3, r, none⟩) hg3 (.int .i64 1)
           have hb17 := hb13.trans ((hb35.trans (hb57.mono hb34.size)).mono hb13.size)
           have hr17 := row_below hr1 hb17 hg1s
           have fr1 := hr17.frozen r
           have ce1 := hr17.cell (show r < c1 by omega)
           have HF3 := Lib.hid hF3
           clear hF3 hown6 hg6 hat6))
      have s13 := hb13.size
      have s34 := hb34.size
      have row1 := hr17.set r (.int .i64 x)
      have row2 := (row_below (hr2.set r (.int .i64 0)) hb57 hs2).setOther (a := ⟨g1, r, none⟩) (by show g2 ≠ g1; omega) (.int .i64 x)
      have row3 := (hr3.set r (.int .i64 1)).setOther (a := ⟨g1, r, none⟩) (by show g3 ≠ g1; omega) (.int .i64 x)
      have hb8 := (hb1.trans (hb17.mono hb1.size)).setCell (p := ⟨g1, r, none⟩) hg1 (.int .i64 x)
      obtain ⟨w8, hw8⟩ : ∃ w8, w8 = (w6.setCell ⟨g3, r, none⟩ (.int .i64 1)).setCell ⟨g1, r, none⟩ (.int .i64 x) := ⟨_, rfl⟩
      rw [← hw8] at row1 row2 row3 hb8 ⊢
      have rd1 := put_rd row1 hle1 HF1.out
      have rd2 := put_rd (t := t) row2 hle2 (fun i hi => by rw [HF2.out i hi, cat_ge (by omega), Nat.sub_zero])
      have rd3 := put_rd (t := t) row3 hle3 (fun i hi => by rw [HF3.out i hi, cat_ge (by omega), Nat.sub_zero])
      have R1 := Lib.hid rd1
      have R2 := Lib.hid rd2
      have R3 := Lib.hid rd3
      have hline := line_at (f := f) (t := t) (x := x) hrN
      have v0 := FD_bd (a := put t r 0) HF.out N 0 (by rw [HK2.out]; simp)
      have v1 := FD_bd (a := put t r 1) HF.out N 0 (by rw [HK2.out]; simp)
      clear row1 row2 row3 rd1 rd2 rd3 hw8 hb17 hr17 fr1 ce1 hb56 hb57 fr3 ce3 hs3 hr3 hg3 hbl6 he5 hA5 hb35 ce2 fr2 hs2 hr2 hg2 hbl4 hb34 s13 s34 hA1 hrx hown1 HO1 hr1
      refine (value_good N _ _ m c c1 f (put t r x) w8 (H.out.below hb8) R1.out hN1 hN HK2.out HF.out (fun i _ => put_bd HTB.out hx i)).mono ?_
      rintro e w9 ⟨rfl, hb9⟩
      have hb89 := hb8.trans (hb9.mono hb8.size)
      obtain ⟨b, hbv⟩ : ∃ b, b = FD f (put t r x) N 0 := ⟨_, rfl⟩
      rw [← hbv] at hline ⊢
      clear hbv
      go_wp2_with fail
      refine (value_good N _ _ m c c2 f (put t r 0) w9 (H.out.below hb89) (R2.out.below hb9) hN1 hN HK2.out HF.out (fun i _ => put_bd HTB.out (by omega) i)).mono ?_
      rintro e w10 ⟨rfl, hb10⟩
      have hb810 := hb89.trans (hb10.mono hb89.size)
      obtain ⟨p0, hp0⟩ : ∃ p0, p0 = FD f (put t r 0) N 0 := ⟨_, rfl⟩
      rw [← hp0] at hline v0 ⊢
      clear hp0
      go_wp2_with fail
      refine (value_good N _ _ m c c3 f (put t r 1) w10 (H.out.below hb810) (R3.out.below (hb9.trans (hb10.mono hb9.size))) hN1 hN HK2.out HF.out (fun i _ => put_bd HTB.out (by omega) i)).mono ?_
      rintro e w11 ⟨rfl, hb11⟩
      have hb811 := hb810.trans (hb11.mono hb810.size)
      obtain ⟨p1, hp1⟩ : ∃ p1, p1 = FD f (put t r 1) N 0 := ⟨_, rfl⟩
      rw [← hp1] at hline v1 ⊢
      clear hp1
      have m1 := mul_bd (x := p0) (X := 6) (y := 8 - x) (Y := 8) ⟨by omega, by omega⟩ ⟨by omega, by omega⟩
      have m2 := mul_bd (x := p1) (X := 6) (y := x) (Y := 6) ⟨by omega, by omega⟩ ⟨by omega, by omega⟩
      have q1 : 0 ≤ p0 * (8 - x) := Int.mul_nonneg (by omega) (by omega)
      have q2 : 0 ≤ p1 * x := Int.mul_nonneg (by omega) (by omega)
      have e1 : IntKind.i64.wrap (8 - x) = 8 - x := IntWalk.i64_in _ (by omega)
      have e2 : IntKind.i64.wrap (p0 * (8 - x)) = p0 * (8 - x) := IntWalk.i64_in _ (by omega)
      have e3 : IntKind.i64.wrap (p1 * x) = p1 * x := IntWalk.i64_in _ (by omega)
      have e4 : IntKind.i64.wrap (p0 * (8 - x) + p1 * x) = p0 * (8 - x) + p1 * x := IntWalk.i64_in _ (by omega)
      have e5 : (p0 * (8 - x) + p1 * x).tmod 7 = b := by rw [hline]; exact Int.tmod_eq_emod_of_nonneg (by omega)
      have hb6 : 0 ≤ b ∧ b ≤ 6 := by omega
      have hbb : (b == b) = true := by simp
      have HL := Lib.hid hline
      clear m1 m2 q1 q2 hline v0 v1
      go_wp2_with fail
      go_ret
      exact ⟨ret_true (by rw [beq_iff_eq]; exact HL.out.symm), hb811⟩
    · have hins : insB 7 1 (fun _ => x) = false := insB_no (k := 0) (by omega) (by omega)
      go_wp2_with fail
      refine (inside_any 7 _ 1 1 (fun _ => x) _ (Rd.one _ _ _) (by decide)).mono ?_
      rintro e w' ⟨rfl, rfl⟩
      go_wp2_with fail
      go_ret
      exact ⟨rfl, hb12.alloc hb12.size _⟩
  · have hz : isZ (prE n m f) = false := by simp [isZ, hv]
    have hq : (prE n m f != 0) = true := by rw [bne_iff_ne]; exact hv
    have HV := Lib.hid hv
    have H := Lib.hid h
    clear hv h
    go_enter Try.func3, Try.ntmps3
    go_wp2_with fail
    refine (proved_any n A m c f w H.out hml).mono ?_
    rintro e w' ⟨rfl, rfl⟩
    go_wp2_with fail
    refine (value_bad n A _ m c _ _ f w H.out hml HV.out).mono ?_
    rintro e w' ⟨rfl, rfl⟩
    go_wp2_with fail
    go_ret
    exact ⟨rfl, Below.refl _ _⟩
end Go.Proofs.Ythcednankgaogaa.proofWord
