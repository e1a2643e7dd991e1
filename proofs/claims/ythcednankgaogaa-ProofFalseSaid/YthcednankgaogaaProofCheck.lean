/- What proof.saidWrong, proof.check and proof.Check compute. Conditions: as each theorem states. -/
import Derived.Test.YthcednankgaogaaProofSay
import Derived.Test.YthcednankgaogaaPredR
namespace Go.Proofs.Ythcednankgaogaa
open ProofM Go.ChangeShapes Go.WideShapes Go.ChangeAt Go.RowKit
set_option linter.unusedVariables false
def badP (P : Nat → Int) (i : Nat) : Bool := !(inB 0 (P (2 * i)) 6) || !(inB 0 (P (2 * i + 1)) 6)
set_option maxRecDepth 100000 in
theorem badPair_any (a b : Int) (w : World) :
    Calls Try.prog 28 #[.agg #[.int .i64 a, .int .i64 b]] w fun e w' => e = .returned (.bool (!(inB 0 a 6) || !(inB 0 b 6))) ∧ Below w.heap.size w w' := by
  cases ha : inB 0 a 6 with
  | false =>
    go_enter Try.func28, Try.ntmps28
    go_wp2_with (go_at_call 19; refine (bad_any _ _).mono ?_; rintro e w' ⟨rfl, rfl⟩)
    go_ret
    exact ⟨rfl, (Below.refl _ _).alloc (Nat.le_refl _) _⟩
  | true =>
    cases hb : inB 0 b 6 with
    | false =>
      go_enter Try.func28, Try.ntmps28
      go_wp2_with (go_at_call 19; refine (bad_any _ _).mono ?_; rintro e w' ⟨rfl, rfl⟩)
      go_ret
      exact ⟨rfl, (Below.refl _ _).alloc (Nat.le_refl _) _⟩
    | true =>
      go_enter Try.func28, Try.ntmps28
      go_wp2_with (go_at_call 19; refine (bad_any _ _).mono ?_; rintro e w' ⟨rfl, rfl⟩)
      go_ret
      exact ⟨rfl, (Below.refl _ _).alloc (Nat.le_refl _) _⟩
/-- what is wrong with what is said -/
def svE (n : Int) (m : Nat) (f : Nat → Int) (T : Int) (s : Nat) (P : Nat → Int) : Int :=
  if prE n m f = 0 then (if inB 0 T 6 = false ∨ anyB (badP P) s = true then 4 else if (s : Int) = n then 0 else 3) else prE n m f
set_option maxRecDepth 100000 in
set_option maxHeartbeats 1000000 in
theorem saidWrong_any (n T : Int) (A S : Option Addr) (m c s sc : Nat) (f P : Nat → Int) (w : World) (h : Rd w A m (fun i => .int .i64 (f i))) (hs : Rd w S (s * 2) (fun i => .int .i64 (P i))) (hm : m ≤ maxLen) (hsl : s ≤ maxLen) :
    Calls Try.prog 21 #[.int .i64 n, .slice A m c, .int .i64 T, .slice S s sc] w fun e w' => e = .returned (.int .i64 (svE n m f T s P)) ∧ Below w.heap.size w w' := by
  have H := Lib.hid h
  have G := Lib.hid hs
  have HSL := Lib.hid hsl
  clear h hs
  unfold maxLen at hsl
  have hcont := containsR_any 28 #[] S s sc P (badP P) w G.out HSL.out (fun _ _ => rfl) (fun i _ W _ => badPair_any _ _ W)
  have HC := Lib.hid hcont
  clear hcont
  by_cases hv : prE n m f = 0
  · have e1 : svE n m f T s P = if inB 0 T 6 = false ∨ anyB (badP P) s = true then 4 else if (s : Int) = n then 0 else 3 := if_pos hv
    cases hT : inB 0 T 6 with
    | false =>
      rw [if_pos (.inl hT)] at e1
      rw [e1]
      clear e1
      go_enter Try.func21, Try.ntmps21
      go_wp2_with fail
      refine (wrong_any n A m c f w H.out hm).mono ?_
      rintro e w' ⟨rfl, rfl⟩
      rw [hv]
      clear hv
      go_wp2_with fail
      refine (bad_any T w).mono ?_
      rintro e w' ⟨rfl, rfl⟩
      rw [hT]
      clear hT
      go_wp2_with fail
      go_ret
      exact ⟨rfl, Below.refl _ _⟩
    | true =>
      cases hb : anyB (badP P) s with
      | true =>
        rw [if_pos (.inr hb)] at e1
        rw [e1]
        clear e1
        go_enter Try.func21, Try.ntmps21
        go_wp2_with fail
        refine (wrong_any n A m c f w H.out hm).mono ?_
        rintro e w' ⟨rfl, rfl⟩
        rw [hv]
        clear hv
        go_wp2_with fail
        refine (bad_any T w).mono ?_
        rintro e w' ⟨rfl, rfl⟩
        rw [hT]
        clear hT
        go_wp2_with fail
        refine HC.out.mono ?_
        rintro e w1 ⟨rfl, hb1⟩
        rw [hb]
        clear hb
        go_wp2_with fail
        go_ret
        exact ⟨rfl, hb1⟩
      | false =>
        rw [if_neg (by rw [hT, hb]; simp)] at e1
        by_cases hsn : (s : Int) = n
        · rw [if_pos hsn] at e1
          rw [e1]
          have hq : ((s : Int) != n) = false := by rw [bne_eq_false_iff_eq]; exact hsn
          clear e1 hsn
          go_enter Try.func21, Try.ntmps21
          go_wp2_with fail
          refine (wrong_any n A m c f w H.out hm).mono ?_
          rintro e w' ⟨rfl, rfl⟩
          rw [hv]
          clear hv
          go_wp2_with fail
          refine (bad_any T w).mono ?_
          rintro e w' ⟨rfl, rfl⟩
          rw [hT]
          clear hT
          go_wp2_with fail
          refine HC.out.mono ?_
          rintro e w1 ⟨rfl, hb1⟩
          rw [hb]
          clear hb
          go_wp2_with fail
          go_ret
          exact ⟨rfl, hb1⟩
        · rw [if_neg hsn] at e1
          rw [e1]
          have hq : ((s : Int) != n) = true := by rw [bne_iff_ne]; exact hsn
          clear e1 hsn
          go_enter Try.func21, Try.ntmps21
          go_wp2_with fail
          refine (wrong_any n A m c f w H.out hm).mono ?_
          rintro e w' ⟨rfl, rfl⟩
          rw [hv]
          clear hv
          go_wp2_with fail
          refine (bad_any T w).mono ?_
          rintro e w' ⟨rfl, rfl⟩
          rw [hT]
          clear hT
          go_wp2_with fail
          refine HC.out.mono ?_
          rintro e w1 ⟨rfl, hb1⟩
          rw [hb]
          clear hb
          go_wp2_with fail
          go_ret
          exact ⟨rfl, hb1⟩
  · have e1 : svE n m f T s P = prE n m f := if_neg hv
    rw [e1]
    have hq : (prE n m f != 0) = true := by rw [bne_iff_ne]; exact hv
    clear e1 hv
    go_enter Try.func21, Try.ntmps21
    go_wp2_with fail
    refine (wrong_any n A m c f w H.out hm).mono ?_
    rintro e w' ⟨rfl, rfl⟩
    go_wp2_with fail
    go_ret
    exact ⟨rfl, Below.refl _ _⟩
instance (P t : Nat → Int) (s : Int) (k : Nat) : Decidable (okL P t s k) := by unfold okL; infer_instance
/-- do the lines, with these dice, say it is so -/
def chkB (f t : Nat → Int) (n : Nat) (P : Nat → Int) (T : Int) : Bool := decide (okL P t T n ∧ tot P t T n = FD f t n 0)
theorem chkB_iff {f t : Nat → Int} {n : Nat} {P : Nat → Int} {T : Int} : chkB f t n P T = true ↔ okL P t T n ∧ tot P t T n = FD f t n 0 := by
  unfold chkB; exact decide_eq_true_iff
theorem chkB_no {f t : Nat → Int} {n : Nat} {P : Nat → Int} {T : Int} (h : ¬ (okL P t T n ∧ tot P t T n = FD f t n 0)) : chkB f t n P T = false := by
  cases e : chkB f t n P T
  · rfl
  · exact absurd (chkB_iff.1 e) h
theorem tot_bd (P t : Nat → Int) {T : Int} (hT : 0 ≤ T ∧ T ≤ 6) (k : Nat) : 0 ≤ tot P t T k ∧ tot P t T k ≤ 6 := by
  cases k with
  | zero => exact hT
  | succ k => exact LN_bd _ _ _
set_option maxRecDepth 100000 in
set_option maxHeartbeats 1000000 in
theorem check_any (N : Nat) (A B S : Option Addr) (m c d sc : Nat) (T : Int) (f t P : Nat → Int) (w : World) (h : Rd w A m (fun i => .int .i64 (f i))) (g : Rd w B N (fun i => .int .i64 (t i))) (hs : Rd w S (N * 2) (fun i => .int .i64 (P i)))
    (hN : N ≤ 4) (hm : m = 2 ^ N) (hf : ∀ i, i < m → 0 ≤ f i ∧ f i ≤ 6) (ht : ∀ i, i < N → 0 ≤ t i ∧ t i ≤ 6) (hT : 0 ≤ T ∧ T ≤ 6) (hP : ∀ i, i < N → (0 ≤ P (2 * i) ∧ P (2 * i) ≤ 6) ∧ (0 ≤ P (2 * i + 1) ∧ P (2 * i + 1) ≤ 6)) :
    Calls Try.prog 22 #[.slice A m c, .int .i64 T, .slice S N sc, .slice B N d] w fun e w' => e = .returned (.bool (chkB f t N P T)) ∧ Below w.heap.size w w' := by
  have H := Lib.hid h
  have G := Lib.hid g
  have HS := Lib.hid hs
  have HM := Lib.hid hm
  have HF := Lib.hid hf
  have HT := Lib.hid ht
  have HP := Lib.hid hP
  have HTT := Lib.hid hT
  clear h g hs hm hf ht hP hT
  go_enter Try.func22, Try.ntmps22
  go_wp2_with fail
  go_loopw [1, 13] (fun s1 s13 wr => ∃ i : Nat, i ≤ N ∧ s13 = .int .i64 i ∧ s1 = .int .i64 (tot P t T i) ∧ okL P t T i ∧ Below w.heap.size w wr) (fun _ s13 _ => N - (intOf s13).toNat)
  case atStart => exact ⟨0, Nat.zero_le _, rfl, rfl, fun j hj => absurd hj (Nat.not_lt_zero _), Below.refl _ _⟩
  case round =>
    obtain ⟨wo, rfl⟩ : ∃ wo : World, wo = wr := ⟨_, rfl⟩
    obtain ⟨i, hi, rfl, rfl, hok0, hbel⟩ := hrel
    have HOK := Lib.hid hok0
    clear hok0
    obtain ⟨u0, u1⟩ := tot_bd P t HTT.out i
    have hun : tot P t T (i + 1) = LN (P (2 * i)) (P (2 * i + 1)) (t i) := rfl
    obtain ⟨U, hU⟩ : ∃ U, U = tot P t T i := ⟨_, rfl⟩
    rw [← hU] at u0 u1 ⊢
    have HU := Lib.hid hU
    clear hU
    by_cases hlt : i < N
    · obtain ⟨sb, so, rfl, _, c0, c1⟩ := (HS.out.below hbel).at2 hlt
      obtain ⟨⟨p0, p1⟩, q0, q1⟩ := HP.out i hlt
      obtain ⟨x, hx⟩ : ∃ x, x = P (2 * i) := ⟨_, rfl⟩
      obtain ⟨y, hy⟩ : ∃ y, y = P (2 * i + 1) := ⟨_, rfl⟩
      rw [← hx] at c0 p0 p1 hun
      rw [← hy] at c1 q0 q1 hun
      have HXY := Lib.hid (And.intro hx hy)
      have HUN := Lib.hid hun
      clear hx hy hun
      by_cases hok : (x + y) % 7 = U
      · have hq : ((x + y) % 7 != U) = false := by rw [bne_eq_false_iff_eq]; exact hok
        obtain ⟨db, d0, rfl, _, ct⟩ := (G.out.below hbel).at_ hlt
        obtain ⟨t0, t1⟩ := HT.out i hlt
        obtain ⟨z, hz⟩ : ∃ z, z = t i := ⟨_, rfl⟩
        rw [← hz] at ct t0 t1
        have HZ := Lib.hid hz
        have HOKK := Lib.hid hok
        clear hok hz
        have hb2 := hbel.alloc hbel.size (.cells #[.int .i64 x, .int .i64 y] 36)
        go_wp2_with fail
        go_region_law (go_simp; go_at_call 26; refine (line_any x y z _ ⟨p0, p1⟩ ⟨q0, q1⟩ ⟨t0, t1⟩).mono ?_; rintro e w3 ⟨rfl, hb3⟩)
        all_goals
          go_wp2_with fail
          go_roundw
          case rel => exact ⟨i + 1, by omega, by go_num, by rw [HUN.out, HZ.out], fun j hj => by
            by_cases e : j = i
            · subst e; rw [← HXY.out.1, ← HXY.out.2, ← HU.out]; exact HOKK.out
            · exact HOK.out j (by omega), by first | exact hb2.trans (hb3.mono hb2.size) | exact hb2.drew.trans (hb3.mono hb2.size) | exact first_below hb2 hb3 (by simp; omega)⟩
          case measure => simp [intOf]; omega
      · have hq : ((x + y) % 7 != U) = true := by rw [bne_iff_ne]; exact hok
        have HNO := Lib.hid hok
        clear hok
        go_wp2_with fail
        go_ret
        exact ⟨ret_bool (chkB_no fun hh => HNO.out (by rw [HXY.out.1, HXY.out.2, HU.out]; exact hh.1 i hlt)).symm, hbel.alloc hbel.size _⟩
    · obtain rfl : i = N := by omega
      go_wp2_with fail
      refine (fold_any i A B m c i d f t _ (H.out.below hbel) (G.out.below hbel) hN HM.out (Nat.le_refl _) HF.out HT.out).mono ?_
      rintro e w1 ⟨A', c', rfl, hrd, hb1⟩
      rw [Nat.sub_self] at hrd
      obtain ⟨b, o, rfl, _, cc⟩ := hrd.at_ (show 0 < 2 ^ 0 by decide)
      simp only [Nat.sub_self, Nat.pow_zero]
      obtain ⟨V, hV⟩ : ∃ V, V = FD f t i 0 := ⟨_, rfl⟩
      rw [← hV, Nat.add_zero] at cc
      have HV := Lib.hid hV
      clear hrd hV
      have B2 := hbel.trans (hb1.mono hbel.size)
      by_cases he : U = V
      · have hq : (U == V) = true := by rw [beq_iff_eq]; exact he
        have HE := Lib.hid he
        clear he
        go_wp2_with fail
        go_ret
        exact ⟨ret_bool (by exact (chkB_iff.2 ⟨HOK.out, by rw [← HU.out, ← HV.out]; exact HE.out⟩).symm), B2⟩
      · have hq : (U == V) = false := by rw [beq_eq_false_iff_ne]; exact he
        have HE := Lib.hid he
        clear he
        go_wp2_with fail
        go_ret
        exact ⟨ret_bool (by exact (chkB_no fun hh => HE.out (by rw [HU.out, HV.out]; exact hh.2)).symm), B2⟩
set_option maxRecDepth 100000 in
set_option maxHeartbeats 1000000 in
theorem Check_good (N : Nat) (A B S : Option Addr) (m c d sc : Nat) (T : Int) (f t P : Nat → Int) (w : World) (h : Rd w A m (fun i => .int .i64 (f i))) (g : Rd w B N (fun i => .int .i64 (t i))) (hs : Rd w S (N * 2) (fun i => .int .i64 (P i)))
    (h1 : 1 ≤ N) (hN : N ≤ 4) (hm : m = 2 ^ N) (hf : ∀ i, i < m → 0 ≤ f i ∧ f i ≤ 6) (ht : ∀ i, i < N → 0 ≤ t i ∧ t i ≤ 6) (hT : 0 ≤ T ∧ T ≤ 6) (hP : ∀ i, i < N → (0 ≤ P (2 * i) ∧ P (2 * i) ≤ 6) ∧ (0 ≤ P (2 * i + 1) ∧ P (2 * i + 1) ≤ 6)) :
    Calls Try.prog 15 #[.int .i64 N, .slice A m c, .int .i64 T, .slice S N sc, .slice B N d] w fun e w' => e = .returned (.tuple #[.bool (chkB f t N P T), .int .i64 0]) ∧ Below w.heap.size w w' := by
  have hv := prE_is h1 hN hm hf
  have hm16 : m ≤ 16 := by have := pow_bd hN; omega
  have hb : insB 7 N t = true := insB_iff.2 fun i hi => by have := ht i hi; omega
  have hsv : svE N m f T N P = 0 := by
    unfold svE
    rw [if_pos hv, if_neg, if_pos rfl]
    rintro (h | h)
    · rw [inB_yes hT.1 hT.2] at h; cases h
    · rw [anyB_no fun j hj => by
        obtain ⟨⟨a, b⟩, c, d⟩ := hP j hj
        unfold badP; rw [inB_yes a b, inB_yes c d]; rfl] at h
      cases h
  have H := Lib.hid h
  have G := Lib.hid g
  have HS := Lib.hid hs
  have HM := Lib.hid hm
  have HF := Lib.hid hf
  have HT := Lib.hid ht
  have HP := Lib.hid hP
  have HTT := Lib.hid hT
  clear h g hs hm hf ht hP hT hv
  go_enter Try.func15, Try.ntmps15
  go_wp2_with fail
  refine (saidWrong_any N T A S m c N sc f P w H.out HS.out (by unfold maxLen; omega) (by unfold maxLen; omega)).mono ?_
  rintro e w1 ⟨rfl, hb1⟩
  rw [hsv]
  clear hsv
  go_wp2_with fail
  refine (contains_any B N d t _ (G.out.below hb1) (by unfold maxLen; omega)).mono ?_
  rintro e w' ⟨rfl, rfl⟩
  rw [hb]
  clear hb
  go_wp2_with fail
  refine (check_any N A B S m c d sc T f t P _ (H.out.below hb1) (G.out.below hb1) (HS.out.below hb1) hN HM.out HF.out HT.out HTT.out HP.out).mono ?_
  rintro e w2 ⟨rfl, hb2⟩
  go_wp2_with fail
  go_ret2
  exact ⟨rfl, hb1.trans (hb2.mono hb1.size)⟩
end Go.Proofs.Ythcednankgaogaa
