/- A false claim is accepted for few dice. No condition. -/
import Derived.Test.YthcednankgaogaaProofFooled
namespace Go.Proofs.Ythcednankgaogaa.proofFalse
open ProofM Go.ChangeShapes Go.WideShapes Go.ChangeAt Go.RowKit
set_option linter.unusedVariables false
set_option maxRecDepth 100000 in
set_option maxHeartbeats 2000000 in
theorem walk (w : World) (n : Int) (A : Option Addr) (m c : Nat) (f : Nat → Int) (T : Int) (S : Option Addr) (s sc : Nat) (P : Nat → Int) (wn : (Lit.int .i64 n).wf = true) (h : Rd w A m (fun i => .int .i64 (f i))) (wf : ∀ i, (Lit.int .i64 (f i)).wf = true) (hl : m ≤ c) (hm : c ≤ maxLen) (z : c * 8 ≤ 140737488351232) (wT : (Lit.int .i64 T).wf = true) (g : Rd w S (s * 2) (fun i => .int .i64 (P i))) (wf2 : ∀ i, (Lit.int .i64 (P i)).wf = true) (hl2 : s ≤ sc) (hm2 : sc ≤ maxLen) (z2 : sc * 16 ≤ 140737488351232) :
    Calls Try.prog 4 #[.int .i64 n, .slice A m c, .int .i64 T, .slice S s sc] w fun e w' => e = .returned (.bool true) ∧ Below w.heap.size w w' := by
  have hml : m ≤ maxLen := by omega
  have hsl : s ≤ maxLen := by omega
  have H := Lib.hid h
  have G := Lib.hid g
  clear wn h wf hl hm z wT g wf2 hl2 hm2 z2
  by_cases hv : svE n m f T s P = 0
  · obtain ⟨hp, hsn, hT, hP⟩ := svE_zero hv
    obtain ⟨N, hn, N1, N4, hmN, hf⟩ := prE_zero hp
    subst hn
    obtain rfl : s = N := by omega
    have hm16 : m ≤ 16 := by have := pow_bd N4; omega
    obtain ⟨p0, q0, p1, q1⟩ := pow7 (n := s) N4
    have hle := cnT_le (fun k => chkB f (digs k) s P T) (7 ^ s)
    have hfew : T ≠ SMp f m % 7 → cnT (fun k => chkB f (digs k) s P T) (7 ^ s) ≤ 7 ^ s - 6 ^ s := fun hne => few_all (fun i hi => hf i (by omega)) (by rw [← hmN]; exact hne)
    have hsix := (six_le s).1
    obtain ⟨K, hK⟩ : ∃ K, K = cnT (fun k => chkB f (digs k) s P T) (7 ^ s) := ⟨_, rfl⟩
    have hFo := fooled_good s T A S m c sc f P w H.out G.out hv N1 N4 hmN hf hT hP
    rw [← hK] at hle hfew hFo
    have hP7 := fun W => power_any 7 s W (.inr rfl) N4
    have hP6 := fun W => power_any 6 s W (.inl rfl) N4
    obtain ⟨Q7, hQ7⟩ : ∃ Q, Q = 7 ^ s := ⟨_, rfl⟩
    obtain ⟨Q6, hQ6⟩ : ∃ Q, Q = 6 ^ s := ⟨_, rfl⟩
    rw [← hQ7] at hle hfew hsix p0 p1 hP7
    rw [← hQ6] at hfew hsix q0 q1 hP6
    obtain ⟨SU, hSU⟩ : ∃ SU, SU = SMp f m % 7 := ⟨_, rfl⟩
    rw [← hSU] at hfew
    have HSU := Lib.hid hSU
    have HFEW := Lib.hid hfew
    have HV := Lib.hid hv
    have HP := Lib.hid hp
    have HFO := Lib.hid hFo
    have HP7 := Lib.hid hP7
    have HP6 := Lib.hid hP6
    clear hSU hfew hv hp hFo hP7 hP6 hK hQ7 hQ6 hsn hT hP hmN hf
    go_enter Try.func4, Try.ntmps4
    go_wp2_with fail
    refine HFO.out.mono ?_
    rintro e w1 ⟨rfl, hb1⟩
    go_wp2_with fail
    refine (saidCheck_any s T A S m c s sc f P _ (H.out.below hb1) (G.out.below hb1) hml hsl).mono ?_
    rintro e w2 ⟨rfl, hb2⟩
    rw [HV.out]
    have B2 := hb1.trans (hb2.mono hb1.size)
    clear hb1 hb2
    go_wp2_with fail
    refine (Sum_good s A m c f _ (H.out.below B2) hm16 HP.out).mono ?_
    rintro e w' ⟨rfl, rfl⟩
    rw [← HSU.out]
    go_wp2_with fail
    refine (HP7.out _).mono ?_
    rintro e w' ⟨rfl, rfl⟩
    by_cases hTS : T = SU
    · subst hTS
      go_wp2_with fail
      go_ret
      exact ⟨rfl, B2⟩
    · have hlf := HFEW.out hTS
      have hdec : decide ((K : Int) ≤ Q7 - Q6) = true := decide_eq_true (by omega)
      have HDEC := Lib.hid hdec
      clear hdec
      have hq : (SU == T) = false := by rw [beq_eq_false_iff_ne]; exact fun e => hTS e.symm
      go_wp2_with fail
      refine (HP6.out _).mono ?_
      rintro e w' ⟨rfl, rfl⟩
      go_wp2_with fail
      go_ret
      exact ⟨by show Ending.returned (Value.bool (decide ((K : Int) ≤ Q7 - Q6))) = _; rw [HDEC.out], B2⟩
  · have hq : (svE n m f T s P != 0) = true := by rw [bne_iff_ne]; exact hv
    have HV := Lib.hid hv
    clear hv
    go_enter Try.func4, Try.ntmps4
    go_wp2_with fail
    refine (fooled_bad n T A S m c s sc f P w H.out G.out hml hsl HV.out).mono ?_
    rintro e w1 ⟨rfl, hb1⟩
    go_wp2_with fail
    refine (saidCheck_any n T A S m c s sc f P _ (H.out.below hb1) (G.out.below hb1) hml hsl).mono ?_
    rintro e w2 ⟨rfl, hb2⟩
    go_wp2_with fail
    go_ret
    exact ⟨rfl, hb1.trans (hb2.mono hb1.size)⟩
end Go.Proofs.Ythcednankgaogaa.proofFalse
