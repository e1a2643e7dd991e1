/- TalkYao: as much must be said as places that fool, or the rank, ask; and a bit more than the rows ask will do. No condition. -/
import Derived.Test.YtnfibchffbdmpaaYaoLaw
import Derived.Test.YtnfibchffbdmpaaRowsUp
import Derived.Test.YtnfibchffbdmpaaTalkFoolTop
import Derived.Test.YtnfibchffbdmpaaTalkChk
namespace Go.Proofs.Ytnfibchffbdmpaa.talkYao
open Go.ChangeShapes Go.WideShapes Go.ChangeAt Go.RowKit
set_option linter.unusedVariables false
set_option linter.unusedSimpArgs false
theorem pw4 (x : Nat) : pwQ x ≤ 4 := by unfold pwQ; (repeat' split) <;> omega
set_option maxRecDepth 100000 in
set_option maxHeartbeats 8000000 in
theorem walk (w : World) (A : Option Addr) (n c : Nat) (R : Nat → SB) (h : Rd w A n (fun i => (R i).val)) (hg : ∀ i, (R i).good w) (hl : n ≤ c) (hm : c ≤ maxLen) (z : c * 24 ≤ 140737488351232) :
    Calls Try.prog 4 #[.slice A n c] w fun e w' => e = .returned (.bool true) ∧ Below w.heap.size w w' := by
  have H : Hid (GrT w A n R) := Lib.hid ⟨h, fun i _ => hg i⟩
  have HNM : Hid (n ≤ maxLen) := Lib.hid (by omega)
  have hnx : n ≤ 9223372036854775807 := by unfold maxLen at hm; omega
  have HLC := Lib.hid hl
  obtain ⟨v, hv⟩ : ∃ v, v = tkE n R := ⟨_, rfl⟩
  have hcl : ∀ X, Below w.heap.size w X → GrT X A n R := fun X hX => H.out.below hX
  have HCL := Lib.hid hcl
  clear h hg hl hm z hcl
  have C1 := Lib.hid (leastT_any A n c R w H.out HNM.out)
  have C2 := Lib.hid fun X hX => rank_any A n c (R 0).n R X (HCL.out X hX) HNM.out fun h0 => tkE_zero h0
  have C3 := Lib.hid fun X hX => rows_any A n c R X (HCL.out X hX) HNM.out HLC.out
  have C4 := Lib.hid fun X hX => talked_any A n c R X (HCL.out X hX) HNM.out
  rw [← hv] at C1 C2 C3 C4
  by_cases hv0 : v = 0
  · have hz0 : tkE n R = 0 := by rw [← hv]; exact hv0
    obtain ⟨hn4, hm4, hlen⟩ := tkE_zero hz0
    obtain ⟨m, hmm⟩ : ∃ m, m = (R 0).n := ⟨_, rfl⟩
    rw [← hmm] at hm4 hlen C1 C2 C3
    rw [if_pos hv0] at C1 C3
    have C5 := Lib.hid fun X hX => foolT_ok A n m c R X (HCL.out X hX) hn4 hm4 hlen hz0
    obtain ⟨k, hk⟩ : ∃ k : Nat, k = LeT n m R := ⟨_, rfl⟩
    obtain ⟨nr, hnr⟩ : ∃ k : Nat, k = cntR R m n := ⟨_, rfl⟩
    rw [← hk] at C1
    rw [← hnr] at C3
    have hk9 : k ≤ 9 := by rw [hk]; exact SY_9
    have hnr1 : 1 ≤ nr := by rw [hnr]; exact cntR_pos hn4.1
    have hnrn : nr ≤ n := by rw [hnr]; exact cntR_le R m n
    have HFL : Hid (∀ (v : Bool) (P : Nat → Nat × Nat) (len : Nat), FoolOk (tbB R) n m v P len → len ≤ 2 ^ k) := Lib.hid fun v P len h => by rw [hk]; exact fool_le hn4 hm4 h
    have HRL : Hid (∀ q, IsRank (tbI R) n m q → q ≤ 2 ^ k ∧ q ≤ nr) := Lib.hid fun q h => by rw [hk, hnr]; exact ⟨rank_le hn4 hm4 h, rank_rows h⟩
    have hup : k ≤ pwQ nr + 1 := by
      obtain ⟨e, x, h1, _⟩ := reps R m n
      rw [hk, hnr]; exact le_rows hn4 hm4 e x h1
    obtain ⟨n1, n4⟩ := hn4
    subst hv0
    clear hk hnr hlen hmm hz0 hv hm4
    go_enter Try.func4, Try.ntmps4
    go_wp2_with fail
    refine C1.out.mono ?_
    rintro e w1 ⟨rfl, b1⟩
    go_wp2_with fail
    refine (C5.out w1 b1).mono ?_
    rintro e w2 ⟨fv, S, len, fc, P, rfl, _, hok, l1, l16, b2⟩
    have hfl := HFL.out fv P len hok
    have b2' := b1.trans (b2.mono b1.size)
    clear hok b2 b1
    go_wp2_with fail
    refine (C2.out w2 b2').mono ?_
    rintro e w3 ⟨⟨k0, _⟩ | ⟨_, q, hq, hqn, rfl⟩, b3⟩
    · exact absurd rfl k0
    obtain ⟨hrl, hqr⟩ := HRL.out q hq
    have b3' := b2'.trans (b3.mono b2'.size)
    clear hq b3 b2'
    go_wp2_with fail
    refine (C3.out w3 b3').mono ?_
    rintro e w4 ⟨rfl, b4⟩
    have b4' := b3'.trans (b4.mono b3'.size)
    clear b3' b4
    go_wp2_with fail
    refine (C4.out w4 b4').mono ?_
    rintro e w5 ⟨rfl, rfl⟩
    have HB := Lib.hid b4'
    have p1 := pwQ_le hfl l16
    have p2 := pwQ_le hrl (by omega)
    have P1 := Lib.hid (power_any len l16 w4)
    have P2 := Lib.hid (power_any q (by omega) w4)
    have P3 := Lib.hid (power_any nr (by omega) w4)
    have p4 := pw4 nr
    obtain ⟨x1, hx1⟩ : ∃ x, x = pwQ len := ⟨_, rfl⟩
    obtain ⟨x2, hx2⟩ : ∃ x, x = pwQ q := ⟨_, rfl⟩
    obtain ⟨x3, hx3⟩ : ∃ x, x = pwQ nr := ⟨_, rfl⟩
    rw [← hx1] at P1 p1
    rw [← hx2] at P2 p2
    rw [← hx3] at P3 p4 hup
    have hzt : zeroT 0 = true := rfl
    have d1 : ((len : Int) == 0) = false := by rw [beq_eq_false_iff_ne]; omega
    have d2 : decide ((nr : Int) < 1) = false := decide_eq_false (by omega)
    have d3 : decide ((n : Int) < (nr : Int)) = false := decide_eq_false (by omega)
    have d4 : decide ((nr : Int) < (q : Int)) = false := decide_eq_false (by omega)
    clear hx1 hx2 hx3 hfl hrl b4' HFL HRL C1 C2 C3 C4 C5
    go_wp2_with fail
    refine P1.out.mono ?_
    rintro e w5 ⟨rfl, rfl⟩
    go_wp2_with fail
    refine P2.out.mono ?_
    rintro e w5 ⟨rfl, rfl⟩
    go_wp2_with fail
    refine P3.out.mono ?_
    rintro e w5 ⟨rfl, rfl⟩
    have d5 : decide ((k : Int) ≤ (x3 : Int) + 1) = true := decide_eq_true (by omega)
    go_wp2_with fail
    go_ret
    exact ⟨rfl, HB.out⟩
  · have hzt : zeroT v = false := beq_eq_false_iff_ne.2 hv0
    rw [hzt] at C4
    rw [if_neg hv0] at C1 C3
    have q1 : (v != 0) = true := by rw [bne_iff_ne]; exact hv0
    have HV0 := Lib.hid hv0
    have C5 := Lib.hid fun X hX => foolT_bad A n c R X (HCL.out X hX) HNM.out v hv hv0
    clear hv hv0 hzt
    go_enter Try.func4, Try.ntmps4
    go_wp2_with fail
    refine C1.out.mono ?_
    rintro e w1 ⟨rfl, b1⟩
    go_wp2_with fail
    refine (C5.out w1 b1).mono ?_
    rintro e w2 ⟨rfl, b2⟩
    have b2' := b1.trans (b2.mono b1.size)
    clear b2 b1
    go_wp2_with fail
    refine (C2.out w2 b2').mono ?_
    rintro e w3 ⟨⟨_, rfl⟩ | ⟨k0, _⟩, b3⟩
    · have b3' := b2'.trans (b3.mono b2'.size)
      clear b2' b3
      go_wp2_with fail
      refine (C3.out w3 b3').mono ?_
      rintro e w4 ⟨rfl, b4⟩
      have b4' := b3'.trans (b4.mono b3'.size)
      clear b3' b4
      go_wp2_with fail
      refine (C4.out w4 b4').mono ?_
      rintro e w5 ⟨rfl, rfl⟩
      go_wp2_with fail
      go_ret
      exact ⟨rfl, b4'⟩
    · exact absurd k0 HV0.out
end Go.Proofs.Ytnfibchffbdmpaa.talkYao
