/- AskDegree: a table's degree, bits that turn, groups and questions. No condition. -/
import Derived.Test.YthaabgknolahaaaAskDegLaw
import Derived.Test.YthaabgknolahaaaAskTurns
import Derived.Test.YthaabgknolahaaaAskGroups
import Derived.Test.YthaabgknolahaaaAskProof
namespace Go.Proofs.Ythaabgknolahaaa.askDegree
open Go.ChangeShapes Go.WideShapes Go.ChangeAt Go.RowKit
set_option linter.unusedVariables false
set_option linter.unusedSimpArgs false
set_option maxRecDepth 100000 in
set_option maxHeartbeats 4000000 in
theorem walk (w : World) (n : Int) (A : Option Addr) (m c : Nat) (f : Nat → Bool) (wn : (Lit.int .i64 n).wf = true) (h : Rd w A m (fun i => .bool (f i))) (hl : m ≤ c) (hm : c ≤ maxLen) (z : c * 1 ≤ 140737488351232) :
    Calls Try.prog 4 #[.int .i64 n, .slice A m c] w fun e w' => e = .returned (.bool true) ∧ Below w.heap.size w w' := by
  have hmm : m ≤ maxLen := by omega
  by_cases hv : tabE n m 0 = 0
  · obtain ⟨N, rfl, h4, hM2, _⟩ := tabE_zero hv
    have hT : Tb w A N f := by unfold Tb; rw [← hM2]; exact h
    have HDE := Lib.hid (Degree_any A N c f w hT h4)
    have HLE := Lib.hid (fun X (hX : Below w.heap.size w X) => Least_any A N c f X (hT.below hX) h4)
    have HTU := Lib.hid (fun X (hX : Below w.heap.size w X) => Turns_any A N c f X (hT.below hX) h4)
    have HGR := Lib.hid (fun X (hX : Below w.heap.size w X) => Groups_any A N c f X (hT.below hX) h4)
    have HTB := Lib.hid (fun X => tabled_any ((N : Nat) : Int) A m c X hmm)
    obtain ⟨s, hs⟩ : ∃ s, s = mxF (fun x => snF f x N) (2 ^ N) := ⟨_, rfl⟩
    obtain ⟨b, hb⟩ : ∃ b, b = mxF (fun x => grp f x (2 ^ N - 1)) (2 ^ N) := ⟨_, rfl⟩
    obtain ⟨k, hk⟩ : ∃ b, b = mxF (dgF N f) (2 ^ N) := ⟨_, rfl⟩
    obtain ⟨d, hd⟩ : ∃ b, b = (lst N f 0 0).1 := ⟨_, rfl⟩
    obtain ⟨g1, g2, g3, g4, g5, g6, g7, g8⟩ := deg_all h4 f hs hb hk hd
    rw [← hs] at HTU
    rw [← hb] at HGR
    rw [← hk] at HDE
    rw [← hd] at HLE
    rw [hv] at HTB
    rw [← hM2] at HDE HLE HTU HGR
    obtain ⟨q1, hq1⟩ : ∃ p, p = s * s := ⟨_, rfl⟩
    obtain ⟨q2, hq2⟩ : ∃ p, p = k * k := ⟨_, rfl⟩
    obtain ⟨q3, hq3⟩ : ∃ p, p = k * k * k := ⟨_, rfl⟩
    have m1 : ((s : Nat) : Int) * ((s : Nat) : Int) = (q1 : Int) := by rw [hq1]; simp
    have m2 : ((k : Nat) : Int) * ((k : Nat) : Int) = (q2 : Int) := by rw [hq2]; simp
    have m3 : ((q2 : Nat) : Int) * ((k : Nat) : Int) = (q3 : Int) := by rw [hq3, hq2]; simp
    have m4 : 2 * ((k : Nat) : Int) * ((k : Nat) : Int) = 2 * (q2 : Int) := by rw [Int.mul_assoc, m2]
    have b1 : q1 ≤ 16 := by rw [hq1]; exact Nat.mul_le_mul g5 g5
    have b2 : q2 ≤ 16 := by rw [hq2]; exact Nat.mul_le_mul g7 g7
    have b3 : q3 ≤ 64 := by rw [hq3, ← hq2]; exact Nat.mul_le_mul b2 g7
    rw [← hq1] at g2
    rw [← hq2] at g3
    rw [← hq3] at g4
    clear h hT hv z wn hs hb hk hd hM2 hq1 hq2 hq3
    go_enter Try.func4, Try.ntmps4
    go_wp2_with fail
    refine HDE.out.mono ?_
    rintro e w1 ⟨rfl, hb1⟩
    have HB1 := Lib.hid hb1
    clear hb1
    go_wp2_with fail
    refine (HLE.out w1 HB1.out).mono ?_
    rintro e w2 ⟨rfl, rfl⟩
    go_wp2_with fail
    refine (HTU.out w1 HB1.out).mono ?_
    rintro e w2 ⟨rfl, rfl⟩
    go_wp2_with fail
    refine (HGR.out w1 HB1.out).mono ?_
    rintro e w2 ⟨rfl, k1, rfl⟩
    go_wp2_with fail
    refine (HTB.out _).mono ?_
    rintro e w2 ⟨rfl, hb2⟩
    rw [show zeroB 0 = true from rfl]
    have HB2 : Hid (Below w.heap.size w w2) := Lib.hid ((below_drewN HB1.out k1).trans (hb2.mono HB1.out.size))
    clear hb2
    go_wp2_with fail
    go_ret
    exact ⟨ret_bool (decide_eq_true (by omega)), HB2.out⟩
  · have HTB := Lib.hid (fun X => tabled_any n A m c X hmm)
    have HDE := Lib.hid (fun X => Degree_bad A n m c X hmm hv)
    have HLE := Lib.hid (fun X => Least_bad A n m c X hmm hv)
    have HTU := Lib.hid (fun X => Turns_bad A n m c X hmm hv)
    have HGR := Lib.hid (fun X => Groups_bad A n m c X hmm hv)
    obtain ⟨v, hvv⟩ : ∃ v, v = tabE n m 0 := ⟨_, rfl⟩
    rw [← hvv] at HTB HDE HLE HTU HGR hv
    have qv : (v != 0) = true := by rw [bne_iff_ne]; exact hv
    have qz : zeroB v = false := by unfold zeroB; rw [beq_eq_false_iff_ne]; exact hv
    rw [qz] at HTB
    clear h z hvv hv qz wn
    go_enter Try.func4, Try.ntmps4
    go_wp2_with fail
    refine (HDE.out w).mono ?_
    rintro e w2 ⟨rfl, rfl⟩
    go_wp2_with fail
    refine (HLE.out w).mono ?_
    rintro e w2 ⟨rfl, rfl⟩
    go_wp2_with fail
    refine (HTU.out w).mono ?_
    rintro e w2 ⟨rfl, rfl⟩
    go_wp2_with fail
    refine (HGR.out w).mono ?_
    rintro e w2 ⟨rfl, rfl⟩
    go_wp2_with fail
    refine (HTB.out w).mono ?_
    rintro e w2 ⟨rfl, hb2⟩
    have HB2 := Lib.hid hb2
    clear hb2
    go_wp2_with fail
    go_ret
    exact ⟨rfl, HB2.out⟩
end Go.Proofs.Ythaabgknolahaaa.askDegree
