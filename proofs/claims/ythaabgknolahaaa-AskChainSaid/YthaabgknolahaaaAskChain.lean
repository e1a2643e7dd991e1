/- AskChain: bits that turn, groups, proofs, questions: each no more than the next. No condition. -/
import Derived.Test.YthaabgknolahaaaAskChainLaw
import Derived.Test.YthaabgknolahaaaAskTurns
import Derived.Test.YthaabgknolahaaaAskGroups
import Derived.Test.YthaabgknolahaaaAskProofs
import Derived.Test.YthaabgknolahaaaAskProof
namespace Go.Proofs.Ythaabgknolahaaa.askChain
open Go.ChangeShapes Go.WideShapes Go.ChangeAt Go.RowKit
set_option linter.unusedVariables false
set_option linter.unusedSimpArgs false
theorem chain_all {n : Nat} (h4 : n ≤ 4) (F : Nat → Bool) {s b no yes d : Nat} (hs : s = mxF (fun x => snF F x n) (2 ^ n)) (hb : b = mxF (fun x => grp F x (2 ^ n - 1)) (2 ^ n)) (hn : no = mxF (noF n F) (2 ^ n)) (hy : yes = mxF (yesF n F) (2 ^ n)) (hd : d = (lst n F 0 0).1) :
    s ≤ b ∧ (b ≤ no ∨ b ≤ yes) ∧ no ≤ d ∧ yes ≤ d ∧ d ≤ n ∧ d ≤ no * yes ∧ no ≤ s * b ∧ yes ≤ s * b ∧ b ≤ 4 ∧ s ≤ 4 := by
  have hp := p16 h4
  have hce : ∀ x, x < 2 ^ n → ∃ K, K < 2 ^ n ∧ smW F (2 ^ n) K x = true ∧ popc K = prf n F x := fun x hx => pf_ex h4 F hx (2 ^ n) (Nat.le_refl _)
  have hmin : ∀ x K, K < 2 ^ n → smW F (2 ^ n) K x = true → prf n F x ≤ popc K := fun x K h1 h2 => pf_min h1 h2
  have hno : ∀ x, x < 2 ^ n → F x = false → prf n F x ≤ no := fun x hx hf => by
    have := mx_ge (g := noF n F) hx
    rw [hn]
    rwa [show noF n F x = prf n F x by unfold noF; rw [hf]; rfl] at this
  have hyes : ∀ x, x < 2 ^ n → F x = true → prf n F x ≤ yes := fun x hx hf => by
    have := mx_ge (g := yesF n F) hx
    rw [hy]
    rwa [show yesF n F x = prf n F x by unfold yesF; rw [hf]; rfl] at this
  have hbn : b ≤ max no yes := by
    rw [hb]
    refine mx_le fun x hx => ?_
    obtain ⟨K, k1, k2, k3⟩ := hce x hx
    have h1 := grp_cert h4 hx k1 k2 16 (2 ^ n - 1) (by omega) (by omega)
    rw [(c_full n (by omega) K (by omega) k1).1, k3] at h1
    cases hf : F x with
    | true => have := hyes x hx hf; show grp F x (2 ^ n - 1) ≤ _; omega
    | false => have := hno x hx hf; show grp F x (2 ^ n - 1) ≤ _; omega
  have hpd : ∀ x, x < 2 ^ n → prf n F x ≤ d := fun x hx => by
    obtain ⟨K, k1, k2, k3⟩ := cert_path h4 F hx 16 0 0 (by omega) (by omega) (by omega) (Nat.and_zero _)
    have := hmin x K k1 k2
    rw [show popc 0 = 0 from rfl] at k3
    omega
  have hps : ∀ x, x < 2 ^ n → prf n F x ≤ s * b := fun x hx => by
    obtain ⟨K, k1, k2, k3⟩ := cert_blocks h4 (F := F) (S := s) hx (fun v hv => by rw [hs]; exact mx_ge (g := fun x => snF F x n) hv) 16 (2 ^ n - 1) (by omega) (by omega)
    rw [(c_full n (by omega) 0 (by omega) (by omega)).2, (c_or K (by omega) 0 (by omega)).2.2.2] at k2
    have h1 := hmin x K k1 k2
    have h2 : grp F x (2 ^ n - 1) ≤ b := by rw [hb]; exact mx_ge (g := fun x => grp F x (2 ^ n - 1)) hx
    have h3 := Nat.mul_le_mul_left s h2
    omega
  have hmul : d ≤ no * yes := by
    rw [hd]
    refine lst_mul h4 F no 0 0 (by omega) (by omega) fun z hz _ => ?_
    obtain ⟨K, k1, k2, k3⟩ := hce z hz
    have hrm := (c_rm K (by omega) 0 (by omega)).2.2.1
    exact ⟨K, k1, k2, fun hf => by rw [hrm, k3]; exact hno z hz hf, fun hf => by rw [hrm, k3]; exact hyes z hz hf⟩
  have hdn := lst_le h4 F (k := 0) (x := 0) (by omega) (by omega)
  rw [← hd, show popc 0 = 0 from rfl] at hdn
  have hsb : s ≤ b := by
    rw [hs]
    refine mx_le fun x hx => ?_
    have h1 := sn_grp (F := F) (x := x) n h4
    have h2 : grp F x (2 ^ n - 1) ≤ b := by rw [hb]; exact mx_ge (g := fun x => grp F x (2 ^ n - 1)) hx
    show snF F x n ≤ b
    omega
  have hnd : no ≤ d := by
    rw [hn]; refine mx_le fun x hx => ?_
    have := hpd x hx
    unfold noF; split <;> omega
  have hyd : yes ≤ d := by
    rw [hy]; refine mx_le fun x hx => ?_
    have := hpd x hx
    unfold yesF; split <;> omega
  refine ⟨hsb, by omega, hnd, hyd, by omega, hmul, ?_, ?_, by omega, by omega⟩
  · rw [hn]; refine mx_le fun x hx => ?_
    have := hps x hx
    unfold noF; split <;> omega
  · rw [hy]; refine mx_le fun x hx => ?_
    have := hps x hx
    unfold yesF; split <;> omega
set_option maxRecDepth 100000 in
set_option maxHeartbeats 4000000 in
theorem walk (w : World) (n : Int) (A : Option Addr) (m c : Nat) (f : Nat → Bool) (wn : (Lit.int .i64 n).wf = true) (h : Rd w A m (fun i => .bool (f i))) (hl : m ≤ c) (hm : c ≤ maxLen) (z : c * 1 ≤ 140737488351232) :
    Calls Try.prog 3 #[.int .i64 n, .slice A m c] w fun e w' => e = .returned (.bool true) ∧ Below w.heap.size w w' := by
  have hmm : m ≤ maxLen := by omega
  by_cases hv : tabE n m 0 = 0
  · obtain ⟨N, rfl, h4, hM2, _⟩ := tabE_zero hv
    have hT : Tb w A N f := by unfold Tb; rw [← hM2]; exact h
    have HLE := Lib.hid (Least_any A N c f w hT h4)
    have HPR := Lib.hid (Proofs_any A N c f w hT h4)
    have HTU := Lib.hid (Turns_any A N c f w hT h4)
    have HGR := Lib.hid (Groups_any A N c f w hT h4)
    have HTB := Lib.hid (fun X => tabled_any ((N : Nat) : Int) A m c X hmm)
    obtain ⟨s, hs⟩ : ∃ s, s = mxF (fun x => snF f x N) (2 ^ N) := ⟨_, rfl⟩
    obtain ⟨b, hb⟩ : ∃ b, b = mxF (fun x => grp f x (2 ^ N - 1)) (2 ^ N) := ⟨_, rfl⟩
    obtain ⟨no, hno⟩ : ∃ b, b = mxF (noF N f) (2 ^ N) := ⟨_, rfl⟩
    obtain ⟨yes, hyes⟩ : ∃ b, b = mxF (yesF N f) (2 ^ N) := ⟨_, rfl⟩
    obtain ⟨d, hd⟩ : ∃ b, b = (lst N f 0 0).1 := ⟨_, rfl⟩
    obtain ⟨g1, g2, g3, g4, g5, g6, g7, g8, g9, g10⟩ := chain_all h4 f hs hb hno hyes hd
    rw [← hs] at HTU
    rw [← hb] at HGR
    rw [← hno, ← hyes] at HPR
    rw [← hd] at HLE
    rw [hv] at HTB
    rw [← hM2] at HLE HPR HTU HGR
    obtain ⟨p, hp⟩ : ∃ p, p = no * yes := ⟨_, rfl⟩
    obtain ⟨q, hq⟩ : ∃ q, q = s * b := ⟨_, rfl⟩
    have hpm : ((no : Nat) : Int) * ((yes : Nat) : Int) = (p : Int) := by rw [hp]; simp
    have hqm : ((s : Nat) : Int) * ((b : Nat) : Int) = (q : Int) := by rw [hq]; simp
    have hp16 : p ≤ 16 := by rw [hp]; exact Nat.mul_le_mul (show no ≤ 4 by omega) (show yes ≤ 4 by omega)
    have hq16 : q ≤ 16 := by rw [hq]; exact Nat.mul_le_mul (show s ≤ 4 by omega) (show b ≤ 4 by omega)
    rw [← hp] at g6
    rw [← hq] at g7 g8
    clear h hT hv z wn hs hb hno hyes hd hM2 hp hq
    go_enter Try.func3, Try.ntmps3
    go_wp2_with fail
    refine HLE.out.mono ?_
    rintro e w1 ⟨rfl, rfl⟩
    go_wp2_with fail
    refine HPR.out.mono ?_
    rintro e w1 ⟨rfl, rfl⟩
    go_wp2_with fail
    refine HTU.out.mono ?_
    rintro e w1 ⟨rfl, rfl⟩
    go_wp2_with fail
    refine HGR.out.mono ?_
    rintro e w1 ⟨rfl, k1, rfl⟩
    go_wp2_with fail
    refine (HTB.out _).mono ?_
    rintro e w1 ⟨rfl, hb1⟩
    rw [show zeroB 0 = true from rfl]
    have HB1 : Hid (Below w.heap.size w w1) := Lib.hid ((below_drewN (Below.refl _ w) k1).trans hb1)
    clear hb1
    by_cases hny : no < yes
    · go_wp2_with fail
      go_ret
      exact ⟨rfl, HB1.out⟩
    · go_wp2_with fail
      go_ret
      exact ⟨rfl, HB1.out⟩
  · have HTB := Lib.hid (fun X => tabled_any n A m c X hmm)
    have HLE := Lib.hid (fun X => Least_bad A n m c X hmm hv)
    have HPR := Lib.hid (fun X => Proofs_bad A n m c X hmm hv)
    have HTU := Lib.hid (fun X => Turns_bad A n m c X hmm hv)
    have HGR := Lib.hid (fun X => Groups_bad A n m c X hmm hv)
    obtain ⟨v, hvv⟩ : ∃ v, v = tabE n m 0 := ⟨_, rfl⟩
    rw [← hvv] at HTB HLE HPR HTU HGR hv
    have qv : (v != 0) = true := by rw [bne_iff_ne]; exact hv
    have qz : zeroB v = false := by unfold zeroB; rw [beq_eq_false_iff_ne]; exact hv
    rw [qz] at HTB
    clear h z hvv hv qz wn
    go_enter Try.func3, Try.ntmps3
    go_wp2_with fail
    refine (HLE.out w).mono ?_
    rintro e w2 ⟨rfl, rfl⟩
    go_wp2_with fail
    refine (HPR.out w).mono ?_
    rintro e w2 ⟨rfl, rfl⟩
    go_wp2_with fail
    refine (HTU.out w).mono ?_
    rintro e w2 ⟨rfl, rfl⟩
    go_wp2_with fail
    refine (HGR.out w).mono ?_
    rintro e w2 ⟨rfl, rfl⟩
    go_wp2_with fail
    refine (HTB.out w).mono ?_
    rintro e w2 ⟨rfl, hb2⟩
    have HB2 := Lib.hid hb2
    clear hb2
    go_wp2_with fail
    go_ret
    exact ⟨rfl, HB2.out⟩
end Go.Proofs.Ythaabgknolahaaa.askChain
