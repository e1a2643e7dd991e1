/- AskWalk: by the questions it is known what is said, with no more bits than must be asked for, and no fewer than prove it. No condition. -/
import Derived.Test.YthaabgknolahaaaAskTree
import Derived.Test.YthaabgknolahaaaAskGo
import Derived.Test.YthaabgknolahaaaAskProof
namespace Go.Proofs.Ythaabgknolahaaa.askWalk
open Go.ChangeShapes Go.WideShapes Go.ChangeAt Go.RowKit
set_option linter.unusedVariables false
set_option linter.unusedSimpArgs false
set_option maxRecDepth 100000 in
set_option maxHeartbeats 4000000 in
theorem walk (w : World) (n : Int) (A : Option Addr) (m c : Nat) (f : Nat → Bool) (ai : Int) (wn : (Lit.int .i64 n).wf = true) (h : Rd w A m (fun i => .bool (f i))) (hl : m ≤ c) (hm : c ≤ maxLen) (z : c * 1 ≤ 140737488351232) (wi : (Lit.int .u8 ai).wf = true) :
    Calls Try.prog 5 #[.int .i64 n, .slice A m c, .int .u8 ai] w fun e w' => e = .returned (.bool true) ∧ Below w.heap.size w w' := by
  have hai : 0 ≤ ai ∧ ai ≤ 255 := by simp [Lit.wf, IntKind.min, IntKind.max, IntKind.signed, IntKind.bits] at wi; omega
  have hnb : -9223372036854775808 ≤ n ∧ n ≤ 9223372036854775807 := by simp [Lit.wf, IntKind.min, IntKind.max, IntKind.signed, IntKind.bits] at wn; omega
  have hmm : m ≤ maxLen := by omega
  have hm63 : (m : Int) ≤ 9223372036854775807 := by unfold maxLen at hmm; omega
  by_cases hv : tabE n m 0 = 0
  · obtain ⟨N, rfl, h4, rfl, _⟩ := tabE_zero hv
    have HT0 := Lib.hid (tabled_any ((N : Nat) : Int) A (2 ^ N) c w hmm)
    have hT : Tb w A N f := h
    by_cases hn0 : N = 0
    · subst hn0
      have HTZ := Lib.hid (Tree_zero A c w)
      have HLE : ∀ X, Below w.heap.size w X → Calls Try.prog 6 #[.int .i64 0, .slice A 1 c] X fun e w' => e = .returned (.tuple #[.int .i64 0, .int .i64 0]) ∧ X = w' := fun X hX => by
        have := Least_any A 0 c f X (hT.below hX) (by omega)
        have e : lst 0 f 0 0 = (0, -1) := lst_same (smW_iff.2 fun y hy _ => by
          have : y < 1 := hy
          rw [show y = 0 by omega])
        rw [e] at this
        exact this
      have HLE2 := Lib.hid HLE
      have HTB := Lib.hid (fun X (hX : Below w.heap.size w X) => tabled_any 0 A 1 c X (by decide))
      clear HLE h hT hv z HT0 wn wi
      show Calls Try.prog 5 #[.int .i64 0, .slice A 1 c, .int .u8 ai] w _
      go_enter Try.func5, Try.ntmps5
      go_wp2_with fail
      refine HTZ.out.mono ?_
      rintro e w1 ⟨rfl, hb1⟩
      have HB1 := Lib.hid hb1
      clear hb1
      go_wp2_with fail
      refine (HLE2.out w1 HB1.out).mono ?_
      rintro e w2 ⟨rfl, rfl⟩
      go_wp2_with fail
      refine (HTB.out w1 HB1.out).mono ?_
      rintro e w2 ⟨rfl, hb2⟩
      rw [show tabE 0 1 0 = 0 from rfl, show zeroB 0 = true from rfl]
      have HB2 := Lib.hid (HB1.out.trans (hb2.mono HB1.out.size))
      clear hb2
      go_wp2_with fail
      go_ret
      exact ⟨rfl, HB2.out⟩
    · have hp := p16 h4
      obtain ⟨M, hM2⟩ : ∃ M, M = 2 ^ N := ⟨_, rfl⟩
      rw [← hM2] at hp hl hmm hm63 h
      have hT' : Tb w A N f := hT
      obtain ⟨x, hxe⟩ : ∃ x : Nat, ai % (M : Int) = (x : Int) := ⟨(ai % (M : Int)).toNat, by have := Int.emod_nonneg ai (show (M : Int) ≠ 0 by omega); omega⟩
      have hxM : x < M := by have := Int.emod_lt_of_pos ai (show (0 : Int) < (M : Int) by omega); omega
      have hx : x < 2 ^ N := by rw [← hM2]; exact hxM
      have HTR := Lib.hid (Tree_any A N c f w hT h4 (by omega))
      have HLE := Lib.hid (fun X (hX : Below w.heap.size w X) => Least_any A N c f X (hT.below hX) h4)
      have HTB := Lib.hid (fun X (hX : Below w.heap.size w X) => tabled_any ((N : Nat) : Int) A (2 ^ N) c X (by rw [← hM2]; exact hmm))
      have HPR := Lib.hid (fun X (hX : Below w.heap.size w X) => Proof_any A N c x f X (hT.below hX) h4 hx)
      obtain ⟨b, o, rfl, hb, _⟩ := h.at_ hxM
      have hcl2 : ∀ X : World, Below w.heap.size w X → X.cell? ⟨b, o + x, none⟩ = some (.bool (f x)) := fun X hX => by
        obtain ⟨b', o', e, _, hc⟩ := (h.below hX).at_ hxM
        cases e; exact hc
      have HCL := Lib.hid hcl2
      have HXE := Lib.hid hxe
      have HZ := Lib.hid hv
      have HM2 := Lib.hid hM2
      rw [← hM2] at HTR HLE HTB HPR HZ
      obtain ⟨D, hD⟩ : ∃ D, D = lst N f 0 0 := ⟨_, rfl⟩
      have hD4 := lst_le h4 f (k := 0) (x := 0) (by omega) (by omega)
      rw [← hD] at hD4
      have HD := Lib.hid hD
      obtain ⟨dl, hdl⟩ : ∃ dl, dl = D.1 := ⟨_, rfl⟩
      rw [← hdl] at hD4
      have HDL := Lib.hid hdl
      have qn0 : (((N : Nat) : Int) == 0) = false := by rw [beq_eq_false_iff_ne]; omega
      have HX := Lib.hid hx
      rw [← hM2]
      clear hcl2 h hT hT' hv z HT0 wn wi hxe hD hdl hM2 hx
      go_enter Try.func5, Try.ntmps5
      go_wp2_with fail
      refine HTR.out.mono ?_
      rintro e w1 ⟨⟨j, A', c', T, d, rfl, hrd, j1, j16, hval, htr, hdd⟩, hb1⟩
      have HB1 := Lib.hid hb1
      have HRD := Lib.hid hrd
      have HVAL := Lib.hid hval
      have HTREE := Lib.hid htr
      have HDD := Lib.hid hdd
      clear hb1 hrd hval htr hdd
      go_wp2_with fail
      refine (HLE.out w1 HB1.out).mono ?_
      rintro e w2 ⟨rfl, rfl⟩
      rw [← HD.out, ← HDL.out]
      go_wp2_with fail
      refine (HTB.out w1 HB1.out).mono ?_
      rintro e w2 ⟨rfl, hb2⟩
      rw [HZ.out, show zeroB 0 = true from rfl]
      have HRD2 := Lib.hid (HRD.out.below hb2)
      have HB2 := Lib.hid (HB1.out.trans (hb2.mono HB1.out.size))
      clear hb2
      go_wp2_with fail
      rw [HXE.out]
      refine (walk_any A' j c' N x d T f w2 HRD2.out ⟨j1, j16⟩ h4 (by omega) HX.out HVAL.out HTREE.out).mono ?_
      rintro e w3 ⟨⟨k, rfl, hkd, hk1, K, hK, hsm, hpk⟩, hb3⟩
      have HB3 := Lib.hid (HB2.out.trans (hb3.mono HB2.out.size))
      have hfin : k ≤ dl ∨ k = 1 := by
        rcases HDD.out with h | h
        · left; rw [HDL.out, HD.out]; omega
        · right; omega
      have HSM := Lib.hid hsm
      have HPK := Lib.hid hpk
      have hk4 : k ≤ 4 := by rw [← hpk]; have := popc_le N (by omega) K (by have := HM2.out; omega) hK; omega
      have HK := Lib.hid hK
      clear hb3 hsm hpk hK
      go_wp2_with fail
      refine (HPR.out w3 HB3.out).mono ?_
      rintro e w4 ⟨⟨p, rfl, hpn, hpp⟩, rfl⟩
      have hpk2 := hpp K HK.out HSM.out
      rw [HPK.out] at hpk2
      have hcx := HCL.out w3 HB3.out
      have HHD := Lib.hid hkd
      clear hpp hkd
      rcases hf : f x with _ | _
      · rw [hf] at hcx
        clear hf
        rcases hfin with hfin | rfl
        · go_wp2_with fail
          go_ret
          exact ⟨rfl, HB3.out⟩
        · by_cases hd1 : 1 ≤ dl
          · go_wp2_with fail
            go_ret
            exact ⟨ret_bool (decide_eq_true (by omega)), HB3.out⟩
          · go_wp2_with fail
            go_ret
            exact ⟨ret_bool (decide_eq_true (by omega)), HB3.out⟩
      · rw [hf] at hcx
        clear hf
        rcases hfin with hfin | rfl
        · go_wp2_with fail
          go_ret
          exact ⟨rfl, HB3.out⟩
        · by_cases hd1 : 1 ≤ dl
          · go_wp2_with fail
            go_ret
            exact ⟨ret_bool (decide_eq_true (by omega)), HB3.out⟩
          · go_wp2_with fail
            go_ret
            exact ⟨ret_bool (decide_eq_true (by omega)), HB3.out⟩
  · have HTB := Lib.hid (fun X (hX : Below w.heap.size w X) => tabled_any n A m c X hmm)
    have HTZ := Lib.hid (Tree_bad A n m c w hmm hv)
    have HLE := Lib.hid (fun X => Least_bad A n m c X hmm hv)
    obtain ⟨v, hvv⟩ : ∃ v, v = tabE n m 0 := ⟨_, rfl⟩
    rw [← hvv] at HTB HTZ HLE hv
    have qv : (v != 0) = true := by rw [bne_iff_ne]; exact hv
    have qz : zeroB v = false := by unfold zeroB; rw [beq_eq_false_iff_ne]; exact hv
    rw [qz] at HTB
    clear h z hvv hv qz wn wi
    go_enter Try.func5, Try.ntmps5
    go_wp2_with fail
    refine HTZ.out.mono ?_
    rintro e w1 ⟨rfl, rfl⟩
    go_wp2_with fail
    refine (HLE.out w).mono ?_
    rintro e w2 ⟨rfl, rfl⟩
    go_wp2_with fail
    refine (HTB.out w (Below.refl _ _)).mono ?_
    rintro e w2 ⟨rfl, hb2⟩
    have HB2 := Lib.hid hb2
    clear hb2
    go_wp2_with fail
    go_ret
    exact ⟨rfl, HB2.out⟩
end Go.Proofs.Ythaabgknolahaaa.askWalk
