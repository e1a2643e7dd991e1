/- What proof.fold computes, and where its slice lies. Conditions: as the theorem states. -/
import Derived.Test.YthcednankgaogaaProofFold
namespace Go.Proofs.Ythcednankgaogaa
open ProofM Go.ChangeShapes Go.WideShapes Go.ChangeAt Go.RowKit
set_option linter.unusedVariables false
set_option maxRecDepth 100000 in
theorem fold_at (N : Nat) (A B : Option Addr) (m c a d : Nat) (f t : Nat → Int) (w : World) (h : Rd w A m (fun i => .int .i64 (f i))) (g : Rd w B a (fun i => .int .i64 (t i))) (hN : N ≤ 4) (hm : m = 2 ^ N) (ha : a ≤ N)
    (hf : ∀ i, i < m → 0 ≤ f i ∧ f i ≤ 6) (ht : ∀ i, i < a → 0 ≤ t i ∧ t i ≤ 6) :
    Calls Try.prog 20 #[.slice A m c, .slice B a d] w fun e w' => ∃ A' c', e = .returned (.slice A' (2 ^ (N - a)) c') ∧ Rd w' A' (2 ^ (N - a)) (fun i => .int .i64 (FD f t a i)) ∧ (A' = A ∨ ∀ b off, A' = some ⟨b, off, none⟩ → w.heap.size ≤ b) ∧ Below w.heap.size w w' := by
  have hp := pow_bd hN
  have hm16 : m ≤ 16 := by omega
  have HM := Lib.hid hm
  have HF := Lib.hid hf
  have HT := Lib.hid ht
  have G := Lib.hid g
  have hz : m = 2 ^ (N - 0) := by rw [Nat.sub_zero]; exact hm
  have HZ := Lib.hid hz
  clear hm hf ht hp g hz
  go_enter Try.func20, Try.ntmps20
  go_wp2_with fail
  go_loopw [0, 11] (fun v i wr => ∃ (j L : Nat) (A' : Option Addr) (c' : Nat), j ≤ a ∧ i = .int .i64 j ∧ L = 2 ^ (N - j) ∧ v = .slice A' L c' ∧ Rd wr A' L (fun i => .int .i64 (FD f t j i)) ∧ (A' = A ∨ ∀ b off, A' = some ⟨b, off, none⟩ → w.heap.size ≤ b) ∧ Below w.heap.size w wr) (fun _ i _ => a - (intOf i).toNat)
  case atStart => exact ⟨0, m, A, c, Nat.zero_le _, rfl, HZ.out, rfl, h, .inl rfl, Below.refl _ _⟩
  case round =>
    obtain ⟨wo, rfl⟩ : ∃ wo : World, wo = wr := ⟨_, rfl⟩
    obtain ⟨j, L, A', c', hj, rfl, hL, rfl, hrd, hfar, hbel⟩ := hrel
    have HFAR := Lib.hid hfar
    clear hfar
    have HRD := Lib.hid hrd
    clear h hrd
    by_cases hlt : j < a
    · obtain ⟨b, off, rfl, _, hc⟩ := (G.out.below hbel).at_ hlt
      have hx := HT.out j hlt
      have hH : L = 2 * 2 ^ (N - (j + 1)) := by rw [hL, show N - j = (N - (j + 1)) + 1 by omega, Nat.pow_succ]; omega
      obtain ⟨H, hH2⟩ : ∃ H, H = 2 ^ (N - (j + 1)) := ⟨_, rfl⟩
      rw [← hH2] at hH
      have hH16 : H ≤ 16 := by have := pow_bd (N := N - (j + 1)) (by omega); omega
      have hbd : ∀ i, i < L → 0 ≤ FD f t j i ∧ FD f t j i ≤ 6 := fun i hi => FD_bd HF.out j i (by
        have e : m = 2 ^ (N - j) * 2 ^ j := by rw [HM.out, ← Nat.pow_add]; congr 1; omega
        rw [e, ← hL]; exact Nat.mul_le_mul_right _ hi)
      obtain ⟨x, hxx⟩ : ∃ x, x = t j := ⟨_, rfl⟩
      rw [← hxx] at hx hc
      have HX := Lib.hid hxx
      have HB := Lib.hid hbd
      have HH2 := Lib.hid hH2
      clear hL hH2 hbd hxx
      go_wp2_with fail
      go_loopw [7, 8] (fun v i wr => ∃ (k : Nat) (A2 : Option Addr) (c2 : Nat), k ≤ H ∧ i = .int .i64 (2 * k : Nat) ∧ v = .slice A2 k c2 ∧ Own wr wo.heap.size 3 1 A2 k c2 k (fun i => .int .i64 (FD f t (j + 1) i)) ∧ Below wo.heap.size wo wr) (fun _ i _ => L - (intOf i).toNat)
      case atStart => exact ⟨0, none, 0, Nat.zero_le _, rfl, rfl, Own.nil _ _ _ _ _, Below.refl _ _⟩
      case round =>
        obtain ⟨k, A2, c2, hk, rfl, rfl, hown, hbel'⟩ := hrel
        by_cases hlk : k < H
        · obtain ⟨b1, o1, rfl, _, cc1⟩ := (HRD.out.below hbel').at_ (show 2 * k < L by omega)
          obtain ⟨b2, o2, e2, _, cc2⟩ := (HRD.out.below hbel').at_ (show 2 * k + 1 < L by omega)
          injection e2 with e2
          injection e2 with eb eo
          subst eb; subst eo
          have p1 := HB.out (2 * k) (by omega)
          have p2 := HB.out (2 * k + 1) (by omega)
          have hfd : FD f t (j + 1) k = LN (FD f t j (2 * k)) (FD f t j (2 * k + 1)) x := by rw [HX.out]; rfl
          obtain ⟨P, hP⟩ : ∃ P, P = FD f t j (2 * k) := ⟨_, rfl⟩
          obtain ⟨Q, hQ⟩ : ∃ Q, Q = FD f t j (2 * k + 1) := ⟨_, rfl⟩
          obtain ⟨K, hK⟩ : ∃ K, K = 2 * k := ⟨_, rfl⟩
          rw [← hP, ← hQ] at hfd
          rw [← hP] at cc1 p1
          rw [← hQ] at cc2 p2
          rw [← hK] at cc1 cc2 ⊢
          have hKL : K + 1 < L := by omega
          have hL32 : L ≤ 32 := by omega
          have ew : IntKind.i64.wrap ((K : Int) + 1) = K + 1 := IntWalk.i64_in _ (by omega)
          have ez : (0 : Int) ≤ K + 1 := by omega
          have el : (K : Int) + 1 < L := by omega
          have HHL := Lib.hid hH
          have HFD := Lib.hid hfd
          have sz := hbel'.size
          have HBL := Lib.hid hbel'
          have HK := Lib.hid hK
          clear hfd hP hQ hK hbel' hH
          go_wp2_with fail
          go_region_law (first
            | (refine step_app _ rfl (.tmp 21) (.tmp 34) 22 rfl EI rfl ((Own.below (hown.drewN _) hbl).alloc _) rfl (l := 1) (by omega) (Rd.one _ _ _) (fun _ _ => rfl) (by unfold maxLen; omega) (by omega) (by have := hbl.size; simp at this ⊢; omega) (k + 1) (k + 1) rfl rfl ?_; intro A3 c3 w3 hown3 hg3 hat3 hbl3)
            | (go_simp; go_at_call 26; refine (line_any P Q x _ p1 p2 hx).mono ?_; rintro e w' ⟨rfl, hbl⟩))
          all_goals go_wp2_with fail
          all_goals have hb0 := first_below HBL.out hbl (by simp; omega)
          all_goals have hb1 : Below wo.heap.size wo w3 := (hb0.alloc hb0.size _).trans hbl3
          all_goals go_roundw
          all_goals first
            | (case rel => exact ⟨k + 1, A3, c3, by omega, by rw [HK.out]; go_num, rfl, hown3.congr (fun i hi => by
                by_cases hik : i < k
                · rw [cat_lt hik]
                · obtain rfl : i = k := by omega
                  rw [cat_ge (by omega), HFD.out]), hb1⟩)
            | (case measure => simp [intOf]; omega)
        · obtain rfl : k = H := by omega
          have hrd2 := hown.rd
          have hfar2 : ∀ b off, A2 = some ⟨b, off, none⟩ → w.heap.size ≤ b := fun b off e => by
            have h1 := (hown.lt b (by rw [e]; rfl)).1
            have h2 := hbel.size
            omega
          have HFAR2 := Lib.hid hfar2
          clear hfar2
          clear hown
          have hd : ¬ 2 * k < L := by omega
          go_wp2_with fail
          go_roundw
          case rel => exact ⟨j + 1, k, A2, c2, by omega, by go_num, HH2.out, rfl, hrd2, .inr HFAR2.out, hbel.trans (hbel'.mono hbel.size)⟩
          case measure => simp [intOf]; omega
    · obtain rfl : j = a := by omega
      subst hL
      go_wp2_with fail
      go_ret
      exact ⟨_, _, rfl, HRD.out, HFAR.out, hbel⟩
end Go.Proofs.Ythcednankgaogaa
