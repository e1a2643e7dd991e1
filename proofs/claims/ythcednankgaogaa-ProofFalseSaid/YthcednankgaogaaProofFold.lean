/- What proof.fold and proof.Value compute, and the references' Dice for the number 2. Conditions: as each theorem states. -/
import Derived.Test.YthcednankgaogaaProofFns
namespace Go.Proofs.Ythcednankgaogaa
open ProofM Go.ChangeShapes Go.WideShapes Go.ChangeAt Go.RowKit
set_option linter.unusedVariables false
theorem first_below {B k : Nat} {a w w' : World} (h : Below B a w) (hb : Below (w.drewN k).heap.size (w.drewN k) w') (hle : B ≤ (w.drewN k).heap.size) : Below B a w' := (below_drewN h k).trans (hb.mono hle)
set_option maxRecDepth 100000 in
theorem fold_any (N : Nat) (A B : Option Addr) (m c a d : Nat) (f t : Nat → Int) (w : World) (h : Rd w A m (fun i => .int .i64 (f i))) (g : Rd w B a (fun i => .int .i64 (t i))) (hN : N ≤ 4) (hm : m = 2 ^ N) (ha : a ≤ N)
    (hf : ∀ i, i < m → 0 ≤ f i ∧ f i ≤ 6) (ht : ∀ i, i < a → 0 ≤ t i ∧ t i ≤ 6) :
    Calls Try.prog 20 #[.slice A m c, .slice B a d] w fun e w' => ∃ A' c', e = .returned (.slice A' (2 ^ (N - a)) c') ∧ Rd w' A' (2 ^ (N - a)) (fun i => .int .i64 (FD f t a i)) ∧ Below w.heap.size w w' := by
  have hp := pow_bd hN
  have hm16 : m ≤ 16 := by omega
  have HM := Lib.hid hm
  have HF := Lib.hid hf
  have HT := Lib.hid ht
  have G := Lib.hid g
  have hz : m = 2 ^ (N - 0) := by rw [Nat.sub_zero]; exact hm
  have HZ := Lib.hid hz
  clear hm hf ht hp g hz
  go_enter Try.func20, Try.ntmps20
  go_wp2_with fail
  go_loopw [0, 11] (fun v i wr => ∃ (j L : Nat) (A' : Option Addr) (c' : Nat), j ≤ a ∧ i = .int .i64 j ∧ L = 2 ^ (N - j) ∧ v = .slice A' L c' ∧ Rd wr A' L (fun i => .int .i64 (FD f t j i)) ∧ Below w.heap.size w wr) (fun _ i _ => a - (intOf i).toNat)
  case atStart => exact ⟨0, m, A, c, Nat.zero_le _, rfl, HZ.out, rfl, h, Below.refl _ _⟩
  case round =>
    obtain ⟨wo, rfl⟩ : ∃ wo : World, wo = wr := ⟨_, rfl⟩
    obtain ⟨j, L, A', c', hj, rfl, hL, rfl, hrd, hbel⟩ := hrel
    have HRD := Lib.hid hrd
    clear h hrd
    by_cases hlt : j < a
    · obtain ⟨b, off, rfl, _, hc⟩ := (G.out.below hbel).at_ hlt
      have hx := HT.out j hlt
      have hH : L = 2 * 2 ^ (N - (j + 1)) := by rw [hL, show N - j = (N - (j + 1)) + 1 by omega, Nat.pow_succ]; omega
      obtain ⟨H, hH2⟩ : ∃ H, H = 2 ^ (N - (j + 1)) := ⟨_, rfl⟩
      rw [← hH2] at hH
      have hH16 : H ≤ 16 := by have := pow_bd (N := N - (j + 1)) (by omega); omega
      have hbd : ∀ i, i < L → 0 ≤ FD f t j i ∧ FD f t j i ≤ 6 := fun i hi => FD_bd HF.out j i (by
        have e : m = 2 ^ (N - j) * 2 ^ j := by rw [HM.out, ← Nat.pow_add]; congr 1; omega
        rw [e, ← hL]; exact Nat.mul_le_mul_right _ hi)
      obtain ⟨x, hxx⟩ : ∃ x, x = t j := ⟨_, rfl⟩
      rw [← hxx] at hx hc
      have HX := Lib.hid hxx
      have HB := Lib.hid hbd
      have HH2 := Lib.hid hH2
      clear hL hH2 hbd hxx
      go_wp2_with fail
      go_loopw [7, 8] (fun v i wr => ∃ (k : Nat) (A2 : Option Addr) (c2 : Nat), k ≤ H ∧ i = .int .i64 (2 * k : Nat) ∧ v = .slice A2 k c2 ∧ Own wr wo.heap.size 3 1 A2 k c2 k (fun i => .int .i64 (FD f t (j + 1) i)) ∧ Below wo.heap.size wo wr) (fun _ i _ => L - (intOf i).toNat)
      case atStart => exact ⟨0, none, 0, Nat.zero_le _, rfl, rfl, Own.nil _ _ _ _ _, Below.refl _ _⟩
      case round =>
        obtain ⟨k, A2, c2, hk, rfl, rfl, hown, hbel'⟩ := hrel
        by_cases hlk : k < H
        · obtain ⟨b1, o1, rfl, _, cc1⟩ := (HRD.out.below hbel').at_ (show 2 * k < L by omega)
          obtain ⟨b2, o2, e2, _, cc2⟩ := (HRD.out.below hbel').at_ (show 2 * k + 1 < L by omega)
          injection e2 with e2
          injection e2 with eb eo
          subst eb; subst eo
          have p1 := HB.out (2 * k) (by omega)
          have p2 := HB.out (2 * k + 1) (by omega)
          have hfd : FD f t (j + 1) k = LN (FD f t j (2 * k)) (FD f t j (2 * k + 1)) x := by rw [HX.out]; rfl
          obtain ⟨P, hP⟩ : ∃ P, P = FD f t j (2 * k) := ⟨_, rfl⟩
          obtain ⟨Q, hQ⟩ : ∃ Q, Q = FD f t j (2 * k + 1) := ⟨_, rfl⟩
          obtain ⟨K, hK⟩ : ∃ K, K = 2 * k := ⟨_, rfl⟩
          rw [← hP, ← hQ] at hfd
          rw [← hP] at cc1 p1
          rw [← hQ] at cc2 p2
          rw [← hK] at cc1 cc2 ⊢
          have hKL : K + 1 < L := by omega
          have hL32 : L ≤ 32 := by omega
          have ew : IntKind.i64.wrap ((K : Int) + 1) = K + 1 := IntWalk.i64_in _ (by omega)
          have ez : (0 : Int) ≤ K + 1 := by omega
          have el : (K : Int) + 1 < L := by omega
          have HHL := Lib.hid hH
          have HFD := Lib.hid hfd
          have sz := hbel'.size
          have HBL := Lib.hid hbel'
          have HK := Lib.hid hK
          clear hfd hP hQ hK hbel' hH
          go_wp2_with fail
          go_region_law (first
            | (refine step_app _ rfl (.tmp 21) (.tmp 34) 22 rfl EI rfl ((Own.below (hown.drewN _) hbl).alloc _) rfl (l := 1) (by omega) (Rd.one _ _ _) (fun _ _ => rfl) (by unfold maxLen; omega) (by omega) (by have := hbl.size; simp at this ⊢; omega) (k + 1) (k + 1) rfl rfl ?_; intro A3 c3 w3 hown3 hg3 hat3 hbl3)
            | (go_simp; go_at_call 26; refine (line_any P Q x _ p1 p2 hx).mono ?_; rintro e w' ⟨rfl, hbl⟩))
          all_goals go_wp2_with fail
          all_goals have hb0 := first_below HBL.out hbl (by simp; omega)
          all_goals have hb1 : Below wo.heap.size wo w3 := (hb0.alloc hb0.size _).trans hbl3
          all_goals go_roundw
          all_goals first
            | (case rel => exact ⟨k + 1, A3, c3, by omega, by rw [HK.out]; go_num, rfl, hown3.congr (fun i hi => by
                by_cases hik : i < k
                · rw [cat_lt hik]
                · obtain rfl : i = k := by omega
                  rw [cat_ge (by omega), HFD.out]), hb1⟩)
            | (case measure => simp [intOf]; omega)
        · obtain rfl : k = H := by omega
          have hrd2 := hown.rd
          clear hown
          have hd : ¬ 2 * k < L := by omega
          go_wp2_with fail
          go_roundw
          case rel => exact ⟨j + 1, k, A2, c2, by omega, by go_num, HH2.out, rfl, hrd2, hbel.trans (hbel'.mono hbel.size)⟩
          case measure => simp [intOf]; omega
    · obtain rfl : j = a := by omega
      subst hL
      go_wp2_with fail
      go_ret
      exact ⟨_, _, rfl, HRD.out, hbel⟩
set_option maxRecDepth 100000 in
theorem value_bad (n : Int) (A B : Option Addr) (m c a d : Nat) (f : Nat → Int) (w : World) (h : Rd w A m (fun i => .int .i64 (f i))) (hm : m ≤ maxLen) (hv : prE n m f ≠ 0) :
    Calls Try.prog 7 #[.int .i64 n, .slice A m c, .slice B a d] w fun e w' => e = .returned (.tuple #[.int .i64 0, .int .i64 (prE n m f)]) ∧ w = w' := by
  have hq : (prE n m f != 0) = true := by rw [bne_iff_ne]; exact hv
  have H := Lib.hid h
  clear h hv
  go_enter Try.func7, Try.ntmps7
  go_wp2_with (go_at_call 17; refine (wrong_any n A m c f w H.out hm).mono ?_; rintro e w' ⟨rfl, rfl⟩)
  go_ret2
  exact ⟨rfl, rfl⟩
theorem prE_zero {n : Int} {m : Nat} {f : Nat → Int} (h : prE n m f = 0) : ∃ N : Nat, n = N ∧ 1 ≤ N ∧ N ≤ 4 ∧ m = 2 ^ N ∧ (∀ i, i < m → 0 ≤ f i ∧ f i ≤ 6) := by
  unfold prE at h
  by_cases hn : 1 ≤ n ∧ n ≤ 4
  · rw [if_pos hn] at h
    by_cases hm : m = 2 ^ n.toNat
    · rw [if_pos hm] at h
      by_cases hb : insB 7 m f = true
      · exact ⟨n.toNat, by omega, by omega, by omega, hm, fun i hi => by have := insB_iff.1 hb i hi; omega⟩
      · rw [if_neg hb] at h; omega
    · rw [if_neg hm] at h; omega
  · rw [if_neg hn] at h; omega
theorem prE_is {N m : Nat} {f : Nat → Int} (h1 : 1 ≤ N) (hN : N ≤ 4) (hm : m = 2 ^ N) (hf : ∀ i, i < m → 0 ≤ f i ∧ f i ≤ 6) : prE (N : Int) m f = 0 := by
  unfold prE
  rw [if_pos ⟨by omega, by omega⟩, Int.toNat_natCast, if_pos hm, if_pos (insB_iff.2 fun i hi => by have := hf i hi; omega)]
set_option maxRecDepth 100000 in
theorem value_good (N : Nat) (A B : Option Addr) (m c d : Nat) (f t : Nat → Int) (w : World) (h : Rd w A m (fun i => .int .i64 (f i))) (g : Rd w B N (fun i => .int .i64 (t i))) (h1 : 1 ≤ N) (hN : N ≤ 4) (hm : m = 2 ^ N)
    (hf : ∀ i, i < m → 0 ≤ f i ∧ f i ≤ 6) (ht : ∀ i, i < N → 0 ≤ t i ∧ t i ≤ 6) :
    Calls Try.prog 7 #[.int .i64 N, .slice A m c, .slice B N d] w fun e w' => e = .returned (.tuple #[.int .i64 (FD f t N 0), .int .i64 0]) ∧ Below w.heap.size w w' := by
  have hv := prE_is h1 hN hm hf
  have hb : insB 7 N t = true := insB_iff.2 fun i hi => by have := ht i hi; omega
  have p := pow_bd hN
  have hm16 : m ≤ 16 := by omega
  have H := Lib.hid h
  have G := Lib.hid g
  have HM := Lib.hid hm
  have HF := Lib.hid hf
  have HT := Lib.hid ht
  clear h g hm hf ht p
  go_enter Try.func7, Try.ntmps7
  go_wp2_with (first
    | (go_at_call 17; refine (wrong_any N A m c f w H.out (by unfold maxLen; omega)).mono ?_; rintro e w' ⟨rfl, rfl⟩)
    | (go_at_call 18; refine (contains_any B N d t w G.out (by unfold maxLen; omega)).mono ?_; rintro e w' ⟨rfl, rfl⟩))
  refine (fold_any N A B m c N d f t w H.out G.out hN HM.out (Nat.le_refl _) HF.out HT.out).mono ?_
  rintro e w' ⟨A', c', rfl, hrd, hbl⟩
  rw [Nat.sub_self] at hrd
  obtain ⟨b, o, rfl, _, cc⟩ := hrd.at_ (show 0 < 2 ^ 0 by decide)
  simp only [Nat.sub_self, Nat.pow_zero]
  have HFD : ∃ V, V = FD f t N 0 := ⟨_, rfl⟩
  obtain ⟨V, hV⟩ := HFD
  rw [← hV, Nat.add_zero] at cc
  have HV := Lib.hid hV
  clear hrd hV
  go_wp2_with fail
  go_ret2
  exact ⟨by rw [HV.out]; rfl, hbl⟩
set_option maxRecDepth 100000 in
theorem dice2_any (n k : Nat) (w : World) (hn : n ≤ 4) (hk : k ≤ 1048576) :
    Calls Try.prog 8 #[.int .i64 n, .int .i64 2, .int .i64 k] w fun e w' => ∃ A' c', e = .returned (.slice A' n c') ∧ Own w' w.heap.size 3 1 A' n c' n (fun i => .int .i64 (k / 2 ^ i % 2 : Nat)) ∧ Below w.heap.size w w' := by
  go_enter Try.func8, Try.ntmps8
  go_wp2_with fail
  go_loopw [7, 2, 8] (fun v x i wr => ∃ (j y : Nat) (A' : Option Addr) (c' : Nat), j ≤ n ∧ i = .int .i64 j ∧ y = k / 2 ^ j ∧ x = .int .i64 y ∧ v = .slice A' j c' ∧ Own wr w.heap.size 3 1 A' j c' j (fun i => .int .i64 (k / 2 ^ i % 2 : Nat)) ∧ Below w.heap.size w wr) (fun _ _ i _ => n - (intOf i).toNat)
  case atStart => exact ⟨0, k, none, 0, Nat.zero_le _, rfl, by simp, rfl, rfl, Own.nil _ _ _ _ _, Below.refl _ _⟩
  case round =>
    obtain ⟨j, y, A', c', hj, rfl, hy, rfl, rfl, hown, hbel⟩ := hrel
    have hyk : y ≤ 1048576 := by rw [hy]; exact Nat.le_trans (Nat.div_le_self _ _) hk
    have hye : y / 2 = k / 2 ^ (j + 1) := by rw [hy, Nat.div_div_eq_div_mul, Nat.pow_succ]
    have HY := Lib.hid hy
    have HYE := Lib.hid hye
    clear hy hye
    by_cases hlt : j < n
    · have t1 : ((y : Int)).tmod 2 = ((y % 2 : Nat) : Int) := by rw [Int.tmod_eq_emod_of_nonneg (by omega)]; omega
      have t2 : ((y : Int)).tdiv 2 = ((y / 2 : Nat) : Int) := by rw [Int.tdiv_eq_ediv_of_nonneg (by omega)]; omega
      have sz := hbel.size
      obtain ⟨y2, hy2⟩ : ∃ y2, y2 = y / 2 := ⟨_, rfl⟩
      obtain ⟨r, hr⟩ : ∃ r, r = y % 2 := ⟨_, rfl⟩
      have b1 : y2 ≤ 1048576 := by omega
      have b2 : r ≤ 1 := by omega
      rw [← hy2] at t2
      rw [← hr] at t1
      have HY2 := Lib.hid hy2
      have HR := Lib.hid hr
      clear hy2 hr
      go_wp2_with (at_builtin; refine wpList_app _ rfl (.tmp 14) (.tmp 18) 22 rfl EI rfl (hown.alloc _) rfl (l := 1) (by omega) (Rd.one _ _ _) (fun _ _ => rfl) (by unfold maxLen; omega) (by omega) (by simp; omega) (j + 1) (j + 1) rfl rfl ?_; intro A2 c2 w3 hown2 hg2 hat2 hbl2)
      go_roundw
      case rel => exact ⟨j + 1, y2, A2, c2, by omega, by go_num, by rw [HY2.out, HYE.out], rfl, rfl, hown2.congr (fun i hi => by
        by_cases hij : i < j
        · rw [cat_lt hij]
        · obtain rfl : i = j := by omega
          rw [cat_ge (by omega), HR.out, HY.out]), (hbel.alloc (by omega) _).trans hbl2⟩
      case measure => simp [intOf]; omega
    · obtain rfl : j = n := by omega
      go_wp2_with fail
      go_ret
      exact ⟨_, _, rfl, hown, hbel⟩
end Go.Proofs.Ythcednankgaogaa
