/- An honest prover is accepted for all dice. No condition. -/
import Derived.Test.YthcednankgaogaaProofCheck
namespace Go.Proofs.Ythcednankgaogaa.proofTrue
open ProofM Go.ChangeShapes Go.WideShapes Go.ChangeAt Go.RowKit
set_option linter.unusedVariables false
theorem E2 : Elem Try.prog 30 36 2 16 := Elem.of Try.underlying30 (by kernel_rfl : (Try.prog.info? 36).map (fun i => (i.zero, i.size, i.bytes)) = some (some (.agg #[.int .i64 0, .int .i64 0]), 2, 16)) rfl (by omega)
/-- what an honest prover says -/
def hon (f t : Nat → Int) (N q : Nat) : Int := SYp (FD f t (q / 2)) (q % 2) (2 ^ (N - q / 2))
theorem hon_0 (f t : Nat → Int) (N i : Nat) : hon f t N (2 * i) = SYp (FD f t i) 0 (2 ^ (N - i)) := by unfold hon; rw [show 2 * i / 2 = i by omega, show 2 * i % 2 = 0 by omega]
theorem hon_1 (f t : Nat → Int) (N i : Nat) : hon f t N (2 * i + 1) = SYp (FD f t i) 1 (2 ^ (N - i)) := by unfold hon; rw [show (2 * i + 1) / 2 = i by omega, show (2 * i + 1) % 2 = 1 by omega]
theorem tot_hon {f t : Nat → Int} {N : Nat} : ∀ j, j ≤ N → tot (hon f t N) t (SMp f (2 ^ N) % 7) j = TT f t N j := by
  intro j
  cases j with
  | zero => intro _; rfl
  | succ j => intro hj; show LN (hon f t N (2 * j)) (hon f t N (2 * j + 1)) (t j) = _; rw [hon_0, hon_1]; exact TT_next (by omega)
theorem hon_ok {f t : Nat → Int} {N : Nat} (hb : 0 ≤ FD f t N 0 ∧ FD f t N 0 ≤ 6) : chkB f t N (hon f t N) (SMp f (2 ^ N) % 7) = true :=
  chkB_iff.2 ⟨fun j hj => by rw [hon_0, hon_1, TT_pair hj, tot_hon j (by omega)], by rw [tot_hon N (Nat.le_refl _), TT_last hb]⟩
def pr2 (x y : Int) (q : Nat) : Value := if q = 0 then .int .i64 x else .int .i64 y
theorem pr2_one (x y : Int) (q : Nat) : (pr2 x y q).oneCell' = true := by unfold pr2; split <;> rfl
theorem rd2 (W : World) (K : Nat) (hK : W.heap.size = K) (x y : Int) (e : TypeId) : Rd (W.alloc (.cells #[.int .i64 x, .int .i64 y] e)) (some ⟨K, 0, none⟩) 2 (pr2 x y) := by
  subst hK
  exact Rd.of_row (row2 W e _ _ (pr2 x y) rfl rfl) (Nat.le_refl 2)
set_option maxRecDepth 100000 in
set_option maxHeartbeats 2000000 in
theorem walk (w : World) (n : Int) (A : Option Addr) (m c : Nat) (f : Nat → Int) (B : Option Addr) (d dc : Nat) (t : Nat → Int) (wn : (Lit.int .i64 n).wf = true) (h : Rd w A m (fun i => .int .i64 (f i))) (wf : ∀ i, (Lit.int .i64 (f i)).wf = true) (hl : m ≤ c) (hm : c ≤ maxLen) (z : c * 8 ≤ 140737488351232) (g : Rd w B d (fun i => .int .i64 (t i))) (wf2 : ∀ i, (Lit.int .i64 (t i)).wf = true) (hl2 : d ≤ dc) (hm2 : dc ≤ maxLen) (z2 : dc * 8 ≤ 140737488351232) :
    Calls Try.prog 5 #[.int .i64 n, .slice A m c, .slice B d dc] w fun e w' => e = .returned (.bool true) ∧ Below w.heap.size w w' := by
  have hml : m ≤ maxLen := by omega
  have hdl : d ≤ maxLen := by omega
  have hdd : d ≤ dc := hl2
  have hdm : dc ≤ maxLen := hm2
  have H := Lib.hid h
  have G := Lib.hid g
  clear wn h wf hl hm z g wf2 hl2 hm2 z2
  by_cases hv : prE n m f = 0
  · obtain ⟨N, hn, N1, N4, hmN, hf⟩ := prE_zero hv
    subst hn
    have hm16 : m ≤ 16 := by have := pow_bd N4; omega
    have hz : isZ (prE N m f) = true := by rw [hv]; rfl
    have HM := Lib.hid hmN
    have HF := Lib.hid hf
    have HV := Lib.hid hv
    clear hmN hf hv
    have hbad : (d ≠ N ∨ insB 7 d t = false) ∨ (d = N ∧ insB 7 d t = true) := by
      by_cases e : d = N
      · cases e2 : insB 7 d t
        · exact .inl (.inr rfl)
        · exact .inr ⟨e, rfl⟩
      · exact .inl (.inl e)
    rcases hbad with hbad | ⟨rfl, hins⟩
    · have HB := Lib.hid hbad
      clear hbad
      by_cases e : d = N
      · subst e
        have hins : insB 7 d t = false := by
          rcases HB.out with h | h
          · exact absurd rfl h
          · exact h
        go_enter Try.func5, Try.ntmps5
        go_wp2_with fail
        refine (Sum_good d A m c f w H.out hm16 HV.out).mono ?_
        rintro e w' ⟨rfl, rfl⟩
        go_wp2_with fail
        refine (proved_any d A m c f w H.out hml).mono ?_
        rintro e w' ⟨rfl, rfl⟩
        rw [hz]
        clear hz
        go_wp2_with fail
        refine (inside_any 7 B d dc t w G.out hdl).mono ?_
        rintro e w' ⟨rfl, rfl⟩
        rw [hins]
        clear hins
        go_wp2_with fail
        go_ret
        exact ⟨rfl, Below.refl _ _⟩
      · have hq : ((d : Int) != N) = true := by rw [bne_iff_ne]; omega
        unfold maxLen at hdl
        clear e
        go_enter Try.func5, Try.ntmps5
        go_wp2_with fail
        refine (Sum_good N A m c f w H.out hm16 HV.out).mono ?_
        rintro e w' ⟨rfl, rfl⟩
        go_wp2_with fail
        refine (proved_any N A m c f w H.out hml).mono ?_
        rintro e w' ⟨rfl, rfl⟩
        rw [hz]
        clear hz
        go_wp2_with fail
        go_ret
        exact ⟨rfl, Below.refl _ _⟩
    · have ht : ∀ i, i < d → 0 ≤ t i ∧ t i ≤ 6 := fun i hi => by have := insB_iff.1 hins i hi; omega
      have HT := Lib.hid ht
      clear ht
      obtain ⟨T, hT⟩ : ∃ T, T = SMp f m % 7 := ⟨_, rfl⟩
      have T0 : 0 ≤ T ∧ T ≤ 6 := by omega
      have hpb := pow_bd N4
      have hFb : 0 ≤ FD f t d 0 ∧ FD f t d 0 ≤ 6 := FD_bd HF.out d 0 (by rw [HM.out]; omega)
      have hok := hon_ok hFb
      rw [← HM.out, ← hT] at hok
      have hPb : ∀ i, i < d → (0 ≤ hon f t d (2 * i) ∧ hon f t d (2 * i) ≤ 6) ∧ (0 ≤ hon f t d (2 * i + 1) ∧ hon f t d (2 * i + 1) ≤ 6) := fun i _ => ⟨SYp_bd _ _ _, SYp_bd _ _ _⟩
      have HOK := Lib.hid hok
      have HT0 := Lib.hid T0
      have HPB := Lib.hid hPb
      have HTE := Lib.hid hT
      clear hpb hFb hok hPb T0 hT
      go_enter Try.func5, Try.ntmps5
      go_wp2_with fail
      refine (Sum_good d A m c f w H.out hm16 HV.out).mono ?_
      rintro e w' ⟨rfl, rfl⟩
      rw [← HTE.out]
      go_wp2_with fail
      refine (proved_any d A m c f w H.out hml).mono ?_
      rintro e w' ⟨rfl, rfl⟩
      rw [hz]
      clear hz
      go_wp2_with fail
      refine (inside_any 7 B d dc t w G.out hdl).mono ?_
      rintro e w' ⟨rfl, rfl⟩
      rw [hins]
      clear hins
      go_wp2_with fail
      go_loopw [9, 10] (fun s9 s10 wr => ∃ (i : Nat) (S : Option Addr) (sc : Nat), i ≤ d ∧ s10 = .int .i64 i ∧ s9 = .slice S i sc ∧ Own wr w.heap.size 36 2 S i sc (i * 2) (fun q => .int .i64 (hon f t d q)) ∧ Below w.heap.size w wr) (fun _ s10 _ => d - (intOf s10).toNat)
      case atStart => exact ⟨0, none, 0, Nat.zero_le _, rfl, rfl, Own.nil _ _ _ _ _, Below.refl _ _⟩
      case round =>
        obtain ⟨wo, rfl⟩ : ∃ wo : World, wo = wr := ⟨_, rfl⟩
        obtain ⟨i, S, sc, hi, rfl, rfl, hown, hbel⟩ := hrel
        by_cases hlt : i < d
        · obtain ⟨db, d0, rfl, _, _⟩ := G.out.at_ hlt
          have hid : i ≤ dc := by omega
          go_wp2_with fail
          refine (say_good d i A (some ⟨db, d0, none⟩) m c dc f t _ (H.out.below hbel) ((G.out.below hbel).le (by omega)) N1 N4 HM.out hlt HF.out (fun j hj => HT.out j (by omega))).mono ?_
          rintro e w1 ⟨rfl, hb1⟩
          rw [← hon_0 f t d i, ← hon_1 f t d i]
          have B1 := hbel.trans (hb1.mono hbel.size)
          have own1 := hown.below (hb1)
          obtain ⟨x, hx⟩ : ∃ x, x = hon f t d (2 * i) := ⟨_, rfl⟩
          obtain ⟨y, hy⟩ : ∃ y, y = hon f t d (2 * i + 1) := ⟨_, rfl⟩
          rw [← hx, ← hy]
          have HXY := Lib.hid (And.intro hx hy)
          have sz1 := B1.size
          clear hx hy hown hb1 hbel
          have B2 := B1.alloc sz1 (.cells #[.int .i64 x, .int .i64 y] 36)
          have B3 := B2.alloc B2.size (.cells #[.int .i64 x, .int .i64 y] 36)
          go_wp2_with (at_builtin; refine wpList_app _ rfl (.tmp 54) (.tmp 56) 30 rfl E2 rfl ((own1.alloc _).alloc _) rfl (l := 2) (by omega) (rd2 _ _ (by simp) x y _) (fun _ _ => pr2_one _ _ _) (by unfold maxLen; omega) (by omega) (by simp; omega) (i + 1) ((i + 1) * 2) rfl (by omega) ?_; intro A2 c2 w3 hown2 hg2 hat2 hbl2)
          go_roundw
          case rel => exact ⟨i + 1, A2, c2, by omega, by go_num, rfl, hown2.congr (fun q hq => by
            by_cases e : q < i * 2
            · rw [cat_lt e]
            · rw [cat_ge (by omega)]
              by_cases e0 : q = 2 * i
              · subst e0; rw [show 2 * i - i * 2 = 0 by omega, ← HXY.out.1]; rfl
              · obtain rfl : q = 2 * i + 1 := by omega
                rw [show 2 * i + 1 - i * 2 = 1 by omega, ← HXY.out.2]; rfl), B3.trans hbl2⟩
          case measure => simp [intOf]; omega
        · obtain rfl : i = d := by omega
          have R := Lib.hid hown.rd
          clear hown
          go_wp2_with fail
          refine (Check_good i A B S m c dc sc T f t (hon f t i) _ (H.out.below hbel) (G.out.below hbel) R.out N1 N4 HM.out HF.out HT.out HT0.out HPB.out).mono ?_
          rintro e w2 ⟨rfl, hb2⟩
          rw [HOK.out]
          go_wp2_with fail
          go_ret
          exact ⟨rfl, hbel.trans (hb2.mono hbel.size)⟩
  · have hz : isZ (prE n m f) = false := by unfold isZ; rw [beq_eq_false_iff_ne]; exact hv
    have hq : (prE n m f != 0) = true := by rw [bne_iff_ne]; exact hv
    have HV := Lib.hid hv
    clear hv
    go_enter Try.func5, Try.ntmps5
    go_wp2_with fail
    refine (Sum_bad n A m c f w H.out hml HV.out).mono ?_
    rintro e w' ⟨rfl, rfl⟩
    go_wp2_with fail
    refine (proved_any n A m c f w H.out hml).mono ?_
    rintro e w' ⟨rfl, rfl⟩
    rw [hz]
    clear hz
    go_wp2_with fail
    go_ret
    exact ⟨rfl, Below.refl _ _⟩
end Go.Proofs.Ythcednankgaogaa.proofTrue
