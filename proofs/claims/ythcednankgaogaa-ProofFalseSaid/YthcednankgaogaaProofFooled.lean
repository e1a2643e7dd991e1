/- What proof.Fooled and the references' SaidCheck and Power compute. Conditions: as each theorem states. -/
import Derived.Test.YthcednankgaogaaProofFalseLaw
import Derived.Deep.LoopGhost
namespace Go.Proofs.Ythcednankgaogaa
open ProofM Go.ChangeShapes Go.WideShapes Go.ChangeAt Go.RowKit
set_option linter.unusedVariables false
theorem pow7 {n : Nat} (h : n ≤ 4) : 7 ^ n ≤ 2401 ∧ 6 ^ n ≤ 1296 ∧ 1 ≤ 7 ^ n ∧ 1 ≤ 6 ^ n := by
  have : n = 0 ∨ n = 1 ∨ n = 2 ∨ n = 3 ∨ n = 4 := by omega
  rcases this with rfl | rfl | rfl | rfl | rfl <;> decide
set_option maxRecDepth 100000 in
theorem power_any (b n : Nat) (w : World) (hb : b = 6 ∨ b = 7) (hn : n ≤ 4) :
    Calls Try.prog 13 #[.int .i64 b, .int .i64 n] w fun e w' => e = .returned (.int .i64 (b ^ n : Nat)) ∧ w = w' := by
  go_enter Try.func13, Try.ntmps13
  go_wp2_with fail
  go_loop [5, 6] (fun s5 s6 => ∃ i : Nat, i ≤ n ∧ s6 = .int .i64 i ∧ s5 = .int .i64 (b ^ i : Nat)) (fun _ s6 => n - (intOf s6).toNat)
  case atStart => exact ⟨0, Nat.zero_le _, rfl, rfl⟩
  case round =>
    obtain ⟨i, hi, rfl, rfl⟩ := hrel
    have h7 := pow7 (n := i) (by omega)
    have hle : b ^ i ≤ 2401 := by rcases hb with rfl | rfl <;> omega
    have hpn : b ^ (i + 1) = b ^ i * b := Nat.pow_succ _ _
    obtain ⟨P, hP⟩ : ∃ P, P = b ^ i := ⟨_, rfl⟩
    rw [← hP] at hle hpn ⊢
    have HPN := Lib.hid hpn
    have HP := Lib.hid hP
    clear hpn hP h7
    by_cases hlt : i < n
    · rcases hb with rfl | rfl
      all_goals
        go_wp2_with fail
        go_round
        case rel => exact ⟨i + 1, by omega, by go_num, by rw [HPN.out]; first | rfl | go_num⟩
        case measure => simp [intOf]; omega
    · obtain rfl : i = n := by omega
      go_wp2_with fail
      go_ret
      exact ⟨by rw [HP.out]; simp, rfl⟩
theorem badP_ins (P : Nat → Int) (j : Nat) : badP P j = !(insB 7 2 (fun i => if i = 0 then P (2 * j) else P (2 * j + 1))) := by
  unfold badP
  by_cases h0 : 0 ≤ P (2 * j) ∧ P (2 * j) ≤ 6
  · rw [inB_yes h0.1 h0.2]
    by_cases h1 : 0 ≤ P (2 * j + 1) ∧ P (2 * j + 1) ≤ 6
    · rw [inB_yes h1.1 h1.2, insB_iff.2 fun i hi => by
        match i, hi with
        | 0, _ => show 0 ≤ P (2 * j) ∧ P (2 * j) < 7; omega
        | 1, _ => show 0 ≤ P (2 * j + 1) ∧ P (2 * j + 1) < 7; omega]
      rfl
    · rw [inB_no h1, insB_no (k := 1) (by omega) (by show ¬ (0 ≤ P (2 * j + 1) ∧ P (2 * j + 1) < 7); omega)]; rfl
  · rw [inB_no h0, insB_no (k := 0) (by omega) (by show ¬ (0 ≤ P (2 * j) ∧ P (2 * j) < 7); omega)]; rfl
theorem rdI2 (W : World) (K : Nat) (hK : W.heap.size = K) (x y : Int) (e : TypeId) : Rd (W.alloc (.cells #[.int .i64 x, .int .i64 y] e)) (some ⟨K, 0, none⟩) 2 (fun i => .int .i64 (if i = 0 then x else y)) := by
  subst hK
  exact Rd.of_row (row2 W e _ _ (fun i => .int .i64 (if i = 0 then x else y)) rfl rfl) (Nat.le_refl 2)
set_option maxRecDepth 100000 in
set_option maxHeartbeats 1000000 in
theorem saidCheck_any (n T : Int) (A S : Option Addr) (m c s sc : Nat) (f P : Nat → Int) (w : World) (h : Rd w A m (fun i => .int .i64 (f i))) (hs : Rd w S (s * 2) (fun i => .int .i64 (P i))) (hm : m ≤ maxLen) (hsl : s ≤ maxLen) :
    Calls Try.prog 11 #[.int .i64 n, .slice A m c, .int .i64 T, .slice S s sc] w fun e w' => e = .returned (.int .i64 (svE n m f T s P)) ∧ Below w.heap.size w w' := by
  have H := Lib.hid h
  have G := Lib.hid hs
  unfold maxLen at hsl
  clear h hs
  by_cases hv : prE n m f = 0
  · have e1 : svE n m f T s P = if inB 0 T 6 = false ∨ anyB (badP P) s = true then 4 else if (s : Int) = n then 0 else 3 := if_pos hv
    by_cases hT : 0 ≤ T ∧ T < 7
    · have hTB : inB 0 T 6 = true := inB_yes hT.1 (by omega)
      have r1 : insB 7 1 (fun _ => T) = true := insB_iff.2 fun _ _ => hT
      rw [hTB] at e1
      have E1 := Lib.hid e1
      clear e1 hTB hT
      go_enter Try.func11, Try.ntmps11
      go_wp2_with fail
      refine (sumCheck_any n A m c f w H.out hm).mono ?_
      rintro e w' ⟨rfl, rfl⟩
      rw [hv]
      clear hv
      go_wp2_with fail
      refine (inside_any 7 _ 1 1 (fun _ => T) _ (Rd.one w (.int .i64 T) _) (by decide)).mono ?_
      rintro e w' ⟨rfl, rfl⟩
      rw [r1]
      clear r1
      go_wp2_with fail
      go_loopw [24] (fun i wr => ∃ k : Nat, k ≤ s ∧ i = .int .i64 k ∧ (∀ j, j < k → badP P j = false) ∧ Below w.heap.size w wr) (fun i _ => s - (intOf i).toNat)
      case atStart => exact ⟨0, Nat.zero_le _, rfl, fun j hj => absurd hj (Nat.not_lt_zero _), (Below.refl _ _).alloc (Nat.le_refl _) _⟩
      case round =>
        obtain ⟨wo, rfl⟩ : ∃ wo : World, wo = wr := ⟨_, rfl⟩
        obtain ⟨k, hk, rfl, hall0, hbel⟩ := hrel
        have hall := Lib.hid hall0
        clear hall0
        by_cases hlt : k < s
        · obtain ⟨b, off, rfl, _, c0, c1⟩ := (G.out.below hbel).at2 hlt
          have hbp := badP_ins P k
          obtain ⟨x, hx⟩ : ∃ x, x = P (2 * k) := ⟨_, rfl⟩
          obtain ⟨y, hy⟩ : ∃ y, y = P (2 * k + 1) := ⟨_, rfl⟩
          rw [← hx, ← hy] at hbp
          rw [← hx] at c0
          rw [← hy] at c1
          have hb2 := hbel.alloc hbel.size (.cells #[.int .i64 x, .int .i64 y] 36)
          have hb3 := hb2.alloc hb2.size (.cells #[.int .i64 x, .int .i64 y] 3)
          have HBP := Lib.hid hbp
          clear hbp hx hy
          cases hi : insB 7 2 (fun i => if i = 0 then x else y) with
          | true =>
            have HI := Lib.hid hi
            clear hi
            go_wp2_with fail
            refine (inside_any 7 _ 2 2 (fun i => if i = 0 then x else y) _ (rdI2 _ _ (by simp) x y _) (by decide)).mono ?_
            rintro e w' ⟨rfl, rfl⟩
            rw [HI.out]
            go_wp2_with fail
            go_roundw
            case rel => exact ⟨k + 1, by omega, by go_num, fun j hj => by
              by_cases e : j = k
              · subst e; rw [HBP.out, HI.out]; rfl
              · exact hall.out j (by omega), hb3⟩
            case measure => simp [intOf]; omega
          | false =>
            have HI := Lib.hid hi
            clear hi
            go_wp2_with fail
            refine (inside_any 7 _ 2 2 (fun i => if i = 0 then x else y) _ (rdI2 _ _ (by simp) x y _) (by decide)).mono ?_
            rintro e w' ⟨rfl, rfl⟩
            rw [HI.out]
            go_wp2_with fail
            go_ret
            exact ⟨ret_int (by rw [E1.out, if_pos (.inr (anyB_yes hlt (by rw [HBP.out, HI.out]; rfl)))]), hb3⟩
        · obtain rfl : k = s := by omega
          have hno := anyB_no hall.out
          by_cases hsn : (k : Int) = n
          · have hq : ((k : Int) != n) = false := by rw [bne_eq_false_iff_eq]; exact hsn
            have HSN := Lib.hid hsn
            have HNO := Lib.hid hno
            clear hsn hno
            go_wp2_with fail
            go_ret
            exact ⟨ret_int (by rw [E1.out, HNO.out, if_neg (by simp), if_pos HSN.out]), hbel⟩
          · have hq : ((k : Int) != n) = true := by rw [bne_iff_ne]; exact hsn
            have HSN := Lib.hid hsn
            have HNO := Lib.hid hno
            clear hsn hno
            go_wp2_with fail
            go_ret
            exact ⟨ret_int (by rw [E1.out, HNO.out, if_neg (by simp), if_neg HSN.out]), hbel⟩
    · have hTB : inB 0 T 6 = false := inB_no (by omega)
      have r1 : insB 7 1 (fun _ => T) = false := insB_no (k := 0) (by omega) hT
      rw [if_pos (.inl hTB)] at e1
      rw [e1]
      clear e1 hTB hT
      go_enter Try.func11, Try.ntmps11
      go_wp2_with fail
      refine (sumCheck_any n A m c f w H.out hm).mono ?_
      rintro e w' ⟨rfl, rfl⟩
      rw [hv]
      clear hv
      go_wp2_with fail
      refine (inside_any 7 _ 1 1 (fun _ => T) _ (Rd.one w (.int .i64 T) _) (by decide)).mono ?_
      rintro e w' ⟨rfl, rfl⟩
      rw [r1]
      clear r1
      go_wp2_with fail
      go_ret
      exact ⟨rfl, (Below.refl _ _).alloc (Nat.le_refl _) _⟩
  · have e1 : svE n m f T s P = prE n m f := if_neg hv
    rw [e1]
    have hq : (prE n m f != 0) = true := by rw [bne_iff_ne]; exact hv
    clear e1 hv
    go_enter Try.func11, Try.ntmps11
    go_wp2_with fail
    refine (sumCheck_any n A m c f w H.out hm).mono ?_
    rintro e w' ⟨rfl, rfl⟩
    go_wp2_with fail
    go_ret
    exact ⟨rfl, Below.refl _ _⟩
/-- the next dice -/
theorem next_dice : ∀ k < 2401, ∀ j < 4, (∀ i < j, k / 7 ^ i % 7 = 6) → k / 7 ^ j % 7 ≠ 6 → ∀ i < 4, (k + 1) / 7 ^ i % 7 = if i < j then 0 else if i = j then k / 7 ^ j % 7 + 1 else k / 7 ^ i % 7 := by decide +kernel
theorem last_dice : ∀ n < 5, ∀ k < 7 ^ n, (∀ i < n, k / 7 ^ i % 7 = 6) → k + 1 = 7 ^ n := by decide +kernel
theorem more_dice : ∀ n < 5, ∀ k < 7 ^ n, ∀ j < n, k / 7 ^ j % 7 ≠ 6 → k + 1 < 7 ^ n := by decide +kernel
theorem info_int : (Try.prog.info? 3).map (fun i => (i.zero, i.size, i.bytes)) = some (some (.int .i64 0), 1, 8) := by kernel_rfl
theorem digs_bd (k r : Nat) : 0 ≤ digs k r ∧ digs k r ≤ 6 := by unfold digs; omega
theorem digs_6 {k r : Nat} : digs k r = 6 ↔ k / 7 ^ r % 7 = 6 := by unfold digs; omega
theorem svE_zero {n T : Int} {m s : Nat} {f P : Nat → Int} (h : svE n m f T s P = 0) :
    prE n m f = 0 ∧ (s : Int) = n ∧ (0 ≤ T ∧ T ≤ 6) ∧ ∀ i, i < s → (0 ≤ P (2 * i) ∧ P (2 * i) ≤ 6) ∧ (0 ≤ P (2 * i + 1) ∧ P (2 * i + 1) ≤ 6) := by
  unfold svE at h
  by_cases hv : prE n m f = 0
  · rw [if_pos hv] at h
    by_cases hb : inB 0 T 6 = false ∨ anyB (badP P) s = true
    · rw [if_pos hb] at h; omega
    · rw [if_neg hb] at h
      by_cases hs : (s : Int) = n
      · refine ⟨hv, hs, ?_, ?_⟩
        · by_cases hT : 0 ≤ T ∧ T ≤ 6
          · exact hT
          · exact absurd (.inl (inB_no hT)) hb
        · intro i hi
          have hbp : badP P i = false := by
            cases e : badP P i with
            | false => rfl
            | true => exact absurd (.inr (anyB_yes hi e)) hb
          unfold badP at hbp
          by_cases h0 : 0 ≤ P (2 * i) ∧ P (2 * i) ≤ 6
          · by_cases h1 : 0 ≤ P (2 * i + 1) ∧ P (2 * i + 1) ≤ 6
            · exact ⟨h0, h1⟩
            · rw [inB_no h1] at hbp; simp at hbp
          · rw [inB_no h0] at hbp; simp at hbp
      · rw [if_neg hs] at h; omega
  · rw [if_neg hv] at h; exact absurd h hv
set_option maxRecDepth 100000 in
theorem fooled_bad (n T : Int) (A S : Option Addr) (m c s sc : Nat) (f P : Nat → Int) (w : World) (h : Rd w A m (fun i => .int .i64 (f i))) (hs : Rd w S (s * 2) (fun i => .int .i64 (P i))) (hm : m ≤ maxLen) (hsl : s ≤ maxLen) (hv : svE n m f T s P ≠ 0) :
    Calls Try.prog 10 #[.int .i64 n, .slice A m c, .int .i64 T, .slice S s sc] w fun e w' => e = .returned (.tuple #[.int .i64 0, .int .i64 (svE n m f T s P)]) ∧ Below w.heap.size w w' := by
  have hq : (svE n m f T s P != 0) = true := by rw [bne_iff_ne]; exact hv
  go_enter Try.func10, Try.ntmps10
  go_wp2_with fail
  refine (saidWrong_any n T A S m c s sc f P w h hs hm hsl).mono ?_
  rintro e w1 ⟨rfl, hb1⟩
  go_wp2_with fail
  go_ret2
  exact ⟨rfl, hb1⟩
set_option maxRecDepth 100000 in
set_option maxHeartbeats 2000000 in
theorem fooled_good (N : Nat) (T : Int) (A S : Option Addr) (m c sc : Nat) (f P : Nat → Int) (w : World) (h : Rd w A m (fun i => .int .i64 (f i))) (hs : Rd w S (N * 2) (fun i => .int .i64 (P i))) (hsv : svE N m f T N P = 0)
    (N1 : 1 ≤ N) (hN : N ≤ 4) (hm : m = 2 ^ N) (hf : ∀ i, i < m → 0 ≤ f i ∧ f i ≤ 6) (hT : 0 ≤ T ∧ T ≤ 6) (hP : ∀ i, i < N → (0 ≤ P (2 * i) ∧ P (2 * i) ≤ 6) ∧ (0 ≤ P (2 * i + 1) ∧ P (2 * i + 1) ≤ 6)) :
    Calls Try.prog 10 #[.int .i64 N, .slice A m c, .int .i64 T, .slice S N sc] w fun e w' => e = .returned (.tuple #[.int .i64 (cnT (fun k => chkB f (digs k) N P T) (7 ^ N)), .int .i64 0]) ∧ Below w.heap.size w w' := by
  have hm16 : m ≤ 16 := by have := pow_bd hN; omega
  have H := Lib.hid h
  have G := Lib.hid hs
  have HM := Lib.hid hm
  have HF := Lib.hid hf
  have HT := Lib.hid hT
  have HP := Lib.hid hP
  have hmk := fun W => run_make_row' (P := Try.prog) 22 3 (.int .i64 0) 8 Try.underlying22 info_int rfl .i64 .i64 N (by omega) (by omega) W
  obtain ⟨p0, _, p1, _⟩ := pow7 (n := N) hN
  obtain ⟨p, hp⟩ : ∃ p, p = fun k => chkB f (digs k) N P T := ⟨_, rfl⟩
  obtain ⟨Q, hQ⟩ : ∃ Q, Q = 7 ^ N := ⟨_, rfl⟩
  rw [← hQ] at p0 p1 ⊢
  rw [← hp]
  have HPP := Lib.hid hp
  have HQ := Lib.hid hQ
  clear h hs hm hf hT hP hp hQ
  go_enter Try.func10, Try.ntmps10
  go_wp2_with fail
  refine (saidWrong_any N T A S m c N sc f P w H.out G.out (by unfold maxLen; omega) (by unfold maxLen; omega)).mono ?_
  rintro e w1 ⟨rfl, hb1⟩
  rw [hsv]
  clear hsv
  go_wp2_with fail
  obtain ⟨g, hg⟩ : ∃ g, g = w1.heap.size := ⟨_, rfl⟩
  have hrow0 := World.rowIs_made w1 (.int .i64 0) N 3
  have hB1 := hb1.alloc hb1.size (.cells (madeCells #[.int .i64 0] N) 3)
  have hgw : w.heap.size ≤ g := by have := hb1.size; omega
  rw [← hg] at hrow0 ⊢
  go_loopg [11] Q (fun gk s11 wr => ∃ k : Nat, k < Q ∧ gk = Q - k ∧ s11 = .int .i64 (cnT p k) ∧ (∃ R, wr.rowIs g 3 N R ∧ ∀ i, i < N → R i = .int .i64 (digs k i)) ∧ Below w.heap.size w wr)
  case atStart => exact ⟨0, by omega, by omega, rfl, ⟨_, hrow0, fun i _ => by show _ = Value.int .i64 _; unfold digs; simp⟩, hB1⟩
  case round =>
    clear hrow0 hB1
    have HGE := Lib.hid hg
    clear hg
    obtain ⟨wo, rfl⟩ : ∃ wo : World, wo = wr := ⟨_, rfl⟩
    obtain ⟨k, hk, rfl, rfl, ⟨R, hrow, hR⟩, hbel⟩ := hrel
    have hcs := cnT_le p k
    have hcn : cnT p (k + 1) = cnT p k + (p k).toNat := rfl
    obtain ⟨C, hC⟩ : ∃ C, C = cnT p k := ⟨_, rfl⟩
    rw [← hC] at hcs hcn ⊢
    obtain ⟨q, hq⟩ : ∃ q, q = p k := ⟨_, rfl⟩
    have hq2 := hq
    rw [HPP.out] at hq2
    rw [← hq] at hcn
    have hrd : Rd wo (some ⟨g, 0, none⟩) N (fun i => .int .i64 (digs k i)) := (Rd.of_row hrow (Nat.le_refl _)).congr hR
    have HRD := Lib.hid hrd
    have HCN := Lib.hid hcn
    have HQ2 := Lib.hid hq2
    have HR := Lib.hid hR
    clear hC hcn hq hq2 hrd hR
    go_wp2_with fail
    refine (check_any N A (some ⟨g, 0, none⟩) S m c N sc T f (digs k) P _ (H.out.below hbel) HRD.out (G.out.below hbel) hN HM.out HF.out (fun i _ => digs_bd k i) HT.out HP.out).mono ?_
    rintro e w3 ⟨rfl, hb3⟩
    rw [← HQ2.out]
    have hrow3 := row_below hrow hb3 hrow.lt
    have hB3 := hbel.trans (hb3.mono hbel.size)
    clear hrow hbel hb3
    have hcb : (0 : Int) ≤ C ∧ C ≤ 2401 := by omega
    have hnx := next_dice k (by omega)
    have hla := last_dice N (by omega) k (by rw [← HQ.out]; exact hk)
    have hmo := more_dice N (by omega) k (by rw [← HQ.out]; exact hk)
    rw [← HQ.out] at hla hmo
    have HNX := Lib.hid hnx
    have HLA := Lib.hid hla
    have HMO := Lib.hid hmo
    clear hnx hla hmo
    obtain ⟨u, hu⟩ : ∃ u : Nat, u = C + q.toNat := ⟨_, rfl⟩
    have HU := Lib.hid hu
    cases q
    all_goals
      have hu2 : u = C + _ := hu
      clear hu
      go_wp2_with fail
      go_loopw [13] (fun s13 wr => ∃ j : Nat, j ≤ N ∧ s13 = .int .i64 j ∧ (∀ i, i < j → k / 7 ^ i % 7 = 6) ∧ (∃ R2, wr.rowIs g 3 N R2 ∧ ∀ i, i < N → R2 i = .int .i64 (if i < j then 0 else digs k i)) ∧ Below w.heap.size w wr) (fun s13 _ => N - (intOf s13).toNat)
      case atStart => exact ⟨0, Nat.zero_le _, rfl, fun i hi => absurd hi (Nat.not_lt_zero _), ⟨R, hrow3, fun i hi => by rw [if_neg (Nat.not_lt_zero _)]; exact HR.out i hi⟩, hB3⟩
      case round =>
        clear hrow3 hB3
        obtain ⟨wq, rfl⟩ : ∃ wq : World, wq = wr := ⟨_, rfl⟩
        obtain ⟨j, hj, rfl, h6, ⟨R2, hrow, hR2⟩, hbel⟩ := hrel
        have H6 := Lib.hid h6
        clear h6
        by_cases hlt : j < N
        · have hcell := hrow.cell hlt
          rw [hR2 j hlt, if_neg (Nat.lt_irrefl _)] at hcell
          have hfz := hrow.frozen j
          have sg := hrow.lt
          have hdb := digs_bd k j
          have hd6 := @digs_6 k j
          obtain ⟨d, hd⟩ : ∃ d, d = digs k j := ⟨_, rfl⟩
          rw [← hd] at hcell hdb hd6
          have HR2 := Lib.hid hR2
          have HD := Lib.hid hd
          have HD6 := Lib.hid hd6
          clear hR2 hd hd6
          by_cases e6 : d = 6
          · subst e6
            go_wp2_with fail
            go_roundw
            case rel => exact ⟨j + 1, by omega, by go_num, fun i hi => by
              by_cases e : i = j
              · subst e; exact HD6.out.1 rfl
              · exact H6.out i (by omega), ⟨_, hrow.set j _, fun i hi => by
              by_cases e : i = j
              · subst e; rw [if_pos rfl, if_pos (by omega)]
              · rw [if_neg e, HR2.out i hi]
                by_cases e2 : i < j
                · rw [if_pos e2, if_pos (by omega)]
                · rw [if_neg e2, if_neg (by omega)]⟩, hbel.setCell (by simpa using hgw) _⟩
            case measure => simp [intOf]; omega
          · have hk1 : k + 1 < Q := HMO.out j hlt (fun e => e6 (HD6.out.2 e))
            have hnx := HNX.out j (by omega) H6.out (fun e => e6 (HD6.out.2 e))
            have HNN := Lib.hid hnx
            clear hnx
            go_wp2_with fail
            go_roundg (Q - (k + 1))
            case measure => omega
            case rel => exact ⟨k + 1, hk1, rfl, by rw [HCN.out]; first | rfl | go_num, ⟨_, hrow.set j _, fun i hi => by
              have hn := HNN.out i (by omega)
              by_cases e : i = j
              · subst e
                rw [if_neg (Nat.lt_irrefl _), if_pos rfl] at hn
                rw [if_pos rfl, HD.out]
                unfold digs
                rw [hn]
                go_num
              · rw [if_neg e, HR2.out i hi]
                by_cases e2 : i < j
                · rw [if_pos e2] at hn
                  rw [if_pos e2]
                  unfold digs
                  rw [hn]
                  rfl
                · rw [if_neg e2, if_neg e] at hn
                  rw [if_neg e2]
                  unfold digs
                  rw [hn]⟩, hbel.setCell (by simpa using hgw) _⟩
        · obtain rfl : j = N := by omega
          have hk1 := HLA.out H6.out
          have HK := Lib.hid hk1
          clear hk1 hR2
          go_wp2_with fail
          go_ret2
          exact ⟨by rw [← HK.out, HCN.out]; first | rfl | go_num, hbel⟩
end Go.Proofs.Ythcednankgaogaa
