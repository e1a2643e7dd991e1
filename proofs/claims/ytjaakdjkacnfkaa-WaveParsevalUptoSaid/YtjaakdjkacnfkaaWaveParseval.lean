/- The squares of the transform add up to the number of words times the sum of the squares. Condition: that of the second form, that what comes in is of bulk at most 1048576. -/
import Derived.Test.YtjaakdjkacnfkaaWaveTurn
namespace Go.Proofs.Ytjaakdjkacnfkaa.waveParseval
open WaveM Go.ChangeShapes Go.WideShapes Go.ChangeAt Go.RowKit
set_option linter.unusedVariables false
theorem Sm_sq_bd {f : Nat → Int} {B : Int} (k : Nat) (h : ∀ z, z < k → 0 ≤ f z ∧ f z ≤ B) : 0 ≤ Sm f k ∧ Sm f k ≤ B * k := by
  induction k with
  | zero => simp [Sm]
  | succ k ih =>
    have h1 := ih fun z hz => h z (by omega)
    have h2 := h k (by omega)
    have e : B * ((k + 1 : Nat) : Int) = B * k + B := by rw [Int.natCast_add, Int.mul_add]; simp
    rw [e]; simp only [Sm]; omega
theorem sq_bd {x B : Int} (hB : 0 ≤ B) (h0 : -B ≤ x) (h1 : x ≤ B) : 0 ≤ x * x ∧ x * x ≤ B * B := by
  constructor
  · rcases Int.le_total 0 x with h | h
    · exact Int.mul_nonneg h h
    · exact Int.mul_nonneg_of_nonpos_of_nonpos h h
  · rcases Int.le_total 0 x with h | h
    · exact Int.mul_le_mul h1 h1 h hB
    · have := Int.mul_le_mul (show -x ≤ B by omega) (show -x ≤ B by omega) (show 0 ≤ -x by omega) hB
      rwa [Int.neg_mul_neg] at this
set_option maxRecDepth 100000 in
theorem walk (w : World) (n : Int) (A : Option Addr) (m c : Nat) (f : Nat → Int) (wn : (Lit.int .i64 n).wf = true) (h : Rd w A m (fun i => .int .i16 (f i))) (wf : ∀ i, (Lit.int .i16 (f i)).wf = true) (hl : m ≤ c) (hm : c ≤ maxLen) (z : c ≤ 1048576) :
    Calls Try.prog 3 #[.int .i64 n, .slice A m c] w fun e w' => e = .returned (.bool true) ∧ Below w.heap.size w w' := by
  have hm2 : m ≤ 1048576 := by omega
  have hml : m ≤ maxLen := by unfold maxLen; omega
  have HWF := Lib.hid wf
  clear wn hm z hl wf
  go_enter Try.func3, Try.ntmps3
  go_wp2_with fail
  go_loopw [5, 15] (fun o i wr => ∃ (k : Nat) (A' : Option Addr) (c' : Nat), k ≤ m ∧ i = .int .i64 k ∧ o = .slice A' k c' ∧ Own wr w.heap.size 3 1 A' k c' k (fun i => .int .i64 (f i)) ∧ Below w.heap.size w wr) (fun _ i _ => m - (intOf i).toNat)
  case atStart => exact ⟨0, none, 0, Nat.zero_le _, rfl, rfl, Own.nil _ _ _ _ _, Below.refl _ _⟩
  case round =>
    obtain ⟨k, A', c', hk, rfl, rfl, hown, hbel⟩ := hrel
    by_cases hlt : k < m
    · obtain ⟨b, off, rfl, hb, hc0⟩ := h.at_ hlt
      have hc : wr.cell? ⟨b, off + k, none⟩ = some (.int .i16 (f k)) := (hbel.cell (p := ⟨b, off + k, none⟩) hb).trans hc0
      have hfb := bounds_i16 (HWF.out k)
      obtain ⟨f0, f1⟩ := hfb
      have hsz := hbel.size
      have H := Lib.hid h
      clear h hc0
      go_wp2_with (at_builtin; refine wpList_app _ rfl (.tmp 19) (.tmp 22) 23 rfl EI rfl (hown.alloc _) rfl (l := 1) (by omega) (Rd.one _ _ _) (fun _ _ => rfl) (by unfold maxLen; omega) (by omega) (by simp; omega) (k + 1) (k + 1) rfl rfl ?_; intro A2 c2 w3 hown2 hg2 hat2 hbl2)
      go_roundw
      case rel => exact ⟨k + 1, A2, c2, by omega, by go_num, rfl, hown2.congr (fun i hi => by
        by_cases hik : i < k
        · rw [cat_lt hik]
        · obtain rfl : i = k := by omega
          rw [cat_ge (by omega)]), ((hbel.alloc (by omega) _)).trans hbl2⟩
      case measure => simp [intOf]; omega
    · obtain rfl : k = m := by omega
      have hrd := hown.rd
      clear hown
      go_wp2_with fail
      refine (turn_all n A' k c' f wr hrd hml).mono ?_
      rintro e w2 (⟨hv, rfl, rfl⟩ | ⟨N, A2, c2, rfl, hN, hk2, ho, hv, rfl, hrd2, hle2, hmx2, hb2⟩)
      · have hq : (wvE n k f != 0) = true := by rw [bne_iff_ne]; exact hv
        have hz : isZ (wvE n k f) = false := by simp [isZ, hv]
        clear hv
        go_wp2_with (go_at_call 8; refine (waved_any n A' k c' f wr hrd hml).mono ?_; rintro e w' ⟨rfl, rfl⟩)
        go_ret
        exact ⟨rfl, hbel⟩
      · have hz : isZ (wvE (N : Int) k f) = true := by rw [hv]; rfl
        have hb := hbel.trans (hb2.mono hbel.size)
        have hrd1 := hrd.below hb2
        have HRD1 := Lib.hid hrd1
        have HRD2 := Lib.hid hrd2
        have HK2 := Lib.hid hk2
        have HO := Lib.hid ho
        have hk16 : k ≤ 16 := by have := pow_bd hN; omega
        clear hv hrd hrd1 hrd2 hk2 ho
        go_wp2_with (go_at_call 8; refine (waved_any (N : Int) A' k c' f w2 HRD1.out hml).mono ?_; rintro e w' ⟨rfl, rfl⟩)
        go_loopw [10, 11, 48] (fun s10 s11 i wr => ∃ j : Nat, j ≤ k ∧ i = .int .i64 j ∧ s10 = .int .i64 (Sm (fun z => f z * f z) j) ∧ s11 = .int .i64 (Sm (fun z => E tA tS f N z * E tA tS f N z) j) ∧ Below w2.heap.size w2 wr) (fun _ _ i _ => k - (intOf i).toNat)
        case atStart => exact ⟨0, Nat.zero_le _, rfl, rfl, rfl, Below.refl _ _⟩
        case round =>
          obtain ⟨j, hj, rfl, rfl, rfl, hbr⟩ := hrel
          have fb : ∀ z, -32768 ≤ f z ∧ f z ≤ 32768 := fun z => by have := bounds_i16 (HWF.out z); omega
          have eb : ∀ z, z < k → -524288 ≤ E tA tS f N z ∧ E tA tS f N z ≤ 524288 := fun z hz => by
            have := E_bd' hN (f := f) (B := 32768) (by omega) (fun z _ => fb z) N (Nat.le_refl _) z (by rw [← HK2.out]; exact hz)
            omega
          have s1 := Sm_sq_bd (f := fun z => f z * f z) (B := 1073741824) j (fun z _ => sq_bd (B := 32768) (by omega) (fb z).1 (fb z).2)
          have s2 := Sm_sq_bd (f := fun z => E tA tS f N z * E tA tS f N z) (B := 274877906944) j (fun z hz => sq_bd (B := 524288) (by omega) (eb z (by omega)).1 (eb z (by omega)).2)
          by_cases hlt2 : j < k
          · have q1 := sq_bd (B := 32768) (by omega) (fb j).1 (fb j).2
            have q2 := sq_bd (B := 524288) (by omega) (eb j hlt2).1 (eb j hlt2).2
            obtain ⟨b1, o1, rfl, _, cc1⟩ := (HRD1.out.below hbr).at_ hlt2
            obtain ⟨b2, o2, rfl, _, cc2⟩ := (HRD2.out.below hbr).at_ hlt2
            obtain ⟨Q1, hQ1⟩ : ∃ Q : Int, Q = Sm (fun z => f z * f z) j := ⟨_, rfl⟩
            obtain ⟨Q2, hQ2⟩ : ∃ Q : Int, Q = Sm (fun z => E tA tS f N z * E tA tS f N z) j := ⟨_, rfl⟩
            obtain ⟨e2, he2⟩ : ∃ e2, e2 = E tA tS f N j := ⟨_, rfl⟩
            rw [← hQ1] at s1 ⊢
            rw [← hQ2] at s2 ⊢
            rw [← he2] at q2 cc2
            have HQ1 := Lib.hid hQ1
            have HQ2 := Lib.hid hQ2
            have HE2 := Lib.hid he2
            have w1 : IntKind.i64.wrap (f j * f j) = f j * f j := IntWalk.i64_in _ (by omega)
            have w2' : IntKind.i64.wrap (e2 * e2) = e2 * e2 := IntWalk.i64_in _ (by omega)
            have w3 : IntKind.i64.wrap (Q1 + f j * f j) = Q1 + f j * f j := IntWalk.i64_in _ (by omega)
            have w4 : IntKind.i64.wrap (Q2 + e2 * e2) = Q2 + e2 * e2 := IntWalk.i64_in _ (by omega)
            clear hQ1 hQ2 he2 fb eb s1 s2 q1 q2
            go_wp2_with fail
            go_quiet (fail)
            go_wp2_with fail
            go_quiet (fail)
            go_wp2_with fail
            go_roundw
            case rel => exact ⟨j + 1, by omega, by go_num, by rw [HQ1.out]; rfl, by rw [HQ2.out, HE2.out]; rfl, below_drewN hbr _⟩
            case measure => simp [intOf]; omega
          · obtain rfl : j = k := by omega
            have hp := parseval hN f
            rw [← HK2.out] at hp
            have hk2 : (2 : Int) ^ N = j := by rw [HK2.out]; simp
            rw [hk2] at hp
            have m0 : 0 ≤ Sm (fun z => f z * f z) j * (j : Int) := by rw [← hp]; exact s2.1
            have m1 : Sm (fun z => f z * f z) j * (j : Int) ≤ 4398046511104 := by rw [← hp]; omega
            have HP := Lib.hid hp
            obtain ⟨Q1, hQ1⟩ : ∃ Q : Int, Q = Sm (fun z => f z * f z) j := ⟨_, rfl⟩
            obtain ⟨Q2, hQ2⟩ : ∃ Q : Int, Q = Sm (fun z => E tA tS f N z * E tA tS f N z) j := ⟨_, rfl⟩
            rw [← hQ1, ← hQ2] at hp
            rw [← hQ1] at m0 m1 ⊢
            rw [← hQ2]
            have hq : (Q2 == Q1 * (j : Int)) = true := by rw [hp]; simp
            clear fb eb hk2 hp s1 s2 hQ1 hQ2
            go_wp2_with fail
            go_ret
            exact ⟨rfl, hb.trans (hbr.mono hb.size)⟩
end Go.Proofs.Ytjaakdjkacnfkaa.waveParseval
