/- With only existential variables truth is satisfiability, and with only universal ones it is validity. No condition. -/
import Derived.Test.YtkogobnnimincaaAllFns
namespace Go.Proofs.Ytkogobnnimincaa.allMany
open Go.ChangeShapes Go.WideShapes Go.ChangeAt Go.RowKit
set_option linter.unusedVariables false
theorem wrap8 {V : Nat} (h : V ≤ 8) : wrap64 ((2 : Int) ^ V) = 2 ^ V := by
  obtain ⟨p0, p1, _, _⟩ := pow8 h
  exact IntWalk.wrap64_in _ ⟨by omega, by omega⟩
set_option maxRecDepth 100000 in
set_option maxHeartbeats 2000000 in
theorem walk (w : World) (vars : Int) (A : Option Addr) (n c : Nat) (Y N : Nat → SI) (wv : (Lit.int .u8 vars).wf = true) (h : Rd w A (n * 2) (clC Y N)) (hg : ∀ i, (Y i).good w ∧ (N i).good w) (hl : n ≤ c) (hm : c ≤ maxLen) (zc : c * 48 ≤ 140737488351232) :
    Calls Try.prog 3 #[.int .u8 vars, .slice A n c] w fun e w' => e = .returned (.bool true) ∧ Below w.heap.size w w' := by
  have H := Lib.hid (show Cls w A n Y N from ⟨h, fun k _ => hg k⟩)
  have h63 : n ≤ maxLen := by omega
  have HN := Lib.hid h63
  have hv : 0 ≤ vars ∧ vars ≤ 255 := by simp [Lit.wf, IntKind.min, IntKind.max, IntKind.signed, IntKind.bits] at wv; omega
  obtain ⟨v0, v1⟩ := hv
  obtain ⟨V, hV⟩ := Int.eq_ofNat_of_zero_le (show 0 ≤ vars % 9 by omega)
  have V8 : V ≤ 8 := by omega
  have hmk := fun W => run_make_row' (P := Try.prog) 23 4 (.bool false) 1 Try.underlying23 info_bool rfl .i64 .i64 V (by omega) (by omega) W
  clear wv h hg hl hm zc h63
  go_enter Try.func3, Try.ntmps3
  go_wp2_with fail
  have hrow0 := World.rowIs_made w (.bool false) V 4
  go_loopw [7] (fun s7 wr => ∃ k : Nat, k ≤ V ∧ s7 = .int .i64 k ∧ wr.rowIs w.heap.size 4 V (fun i => .bool (decide (i < k))) ∧ Below w.heap.size w wr) (fun s7 _ => V - (intOf s7).toNat)
  case atStart => exact ⟨0, Nat.zero_le _, rfl, hrow0.congr (fun i hi => by simp), (Below.refl _ _).alloc (Nat.le_refl _) _⟩
  case round =>
    clear hrow0
    obtain ⟨wo, rfl⟩ : ∃ wo : World, wo = wr := ⟨_, rfl⟩
    obtain ⟨k, hk, rfl, hrow, hbel⟩ := hrel
    by_cases hlt : k < V
    · have hcell := hrow.cell hlt
      have hfz := hrow.frozen k
      have sg := hrow.lt
      have hltI : (k : Int) < vars % 9 := by omega
      go_wp2_with fail
      go_roundw
      case rel => exact ⟨k + 1, by omega, by go_num, (hrow.set k _).congr (fun i hi => by
        by_cases e : i = k
        · subst e; simp
        · rw [if_neg e]; congr 1; rw [decide_eq_decide]; omega), hbel.setCell (by simp) _⟩
      case measure => simp [intOf]; omega
    · obtain rfl : k = V := by omega
      have hge : ¬ ((k : Int) < vars % 9) := by omega
      have hrd : Rd wo (some ⟨w.heap.size, 0, none⟩) k (fun i => .bool (decide (i < k))) := Rd.of_row hrow (Nat.le_refl _)
      have HRD := Lib.hid hrd
      clear hrow hrd
      go_wp2_with fail
      refine (allTrue_any (some ⟨w.heap.size, 0, none⟩) A k k n c (fun i => decide (i < k)) Y N _ (H.out.below hbel) HRD.out HN.out (by unfold maxLen; omega)).mono ?_
      rintro e w1 ⟨rfl, hb1⟩
      have B1 := hbel.trans (hb1.mono hbel.size)
      clear hb1
      go_wp2_with fail
      have B2 := B1.alloc B1.size (.cells (madeCells #[.bool false] k) 4)
      refine (allTrue_any (some ⟨w1.heap.size, 0, none⟩) A k k n c (fun _ => false) Y N _ (H.out.below B2) (rd_made w1 k (.bool false) _) HN.out (by unfold maxLen; omega)).mono ?_
      rintro e w2 ⟨rfl, hb2⟩
      have B3 := B2.trans (hb2.mono B2.size)
      clear hb2 B2 B1
      go_wp2_with fail
      refine (allCheck_any (some ⟨w.heap.size, 0, none⟩) A k k n c Y N _ (H.out.below B3) HN.out (by unfold maxLen; omega)).mono ?_
      rintro e w3 ⟨rfl, hb3⟩
      have B4 := B3.trans (hb3.mono B3.size)
      clear hb3 B3
      by_cases he : alE k n Y N = 0
      · rw [he]
        have hw : wrC k 8 n Y N = 0 := by
          unfold alE at he
          by_cases e : 8 < k ∨ 12 < n
          · rw [if_pos e] at he; omega
          · rw [if_neg e] at he; exact he
        have hVV : ∀ j, j < n → varsIn k (Y j) ∧ varsIn k (N j) := fun j hj => by
          have := ((wrC_zero hw).2 j hj).2
          rw [Int.toNat_natCast] at this
          exact this
        have ha : alB (fun i => decide (i < k)) k n Y N = decide (0 < manyC n Y N k) := by
          unfold alB; rw [if_pos he]; exact some_many hVV (fun i hi => by simpa using hi) _
        have hb : alB (fun _ => false) k n Y N = decide (manyC n Y N k = 2 ^ k) := by
          unfold alB; rw [if_pos he]; exact all_many hVV (fun i hi => rfl) _
        have hmn : mnC (k : Int) n Y N = (manyC n Y N k : Nat) := by
          unfold mnC; rw [if_pos hw, Int.toNat_natCast]
        have hwv : wrC (k : Int) 8 n Y N = 0 := hw
        have hpw : wrap64 ((2 : Int) ^ k) = ((2 ^ k : Nat) : Int) := by
          rw [wrap8 V8]; simp
        rw [ha, hb]
        obtain ⟨mn, hmm⟩ : ∃ mn, mn = manyC n Y N k := ⟨_, rfl⟩
        rw [← hmm] at hmn ⊢
        obtain ⟨P, hP⟩ : ∃ P, P = 2 ^ k := ⟨_, rfl⟩
        rw [← hP] at hpw ⊢
        have HPW := Lib.hid hpw
        have HMN := Lib.hid hmn
        have HWV := Lib.hid hwv
        clear ha hb hw hVV hmm hP hmn hwv hpw he
        clear hV
        go_wp2_with fail
        refine (many_any (k : Int) A n c Y N _ (H.out.below B4) HN.out).mono ?_
        rintro e w4 ⟨rfl, hb4⟩
        rw [HMN.out, HWV.out]
        have B5 := B4.trans (hb4.mono B4.size)
        by_cases h0 : 0 < mn
        · have d0 : decide (0 < mn) = true := decide_eq_true h0
          by_cases h1 : mn = P
          · have d1 : decide (mn = P) = true := decide_eq_true h1
            have hq : ((mn : Int) == wrap64 (2 ^ k)) = true := by rw [HPW.out, h1]; exact beq_self_eq_true _
            rw [d0, d1]
            clear d0 d1 h1
            go_wp2_with fail
            go_ret
            exact ⟨rfl, B5⟩
          · have d1 : decide (mn = P) = false := decide_eq_false h1
            have hq : ((mn : Int) == wrap64 (2 ^ k)) = false := by rw [HPW.out, beq_eq_false_iff_ne]; omega
            rw [d0, d1]
            clear d0 d1 h1
            go_wp2_with fail
            go_ret
            exact ⟨rfl, B5⟩
        · obtain rfl : mn = 0 := by omega
          by_cases h1 : 0 = P
          · have d1 : decide (0 = P) = true := decide_eq_true h1
            have hq : ((0 : Int) == wrap64 (2 ^ k)) = true := by rw [HPW.out, ← h1]; rfl
            rw [d1]
            clear d1 h1
            go_wp2_with fail
            go_ret
            exact ⟨rfl, B5⟩
          · have d1 : decide (0 = P) = false := decide_eq_false h1
            have hq : ((0 : Int) == wrap64 (2 ^ k)) = false := by rw [HPW.out, beq_eq_false_iff_ne]; omega
            rw [d1]
            clear d1 h1
            go_wp2_with fail
            go_ret
            exact ⟨rfl, B5⟩
      · have hq : (alE k n Y N != 0) = true := by rw [bne_iff_ne]; exact he
        clear he
        go_wp2_with fail
        go_ret
        exact ⟨rfl, B4⟩
end Go.Proofs.Ytkogobnnimincaa.allMany
