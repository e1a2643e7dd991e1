/- The references' Read and Combs. Conditions: the list may be; the lists read as told. -/
import Derived.Test.YtmbemikhbcjfmaaCombDec
import Derived.Deep.DeepCutAuto
import Derived.BigQuiet
namespace Go.Proofs.Ytmbemikhbcjfmaa
open Go.ChangeShapes Go.WideShapes Go.ChangeAt Go.RowKit
set_option linter.unusedVariables false
set_option linter.unusedSimpArgs false
set_option maxRecDepth 100000 in
set_option maxHeartbeats 4000000 in
theorem rread_any (A : Option Addr) (n c : Nat) (L : Nat → Cb) (hok : OkC L n) : ∀ g i (w : World), i < g → i < n → n ≤ 1000 → Rd w A (n * 4) (lcC L) →
    Calls Try.prog 10 #[.slice A n c, .int .i64 (i : Nat)] w fun e w' => (∃ q, e = .returned (.pointer (some ⟨q, 0, none⟩)) ∧ TAt 43 w' (dec L i) q) ∧ Below w.heap.size w w'
  | 0, i, w, h, _, _, _ => absurd h (Nat.not_lt_zero _)
  | g + 1, i, w, hig, hin, hn, h => by
    obtain ⟨b, o, rfl, hb, _⟩ := h.at_ (show 0 < n * 4 by omega)
    obtain ⟨k0, k1, k2, k3⟩ := lc_at h hin
    obtain ⟨v1, v2, v3⟩ := cC_zero (hok i hin)
    obtain ⟨K, hK⟩ : ∃ K, K = (L i).1 := ⟨_, rfl⟩
    obtain ⟨xa, hxa⟩ : ∃ K, K = (L i).2.1 := ⟨_, rfl⟩
    obtain ⟨xb, hxb⟩ : ∃ K, K = (L i).2.2.1 := ⟨_, rfl⟩
    obtain ⟨xv, hxv⟩ : ∃ K, K = (L i).2.2.2 := ⟨_, rfl⟩
    rw [← hK] at k0 v1 v2 v3
    rw [← hxa] at k1 v3
    rw [← hxb] at k2 v3
    rw [← hxv] at k3 v2
    have hbe := (Below.refl w.heap.size w).alloc (Nat.le_refl _) (.cells #[.int .i64 K, .int .i64 xa, .int .i64 xb, .int .i64 xv] 37)
    by_cases hk4 : K = 4
    · subst hk4
      obtain ⟨⟨a1, a2⟩, b1, b2⟩ := v3 rfl
      obtain ⟨a, rfl⟩ := Int.eq_ofNat_of_zero_le a1
      obtain ⟨bb, rfl⟩ := Int.eq_ofNat_of_zero_le b1
      obtain ⟨da, db, hde⟩ := dec_ap hok hin hK.symm hxa.symm hxb.symm
      rw [hde]
      have HA := Lib.hid (fun X (hX : Below w.heap.size w X) => rread_any (some ⟨b, o, none⟩) n c L hok g a X (by omega) (by omega) hn (h.below hX))
      have HBB := Lib.hid (fun X (hX : Below w.heap.size w X) => rread_any (some ⟨b, o, none⟩) n c L hok g bb X (by omega) (by omega) hn (h.below hX))
      obtain ⟨R, hR⟩ : ∃ R, R = w.heap.size := ⟨_, rfl⟩
      have hrec : (w.alloc (.cells #[.int .i64 4, .int .i64 (a : Nat), .int .i64 (bb : Nat), .int .i64 xv] 37)).rowIs w.heap.size 37 4 (c1C (4, (a : Nat), (bb : Nat), xv)) := row4 w _ _ _ _ _ _ rfl rfl rfl rfl
      have hcl : ∀ X : World, Below (w.alloc (.cells #[.int .i64 4, .int .i64 (a : Nat), .int .i64 (bb : Nat), .int .i64 xv] 37)).heap.size (w.alloc (.cells #[.int .i64 4, .int .i64 (a : Nat), .int .i64 (bb : Nat), .int .i64 xv] 37)) X → X.cell? ⟨w.heap.size, 0, none⟩ = some (.int .i64 4) ∧ X.cell? ⟨w.heap.size, 1, none⟩ = some (.int .i64 (a : Nat)) ∧ X.cell? ⟨w.heap.size, 2, none⟩ = some (.int .i64 (bb : Nat)) := fun X hX => by
        have hx := row_below hrec hX hrec.lt
        exact ⟨hx.cell (i := 0) (by omega), hx.cell (i := 1) (by omega), hx.cell (i := 2) (by omega)⟩
      have HCL := Lib.hid hcl
      obtain ⟨W1, hW1⟩ : ∃ W, W = w.alloc (.cells #[.int .i64 4, .int .i64 (a : Nat), .int .i64 (bb : Nat), .int .i64 xv] 37) := ⟨_, rfl⟩
      rw [← hW1] at HCL hbe
      have HW1 := Lib.hid hW1
      have HBE := Lib.hid hbe
      clear h hok hde v1 v2 v3 hK hxa hxb hxv hrec hcl hW1 hbe hR
      go_enter Try.func10, Try.ntmps10
      go_upto_region 3 with fail
      rw [← HW1.out]
      have hr1 := Below.refl W1.heap.size W1
      have hr1d := (Below.refl W1.heap.size W1).drew
      obtain ⟨d0, d1, d2⟩ := HCL.out _ hr1
      go_region_held3 (fun X => X.cell? ⟨w.heap.size, 0, none⟩ = some (.int .i64 4) ∧ X.cell? ⟨w.heap.size, 1, none⟩ = some (.int .i64 (a : Nat)) ∧ X.cell? ⟨w.heap.size, 2, none⟩ = some (.int .i64 (bb : Nat))) (first | exact cs5 | exact cs4 | go_keep) (first
        | (go_at_call 10; (with_reducible refine (HBB.out _ (HBE.out.trans (hbe4.mono HBE.out.size))).mono ?_); rintro e w5 ⟨⟨p5, rfl, ht5⟩, hb5⟩; have hbe5 := hbe4.trans (hb5.mono hbe4.size); have cs5 := HCL.out _ hbe5)
        | (go_at_call 10; (with_reducible refine (HA.out _ (HBE.out.trans (hr1.mono HBE.out.size))).mono ?_); rintro e w4 ⟨⟨p4, rfl, ht4⟩, hb4⟩; have hbe4 := hr1.trans (hb4.mono hr1.size); have cs4 := HCL.out _ hbe4)
        | (go_at_call 10; (with_reducible refine (HA.out _ (HBE.out.trans (hr1d.mono HBE.out.size))).mono ?_); rintro e w4 ⟨⟨p4, rfl, ht4⟩, hb4⟩; have hbe4 := hr1d.trans (hb4.mono hr1d.size); have cs4 := HCL.out _ hbe4))
      all_goals
        go_wp2_with fail
        go_ret
        have hfin := ((Below.refl w5.heap.size w5).alloc (Nat.le_refl _) (.cells #[.int .i64 4, .int .i64 0, .pointer (some ⟨p4, 0, none⟩), .pointer (some ⟨p5, 0, none⟩)] 43))
        exact ⟨⟨w5.heap.size, rfl, p4, p5, row4 w5 _ _ _ _ _ (ndC 4 0 (ptrV p4) (ptrV p5)) rfl rfl rfl rfl, (ht4.below hb5).below hfin, ht5.below hfin⟩, (HBE.out.trans (hbe5.mono HBE.out.size)).alloc (HBE.out.trans (hbe5.mono HBE.out.size)).size _⟩
    · have q4 : (K == 4) = false := by rw [beq_eq_false_iff_ne]; exact hk4
      rw [dec_lf (by rw [← hK]; exact hk4), ← hK]
      by_cases hk3 : K = 3
      · subst hk3
        rw [if_pos rfl, ← hxv]
        clear h hok v1 v2 v3 hK hxa hxb hxv
        go_enter Try.func10, Try.ntmps10
        go_wp2_with fail
        go_ret
        refine ⟨⟨_, rfl, by decide, by decide, by decide, ?_⟩, hbe.alloc (by simp) _⟩
        rw [show w.heap.size + 1 = (w.alloc (.cells #[.int .i64 3, .int .i64 xa, .int .i64 xb, .int .i64 xv] 37)).heap.size by simp]
        exact row4 _ _ _ _ _ _ (ndC 3 xv (.pointer none) (.pointer none)) rfl rfl rfl rfl
      · have q3 : (K == 3) = false := by rw [beq_eq_false_iff_ne]; exact hk3
        rw [if_neg hk3]
        have hk13 : 1 ≤ K ∧ K ≤ 3 := by omega
        clear h hok v1 v2 v3 hK hxa hxb hxv
        go_enter Try.func10, Try.ntmps10
        go_wp2_with fail
        go_ret
        refine ⟨⟨_, rfl, hk4, hk13.1, hk13.2, ?_⟩, hbe.alloc (by simp) _⟩
        rw [show w.heap.size + 1 = (w.alloc (.cells #[.int .i64 K, .int .i64 xa, .int .i64 xb, .int .i64 xv] 37)).heap.size by simp]
        exact row4 _ _ _ _ _ _ (ndC K 0 (.pointer none) (.pointer none)) rfl rfl rfl rfl
set_option maxRecDepth 100000 in
set_option maxHeartbeats 2000000 in
theorem combs_same (A B : Option Addr) (n c d : Nat) (L : Nat → Cb) (w : World) (h : Rd w A (n * 4) (lcC L)) (h' : Rd w B (n * 4) (lcC L)) (hn : n ≤ 1000) :
    Calls Try.prog 14 #[.slice A n c, .slice B n d] w fun e w' => e = .returned (.bool true) ∧ ∃ m, w' = w.drewN m := by
  have H := Lib.hid h
  have H' := Lib.hid h'
  have qn : ((n : Int) != (n : Int)) = false := by simp
  clear h h'
  go_enter Try.func14, Try.ntmps14
  go_wp2_with fail
  go_loopw [5] (fun s5 wr => ∃ i m : Nat, i ≤ n ∧ s5 = .int .i64 (i : Nat) ∧ wr = w.drewN m) (fun s5 _ => n - (intOf s5).toNat)
  case atStart => exact ⟨0, 0, Nat.zero_le _, rfl, rfl⟩
  case round =>
    obtain ⟨i, m, hi, rfl, rfl⟩ := hrel
    by_cases hin : i < n
    · obtain ⟨b, o, rfl, hb, _⟩ := H.out.at_ (show 0 < n * 4 by omega)
      obtain ⟨b', o', rfl, hb', _⟩ := H'.out.at_ (show 0 < n * 4 by omega)
      obtain ⟨k0, k1, k2, k3⟩ := lc_at H.out hin
      obtain ⟨k0', k1', k2', k3'⟩ := lc_at H'.out hin
      obtain ⟨x0, hx0⟩ : ∃ K, K = (L i).1 := ⟨_, rfl⟩
      obtain ⟨x1, hx1⟩ : ∃ K, K = (L i).2.1 := ⟨_, rfl⟩
      obtain ⟨x2, hx2⟩ : ∃ K, K = (L i).2.2.1 := ⟨_, rfl⟩
      obtain ⟨x3, hx3⟩ : ∃ K, K = (L i).2.2.2 := ⟨_, rfl⟩
      rw [← hx0] at k0 k0'
      rw [← hx1] at k1 k1'
      rw [← hx2] at k2 k2'
      rw [← hx3] at k3 k3'
      clear hx0 hx1 hx2 hx3
      go_wp2_with fail
      go_quiet (fail)
      go_wp2_with fail
      go_roundw
      case rel => exact ⟨i + 1, _, by omega, by go_num, rfl⟩
      case measure => simp [intOf]; omega
    · obtain rfl : i = n := by omega
      go_wp2_with fail
      go_ret
      exact ⟨rfl, _, rfl⟩
end Go.Proofs.Ytmbemikhbcjfmaa
