/- HardSum: some weights make the total just if the clauses can be true. No condition. -/
import Derived.Test.YtkedkgmcdhmjiaaHardWts
import Derived.Test.YtkedkgmcdhmjiaaHardFind
import Derived.Laws.EntriesVeiled
namespace Go.Proofs.Ytkedkgmcdhmjiaa
open Go.ChangeShapes Go.WideShapes Go.ChangeAt Go.RowKit
set_option linter.unusedVariables false
set_option linter.unusedSimpArgs false
set_option maxRecDepth 100000 in
theorem sumP_any (a : Nat) (h : a ≤ 1000000000) (w : World) : Calls Try.prog 31 #[.int .i64 (a : Nat)] w fun e w' => e = .returned (.bool false) ∧ w = w' := by
  go_enter Try.func31, Try.ntmps31
  go_wp2_with fail
  go_ret
  refine ⟨?_, rfl⟩
  show Ending.returned (.bool (decide ((a : Int) < 0) || decide (1000000000 < (a : Int)))) = _
  rw [decide_eq_false (by omega), decide_eq_false (by omega)]; rfl
set_option maxRecDepth 100000 in
set_option maxHeartbeats 1000000 in
theorem Sum_any (J : Nat) (hJ : J ≤ 16) (A : Option Addr) (c : Nat) (Wt : Nat → Nat) (hW : ∀ j, j < J → Wt j ≤ 1000000000) (total : Nat) (ht : total ≤ 1000000000000) (w : World) (h : Rd w A J (fun j => .int .i64 ((Wt j : Nat) : Int))) :
    Calls Try.prog 11 #[.slice A J c, .int .i64 (total : Nat)] w fun e w' => ((SSum Wt J 0 total ∧ ∃ v, e = .returned (.tuple #[v, .int .i64 0])) ∨ (¬ SSum Wt J 0 total ∧ e = .returned (.tuple #[.slice none 0 0, .int .i64 5]))) ∧ Below w.heap.size w w' := by
  have HW := Lib.hid hW
  have H := Lib.hid h
  clear hW h
  go_enter Try.func11, Try.ntmps11
  obtain ⟨x, hx⟩ : ∃ x, x = w.heap.size := ⟨_, rfl⟩
  obtain ⟨W1, hW1⟩ : ∃ W, W = w.alloc (.cells #[.slice A J c] 23) := ⟨_, rfl⟩
  have hb1 : Below w.heap.size w W1 := by rw [hW1]; exact (Below.refl _ _).alloc (Nat.le_refl _) _
  have hs1 : W1.heap.size = x + 1 := by rw [hW1, hx]; simp
  have hc1 : W1.cell? ⟨x, 0, none⟩ = some (.slice A J c) := by rw [hW1, hx]; simp
  have HX := Lib.hid hx
  have HW1 := Lib.hid hW1
  have HB1 := Lib.hid hb1
  have HS1 := Lib.hid hs1
  have HC1 := Lib.hid hc1
  clear hx hW1 hb1 hs1 hc1
  go_wp2_with fail
  have hcp := containsP_any 31 #[] A J c (fun j => ((Wt j : Nat) : Int)) (fun _ => false) W1 (H.out.below HB1.out) (by unfold maxLen; omega) (fun _ _ => rfl) (fun i hi => sumP_any (Wt i) (HW.out i hi) W1)
  rw [HW1.out] at hcp
  refine hcp.mono ?_
  rintro e w2 ⟨rfl, rfl⟩
  rw [anyB_no (fun _ _ => rfl)]
  clear hcp
  go_wp2_with fail
  obtain ⟨W2, hW2⟩ : ∃ W, W = (w.alloc (.cells #[.slice A J c] 23)).alloc (.cells #[.func (.func 32) #[] #[.pointer (some ⟨w.heap.size, 0, none⟩), .pointer (some ⟨w.heap.size + 1, 0, none⟩)]] 56) := ⟨_, rfl⟩
  have hb2 : Below w.heap.size w W2 := by rw [hW2]; exact ((Below.refl _ _).alloc (Nat.le_refl _) _).alloc (by simp) _
  have hbx : Bx2 W2 w.heap.size (w.heap.size + 1) A J c := by
    rw [hW2]
    have hr1 := World.rowIs_alloc w #[.slice A J c] 23 (fun _ => .slice A J c) (fun i hi => by
      have : i = 0 := by simp at hi; omega
      subst this; rfl)
    have hq := (hr1.alloc (.cells #[.func (.func 32) #[] #[.pointer (some ⟨w.heap.size, 0, none⟩), .pointer (some ⟨w.heap.size + 1, 0, none⟩)]] 56)).cell (i := 0) (by simp)
    refine ⟨⟨hq, by simp; omega⟩, ?_, by simp⟩
    simp
  have h2 := H.out.below hb2
  rw [← hW2]
  have HB2 := Lib.hid hb2
  have HBX := Lib.hid hbx
  have H2 := Lib.hid h2
  clear hb2 hbx h2 hW2
  refine (find_any J hJ A c Wt HW.out w.heap.size (w.heap.size + 1) J 0 total 0 0 none (fun _ => .int .i64 0) W2 (by omega) (Nat.zero_le _) ht (Nat.le_refl _) (Nat.le_refl _) (Nat.zero_le _) (fun _ => ⟨rfl, rfl⟩) HBX.out H2.out (Rd.zero _ _ _)).mono ?_
  rintro e w3 ⟨hs, hb3⟩
  have HB3 := Lib.hid (HB2.out.trans (hb3.mono HB2.out.size))
  clear hb3
  rcases hs with ⟨hf, v, rfl⟩ | ⟨hf, v, rfl⟩
  · have HF := Lib.hid hf
    clear hf
    go_wp2_with fail
    go_ret2
    exact ⟨.inl ⟨HF.out, v, rfl⟩, HB3.out⟩
  · have HF := Lib.hid hf
    clear hf
    go_wp2_with fail
    go_ret2
    exact ⟨.inr ⟨HF.out, rfl⟩, HB3.out⟩
set_option maxRecDepth 100000 in
set_option maxHeartbeats 1000000 in
theorem weights_no (vars : Int) (A : Option Addr) (n c : Nat) (Y N : Nat → SI) (w : World) (h : Cls w A n Y N) (hn : n ≤ maxLen) (hz : hdE vars n Y N ≠ 0) :
    Calls Try.prog 9 #[.int .i64 vars, .slice A n c] w fun e w' => e = .returned (.tuple #[.slice none 0 0, .int .i64 0, .int .i64 (hdE vars n Y N)]) ∧ Below w.heap.size w w' := by
  have H := Lib.hid h
  have HN := Lib.hid hn
  obtain ⟨x, hx⟩ : ∃ x, x = hdE vars n Y N := ⟨_, rfl⟩
  rw [← hx] at hz ⊢
  have hxb : (x != 0) = true := by rw [bne_iff_ne]; exact hz
  have HX := Lib.hid hx
  clear h hn hz hx
  go_enter Try.func9, Try.ntmps9
  go_wp2_with fail
  refine (hwrong_any vars A n c Y N w H.out HN.out).mono ?_
  rintro e w1 ⟨rfl, hb1⟩
  rw [← HX.out]
  have HB1 := Lib.hid hb1
  clear hb1
  go_wp2_with fail
  go_ret3
  exact ⟨rfl, HB1.out⟩
set_option maxRecDepth 100000 in
set_option maxHeartbeats 1000000 in
theorem weights_long (V : Nat) (A : Option Addr) (n c : Nat) (Y N : Nat → SI) (w : World) (h : Cls w A n Y N) (hn : n ≤ maxLen) (hz : hdE (V : Int) n Y N = 0) (h5 : 5 < V + n) :
    Calls Try.prog 9 #[.int .i64 (V : Nat), .slice A n c] w fun e w' => e = .returned (.tuple #[.slice none 0 0, .int .i64 0, .int .i64 1]) ∧ Below w.heap.size w w' := by
  have H := Lib.hid h
  have HN := Lib.hid hn
  have HZ := Lib.hid hz
  obtain ⟨⟨_, v8, n12⟩, _⟩ := hdE_zero hz
  clear h hn hz
  go_enter Try.func9, Try.ntmps9
  go_wp2_with fail
  refine (hwrong_any (V : Int) A n c Y N w H.out HN.out).mono ?_
  rintro e w1 ⟨rfl, hb1⟩
  rw [HZ.out]
  have HB1 := Lib.hid hb1
  clear hb1
  go_wp2_with fail
  go_ret3
  exact ⟨rfl, HB1.out⟩
namespace hardSum
set_option maxRecDepth 100000 in
set_option maxHeartbeats 1000000 in
theorem walk (w : World) (vars : Int) (A : Option Addr) (n c : Nat) (Y N : Nat → SI) (wv : (Lit.int .i64 vars).wf = true) (h : Rd w A (n * 2) (clC Y N)) (hg : ∀ i, (Y i).good w ∧ (N i).good w) (hl : n ≤ c) (hm : c ≤ maxLen) (zc : c * 48 ≤ 140737488351232) :
    Calls Try.prog 4 #[.int .i64 vars, .slice A n c] w fun e w' => e = .returned (.bool true) ∧ Below w.heap.size w w' := by
  have HN := Lib.hid (Nat.le_trans hl hm)
  have H : Hid (Cls w A n Y N) := Lib.hid ⟨h, fun k _ => hg k⟩
  clear h hg hl hm zc wv
  by_cases hz : hdE vars n Y N = 0
  · obtain ⟨⟨v0, v8, n12⟩, _⟩ := hdE_zero hz
    obtain ⟨V, rfl⟩ : ∃ V : Nat, vars = V := Int.eq_ofNat_of_zero_le v0
    have HZ := Lib.hid hz
    clear hz
    by_cases h5 : V + n ≤ 5
    · have hcan := sum_can HZ.out
      have hmc := many_can HZ.out
      have hn0 := mn_nonneg (V : Int) n Y N
      obtain ⟨k, hk⟩ : ∃ k, k = mnC (V : Int) n Y N := ⟨_, rfl⟩
      rw [← hk] at hmc hn0
      have hiff : SSum (wgt Y N V n) (2 * (V + n)) 0 (totW V n) ↔ 0 < k := ssum_zero.trans (hcan.trans hmc.symm)
      have HIFF := Lib.hid hiff
      have HK := Lib.hid hk
      have HT : Hid (totW V n ≤ 100000) := Lib.hid (totP_le (V := V) h5)
      have HWL : Hid (∀ j, j < 2 * (V + n) → wgt Y N V n j ≤ 1000000000) := Lib.hid (fun j _ => Nat.le_trans (w5_le h5) (by omega))
      obtain ⟨J, hJ⟩ : ∃ J, J = 2 * (V + n) := ⟨_, rfl⟩
      obtain ⟨T, hT⟩ : ∃ T, T = totW V n := ⟨_, rfl⟩
      have hw := weights_any V A n c Y N w H.out HN.out HZ.out h5
      rw [← hJ, ← hT] at hw
      rw [← hJ] at HWL
      rw [← hT] at HT
      rw [← hJ, ← hT] at HIFF
      have HWT := Lib.hid hw
      have hJ10 : J ≤ 10 := by omega
      clear hcan hmc hk hiff hJ hT hw
      go_enter Try.func4, Try.ntmps4
      go_wp2_with fail
      refine HWT.out.mono ?_
      rintro e w1 ⟨A1, c1, rfl, hr1, hb1⟩
      have H1 := Lib.hid (H.out.below hb1)
      have HR1 := Lib.hid hr1
      have HB1 := Lib.hid hb1
      clear hr1 hb1 HWT
      go_wp2_with fail
      refine (many_any (V : Int) A n c Y N w1 H1.out HN.out).mono ?_
      rintro e w2 ⟨rfl, hb2⟩
      rw [← HK.out, hd_wr HZ.out]
      have HR2 := Lib.hid (HR1.out.below hb2)
      have HB2 := Lib.hid (HB1.out.trans (hb2.mono HB1.out.size))
      clear hb2
      go_wp2_with fail
      refine (Sum_any J (by omega) A1 c1 (wgt Y N V n) HWL.out T (by have := HT.out; omega) w2 HR2.out).mono ?_
      rintro e w3 ⟨hs, hb3⟩
      have HB3 := Lib.hid (HB2.out.trans (hb3.mono HB2.out.size))
      clear hb3
      rcases hs with ⟨hf, v, rfl⟩ | ⟨hf, rfl⟩
      · have hk0 : 0 < k := HIFF.out.1 hf
        clear hf
        go_wp2_with fail
        go_ret
        exact ⟨rfl, HB3.out⟩
      · have hk0 : k = 0 := by
          have : ¬ 0 < k := fun h => hf (HIFF.out.2 h)
          omega
        subst hk0
        clear hf
        go_wp2_with fail
        go_ret
        exact ⟨rfl, HB3.out⟩
    · go_enter Try.func4, Try.ntmps4
      go_wp2_with fail
      refine (weights_long V A n c Y N w H.out HN.out HZ.out (by omega)).mono ?_
      rintro e w1 ⟨rfl, hb1⟩
      have HB1 := Lib.hid hb1
      clear hb1
      go_wp2_with fail
      go_ret
      exact ⟨rfl, HB1.out⟩
  · obtain ⟨x, hx⟩ : ∃ x, x = hdE vars n Y N := ⟨_, rfl⟩
    have hw := weights_no vars A n c Y N w H.out HN.out hz
    rw [← hx] at hz hw
    have hxb : (x != 0) = true := by rw [bne_iff_ne]; exact hz
    have HWT := Lib.hid hw
    clear hz hx hw
    go_enter Try.func4, Try.ntmps4
    go_wp2_with fail
    refine HWT.out.mono ?_
    rintro e w1 ⟨rfl, hb1⟩
    have HB1 := Lib.hid hb1
    clear hb1
    go_wp2_with fail
    go_ret
    exact ⟨rfl, HB1.out⟩
end hardSum
end Go.Proofs.Ytkedkgmcdhmjiaa
