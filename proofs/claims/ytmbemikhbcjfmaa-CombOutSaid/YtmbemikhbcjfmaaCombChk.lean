/- comb's sizes and Check. Condition: the list reads as told. -/
import Derived.Test.YtmbemikhbcjfmaaCombDec
import Derived.Test.YtmbemikhbcjfmaaInside
import Derived.OwnWalk
import Derived.BigRegion
import Derived.Deep.DeepCutAuto
namespace Go.Proofs.Ytmbemikhbcjfmaa
open Go.ChangeShapes Go.WideShapes Go.ChangeAt Go.RowKit
set_option linter.unusedVariables false
set_option linter.unusedSimpArgs false
theorem EIc : Elem Try.prog 54 3 1 8 := Elem.of Try.underlying54 (by kernel_rfl : (Try.prog.info? 3).map (fun i => (i.zero, i.size, i.bytes)) = some (some (.int .i64 0), 1, 8)) rfl (by omega)
theorem clS_pos (t : Tm) : 1 ≤ clS t ∧ clS t ≤ 301 := by have := t.sz_pos; unfold clS; omega
theorem clS_lf (k v : Int) : clS (.lf k v) = 1 := rfl
set_option maxRecDepth 100000 in
set_option maxHeartbeats 4000000 in
theorem sizes_any (A : Option Addr) (n c : Nat) (L : Nat → Cb) (w : World) (h : Rd w A (n * 4) (lcC L)) (hok : OkC L n) (hn : 1 ≤ n ∧ n ≤ 1000) :
    Calls Try.prog 29 #[.slice A n c] w fun e w' => (∃ (A' : Option Addr) (c' : Nat), e = .returned (.slice A' n c') ∧ Rd w' A' n (fun q => .int .i64 (clS (dec L q) : Nat))) ∧ Below w.heap.size w w' := by
  obtain ⟨b, o, rfl, hb, _⟩ := h.at_ (show 0 < n * 4 by omega)
  have H := Lib.hid h
  have HOK := Lib.hid hok
  clear h hok
  go_enter Try.func29, Try.ntmps29
  go_wp2_with fail
  go_loopw [3, 9] (fun s3 s9 wr => ∃ (i : Nat) (A : Option Addr) (c : Nat), i ≤ n ∧ s9 = .int .i64 (i : Nat) ∧ s3 = .slice A i c ∧ Hid (Own wr w.heap.size 3 1 A i c i (fun q => .int .i64 (clS (dec L q) : Nat))) ∧ Hid (Below w.heap.size w wr)) (fun _ s9 _ => n - (intOf s9).toNat)
  case atStart => exact ⟨0, none, 0, Nat.zero_le _, rfl, rfl, Lib.hid (Own.nil _ _ _ _ _), Lib.hid (Below.refl _ _)⟩
  case round =>
    obtain ⟨wo, rfl⟩ : ∃ wo : World, wo = wr := ⟨_, rfl⟩
    obtain ⟨i, A, c2, hi, rfl, rfl, HO, HB⟩ := hrel
    by_cases hin : i < n
    · obtain ⟨k0, k1, k2, k3⟩ := lc_at (H.out.below HB.out) hin
      obtain ⟨v1, v2, v3⟩ := cC_zero (HOK.out i hin)
      have hbo : b < wo.heap.size := by have := HB.out.size; omega
      have hws := HB.out.size
      obtain ⟨K, hK⟩ : ∃ K, K = (L i).1 := ⟨_, rfl⟩
      obtain ⟨xa, hxa⟩ : ∃ K, K = (L i).2.1 := ⟨_, rfl⟩
      obtain ⟨xb, hxb⟩ : ∃ K, K = (L i).2.2.1 := ⟨_, rfl⟩
      obtain ⟨xv, hxv⟩ : ∃ K, K = (L i).2.2.2 := ⟨_, rfl⟩
      rw [← hK] at k0 v1 v2 v3
      rw [← hxa] at k1 v3
      rw [← hxb] at k2 v3
      rw [← hxv] at k3 v2
      have HK := Lib.hid hK
      have HXA := Lib.hid hxa
      have HXB := Lib.hid hxb
      clear hK hxa hxb hxv v2
      by_cases hk4 : K = 4
      · subst hk4
        obtain ⟨⟨a1, a2⟩, b1, b2⟩ := v3 rfl
        obtain ⟨a, rfl⟩ := Int.eq_ofNat_of_zero_le a1
        obtain ⟨bb, rfl⟩ := Int.eq_ofNat_of_zero_le b1
        obtain ⟨da, db, hde⟩ := dec_ap HOK.out hin HK.out.symm HXA.out.symm HXB.out.symm
        obtain ⟨G, o2, rfl, hG, hca⟩ := HO.out.rd.at_ (show a < i by omega)
        have hcb : wo.cell? ⟨G, o2 + bb, none⟩ = some (.int .i64 (clS (dec L bb) : Nat)) := by
          obtain ⟨G', o', e, _, hc⟩ := HO.out.rd.at_ (show bb < i by omega)
          cases e; exact hc
        have hcl : clS (dec L i) = min (1 + clS (dec L a) + clS (dec L bb)) 301 := by rw [hde, clS_ap]
        have p1 := clS_pos (dec L a)
        have p2 := clS_pos (dec L bb)
        obtain ⟨sa, hsa⟩ : ∃ s, s = clS (dec L a) := ⟨_, rfl⟩
        obtain ⟨sb, hsb⟩ : ∃ s, s = clS (dec L bb) := ⟨_, rfl⟩
        rw [← hsa] at hca hcl p1
        rw [← hsb] at hcb hcl p2
        obtain ⟨si, hsi⟩ : ∃ s, s = min (1 + sa + sb) 301 := ⟨_, rfl⟩
        rw [← hsi] at hcl
        have hmi : (if 1 + (sa : Int) + (sb : Int) < 301 then 1 + (sa : Int) + (sb : Int) else 301) = (si : Int) := by split <;> omega
        have hmi3 : (if 301 < 1 + (sa : Int) + (sb : Int) then (301 : Int) else 1 + (sa : Int) + (sb : Int)) = ((si : Nat) : Int) := by split <;> omega
        have hmi2 : min (1 + (sa : Int) + (sb : Int)) 301 = (si : Int) := by omega
        have HCL := Lib.hid hcl
        clear hde hsa hsb hcl hsi v1 v3
        go_upto_region 7 with fail
        go_region
        obtain ⟨Wn, hWn⟩ : ∃ W, W = (wo.alloc (.cells #[.int .i64 4, .int .i64 (a : Nat), .int .i64 (bb : Nat), .int .i64 xv] 37)).drew := ⟨_, rfl⟩
        rw [← hWn]
        have hbn : Below wo.heap.size wo Wn := by rw [hWn]; exact ((Below.refl _ _).alloc (Nat.le_refl _) _).drew
        have HON := Lib.hid (HO.out.below hbn)
        have HBW := Lib.hid (HB.out.trans (hbn.mono hws))
        have hwn := HBW.out.size
        clear hWn hbn
        go_wp2_with (at_builtin; refine wpList_app _ rfl (.tmp 29) (.tmp 31) 54 rfl EIc rfl (HON.out.alloc _) rfl (l := 1) (by omega) (Rd.one _ (.int .i64 (si : Nat)) _) (fun _ _ => rfl) (by unfold maxLen; omega) (by omega) (by simp; omega) (i + 1) (i + 1) rfl rfl ?_; intro A2 ac2 w3 hown2 hg2 hat2 hbl2; have HOW := Lib.hid hown2; have HB3 := Lib.hid ((HBW.out.alloc HBW.out.size (.cells #[.int .i64 (si : Nat)] 3)).trans hbl2); clear hown2 hg2 hat2 hbl2)
        go_roundw
        case rel => exact ⟨i + 1, A2, ac2, by omega, by go_num, rfl, Lib.hid (HOW.out.congr fun q hq => by
          rcases Nat.lt_or_ge q i with e | e
          · rw [cat_lt e]
          · rw [cat_ge e, show q = i by omega, HCL.out]; try rfl), HB3⟩
        case measure => simp [intOf]; omega
      · have q4 : (K == 4) = false := by rw [beq_eq_false_iff_ne]; exact hk4
        have hone : clS (dec L i) = 1 := by rw [dec_lf (by rw [← HK.out]; exact hk4), clS_lf]
        have HONE := Lib.hid hone
        clear v1 v3 hone
        go_upto_region 8 with fail
        obtain ⟨Wn, hWn⟩ : ∃ W, W = wo.alloc (.cells #[.int .i64 K, .int .i64 xa, .int .i64 xb, .int .i64 xv] 37) := ⟨_, rfl⟩
        rw [← hWn]
        have hbn : Below wo.heap.size wo Wn := by rw [hWn]; exact (Below.refl _ _).alloc (Nat.le_refl _) _
        have HON := Lib.hid (HO.out.below hbn)
        have HBW := Lib.hid (HB.out.trans (hbn.mono hws))
        have hwn := HBW.out.size
        clear hWn hbn
        go_wp2_with (at_builtin; refine wpList_app _ rfl (.tmp 29) (.tmp 31) 54 rfl EIc rfl (HON.out.alloc _) rfl (l := 1) (by omega) (Rd.one _ (.int .i64 1) _) (fun _ _ => rfl) (by unfold maxLen; omega) (by omega) (by simp; omega) (i + 1) (i + 1) rfl rfl ?_; intro A2 ac2 w3 hown2 hg2 hat2 hbl2; have HOW := Lib.hid hown2; have HB3 := Lib.hid ((HBW.out.alloc HBW.out.size (.cells #[.int .i64 1] 3)).trans hbl2); clear hown2 hg2 hat2 hbl2)
        go_roundw
        case rel => exact ⟨i + 1, A2, ac2, by omega, by go_num, rfl, Lib.hid (HOW.out.congr fun q hq => by
          rcases Nat.lt_or_ge q i with e | e
          · rw [cat_lt e]
          · rw [cat_ge e, show q = i by omega, HONE.out]; try rfl), HB3⟩
        case measure => simp [intOf]; omega
    · obtain rfl : i = n := by omega
      go_wp2_with fail
      go_ret
      exact ⟨⟨A, c2, rfl, HO.out.rd⟩, HB.out⟩
end Go.Proofs.Ytmbemikhbcjfmaa
