/- The references' CombCheck and the statements' combed. Condition: the list reads as told. -/
import Derived.Test.YtmbemikhbcjfmaaCombChk2
import Derived.BigRegion
namespace Go.Proofs.Ytmbemikhbcjfmaa
open Go.ChangeShapes Go.WideShapes Go.ChangeAt Go.RowKit
set_option linter.unusedVariables false
set_option linter.unusedSimpArgs false
theorem make_intsC (K : Nat) (hK : K ≤ 1000) (W : World) : (Instr.makeSlice 54 (.int .i64 (K : Int)) (.int .i64 (K : Int))).run Try.prog W = .ok (.slice (some ⟨W.heap.size, 0, none⟩) K K) (W.alloc (.cells (madeCells #[.int .i64 0] K) 3)) :=
  run_make_row' 54 3 (.int .i64 0) 8 Try.underlying54 (by kernel_rfl) rfl .i64 .i64 K (by omega) (by omega) W
def zsC (L : Nat → Cb) (i q : Nat) : Value := .int .i64 (if q < i then (clS (dec L q) : Nat) else 0)
theorem zs_set {L : Nat → Cb} {j : Nat} {v : Value} (h : v = .int .i64 (clS (dec L j) : Nat)) (q : Nat) : (if q = j then v else zsC L j q) = zsC L (j + 1) q := by
  unfold zsC
  by_cases e : q = j
  · rw [if_pos e, if_pos (by omega), h, e]
  · rw [if_neg e]
    by_cases l : q < j
    · rw [if_pos l, if_pos (by omega)]
    · rw [if_neg l, if_neg (by omega)]
theorem set_set (f : Nat → Value) (j : Nat) (u v : Value) (q : Nat) : (if q = j then v else if q = j then u else f q) = if q = j then v else f q := by
  by_cases e : q = j
  · simp only [if_pos e]
  · simp only [if_neg e]
theorem ins2 (W : World) (x y : Int) (e : TypeId) : Rd (W.alloc (.cells #[.int .i64 x, .int .i64 y] e)) (some ⟨W.heap.size, 0, none⟩) 2 (fun i => .int .i64 (if i = 0 then x else y)) := by
  refine Rd.of_row (t := e) (n := 2) ?_ (Nat.le_refl _)
  exact World.rowIs_alloc W #[.int .i64 x, .int .i64 y] e _ fun i hi => by
    have : i < 2 := hi
    match i, this with
    | 0, _ => rfl
    | 1, _ => rfl
set_option maxRecDepth 100000 in
set_option maxHeartbeats 4000000 in
theorem rcheck_any (A : Option Addr) (n c : Nat) (L : Nat → Cb) (w : World) (h : Rd w A (n * 4) (lcC L)) (hn : n ≤ maxLen) :
    Calls Try.prog 23 #[.slice A n c] w fun e w' => e = .returned (.int .i64 (ckE L n)) ∧ Below w.heap.size w w' := by
  have hn63 : (n : Int) ≤ 9223372036854775807 := by unfold maxLen at hn; omega
  by_cases hb1 : n < 1 ∨ 40 < n
  · have he : ckE L n = 1 := by unfold ckE; rw [if_pos hb1]
    have hi := within_any 1 (n : Int) 40 w
    rw [inB_no (by omega)] at hi
    have HI := Lib.hid hi
    rw [he]
    clear h he hi
    go_enter Try.func23, Try.ntmps23
    go_wp2_with fail
    refine HI.out.mono ?_
    rintro e w2 ⟨rfl, rfl⟩
    go_wp2_with fail
    go_ret
    exact ⟨rfl, Below.refl _ _⟩
  · have h1 : 1 ≤ n ∧ n ≤ 40 := by omega
    obtain ⟨b, o, rfl, hb, _⟩ := h.at_ (show 0 < n * 4 by omega)
    have H := Lib.hid h
    have hi := within_any 1 (n : Int) 40 w
    rw [inB_yes (by omega) (by omega)] at hi
    have HI := Lib.hid hi
    clear h hb1 hi hn63 hn
    go_enter Try.func23, Try.ntmps23
    go_wp2_with fail
    refine HI.out.mono ?_
    rintro e w2 ⟨rfl, rfl⟩
    go_wp2_with fail
    go_loopw [14] (fun s14 wr => ∃ i : Nat, i ≤ n ∧ s14 = .int .i64 (i : Nat) ∧ Hid (fstE (cC L) i = 0) ∧ Hid (Below w.heap.size w wr)) (fun s14 _ => n - (intOf s14).toNat)
    case atStart => exact ⟨0, Nat.zero_le _, rfl, Lib.hid rfl, Lib.hid (Below.refl _ _)⟩
    case round =>
      obtain ⟨wo, rfl⟩ : ∃ wo : World, wo = wr := ⟨_, rfl⟩
      obtain ⟨i, hi, rfl, HF, HB⟩ := hrel
      by_cases hin : i < n
      · obtain ⟨k0, k1, k2, k3⟩ := lc_at (H.out.below HB.out) hin
        have hbo : b < wo.heap.size := by have := HB.out.size; omega
        have hcE : cC L i = if ¬ (1 ≤ (L i).1 ∧ (L i).1 ≤ 4) then 6 else if (L i).1 = 3 ∧ ¬ (0 ≤ (L i).2.2.2 ∧ (L i).2.2.2 ≤ 1000) then 4 else if (L i).1 = 4 ∧ ¬ ((0 ≤ (L i).2.1 ∧ (L i).2.1 < (i : Int)) ∧ 0 ≤ (L i).2.2.1 ∧ (L i).2.2.1 < (i : Int)) then 2 else 0 := rfl
        obtain ⟨K, hK⟩ : ∃ K, K = (L i).1 := ⟨_, rfl⟩
        obtain ⟨xa, hxa⟩ : ∃ K, K = (L i).2.1 := ⟨_, rfl⟩
        obtain ⟨xb, hxb⟩ : ∃ K, K = (L i).2.2.1 := ⟨_, rfl⟩
        obtain ⟨xv, hxv⟩ : ∃ K, K = (L i).2.2.2 := ⟨_, rfl⟩
        rw [← hK] at k0 hcE
        rw [← hxa] at k1 hcE
        rw [← hxb] at k2 hcE
        rw [← hxv] at k3 hcE
        clear hK hxa hxb hxv
        obtain ⟨Wn, hWn⟩ : ∃ W, W = wo.alloc (.cells #[.int .i64 K, .int .i64 xa, .int .i64 xb, .int .i64 xv] 37) := ⟨_, rfl⟩
        have HBA : Hid (Below w.heap.size w Wn) := Lib.hid (by rw [hWn]; exact HB.out.alloc HB.out.size _)
        have hrec : Wn.rowIs wo.heap.size 37 4 (c1C (K, xa, xb, xv)) := by rw [hWn]; exact row4 wo _ _ _ _ _ _ rfl rfl rfl rfl
        have e0 : Wn.cell? ⟨wo.heap.size, 0, none⟩ = some (.int .i64 K) := hrec.cell (i := 0) (by omega)
        have e1 : Wn.cell? ⟨wo.heap.size, 1, none⟩ = some (.int .i64 xa) := hrec.cell (i := 1) (by omega)
        have e2 : Wn.cell? ⟨wo.heap.size, 2, none⟩ = some (.int .i64 xb) := hrec.cell (i := 2) (by omega)
        have e3 : Wn.cell? ⟨wo.heap.size, 3, none⟩ = some (.int .i64 xv) := hrec.cell (i := 3) (by omega)
        have HWN := Lib.hid hWn
        have hlt := hrec.lt
        clear hWn hrec
        by_cases hk : 1 ≤ K ∧ K ≤ 4
        · rw [if_neg (by omega)] at hcE
          have hw1 := within_any 1 K 4 Wn
          rw [inB_yes hk.1 hk.2] at hw1
          have HW1 := Lib.hid hw1
          clear hw1
          by_cases hk3 : K = 3
          · subst hk3
            by_cases hv : 0 ≤ xv ∧ xv ≤ 1000
            · rw [if_neg (by omega), if_neg (by omega)] at hcE
              have HN := Lib.hid (fstE_next HF.out hcE)
              have hw2 := within_any 0 xv 1000 Wn
              rw [inB_yes hv.1 hv.2] at hw2
              have HW2 := Lib.hid hw2
              clear hcE hw2
              go_wp2_with fail
              rw [← HWN.out]
              refine HW1.out.mono ?_
              rintro e w2 ⟨rfl, rfl⟩
              go_wp2_with fail
              refine HW2.out.mono ?_
              rintro e w2 ⟨rfl, rfl⟩
              go_wp2_with fail
              go_roundw
              case rel => exact ⟨i + 1, by omega, by go_num, HN, HBA⟩
              case measure => simp [intOf]; omega
            · rw [if_pos ⟨rfl, hv⟩] at hcE
              have HE := Lib.hid (ckE_fst h1 HF.out hin hcE (by decide))
              have hw2 := within_any 0 xv 1000 Wn
              rw [inB_no hv] at hw2
              have HW2 := Lib.hid hw2
              clear hcE hw2
              go_wp2_with fail
              rw [← HWN.out]
              refine HW1.out.mono ?_
              rintro e w2 ⟨rfl, rfl⟩
              go_wp2_with fail
              refine HW2.out.mono ?_
              rintro e w2 ⟨rfl, rfl⟩
              go_wp2_with fail
              go_ret
              exact ⟨ret_int HE.out.symm, HBA.out⟩
          · rw [if_neg (by omega)] at hcE
            have q3 : (K == 3) = false := by rw [beq_eq_false_iff_ne]; exact hk3
            by_cases hk4 : K = 4
            · subst hk4
              have hins := inside_any (i : Nat) (some ⟨Wn.heap.size, 0, none⟩) 2 2 (fun i => if i = 0 then xa else xb) (Wn.alloc (.cells #[.int .i64 xa, .int .i64 xb] 3)) (ins2 Wn xa xb _) (by decide)
              by_cases hv : (0 ≤ xa ∧ xa < (i : Int)) ∧ 0 ≤ xb ∧ xb < (i : Int)
              · rw [if_neg (by omega)] at hcE
                have HN := Lib.hid (fstE_next HF.out hcE)
                rw [insB_iff.2 fun j hj => by
                  match j, hj with
                  | 0, _ => exact hv.1
                  | 1, _ => exact hv.2] at hins
                have HINS := Lib.hid hins
                clear hcE hins
                go_wp2_with fail
                rw [← HWN.out]
                refine HW1.out.mono ?_
                rintro e w2 ⟨rfl, rfl⟩
                go_wp2_with fail
                refine HINS.out.mono ?_
                rintro e w2 ⟨rfl, rfl⟩
                go_wp2_with fail
                go_roundw
                case rel => exact ⟨i + 1, by omega, by go_num, HN, Lib.hid (HBA.out.alloc HBA.out.size _)⟩
                case measure => simp [intOf]; omega
              · rw [if_pos ⟨rfl, hv⟩] at hcE
                have HE := Lib.hid (ckE_fst h1 HF.out hin hcE (by decide))
                have hno : insB ((i : Nat) : Int) 2 (fun i => if i = 0 then xa else xb) = false := by
                  by_cases hva : 0 ≤ xa ∧ xa < (i : Int)
                  · exact insB_no (k := 1) (by omega) (fun hh => hv ⟨hva, hh⟩)
                  · exact insB_no (k := 0) (by omega) hva
                rw [hno] at hins
                have HINS := Lib.hid hins
                clear hcE hins hno
                go_wp2_with fail
                rw [← HWN.out]
                refine HW1.out.mono ?_
                rintro e w2 ⟨rfl, rfl⟩
                go_wp2_with fail
                refine HINS.out.mono ?_
                rintro e w2 ⟨rfl, rfl⟩
                go_wp2_with fail
                go_ret
                exact ⟨ret_int HE.out.symm, HBA.out.alloc HBA.out.size _⟩
            · rw [if_neg (by omega)] at hcE
              have q4 : (K == 4) = false := by rw [beq_eq_false_iff_ne]; exact hk4
              have HN := Lib.hid (fstE_next HF.out hcE)
              clear hcE
              go_wp2_with fail
              rw [← HWN.out]
              refine HW1.out.mono ?_
              rintro e w2 ⟨rfl, rfl⟩
              go_wp2_with fail
              go_roundw
              case rel => exact ⟨i + 1, by omega, by go_num, HN, HBA⟩
              case measure => simp [intOf]; omega
        · rw [if_pos hk] at hcE
          have HE := Lib.hid (ckE_fst h1 HF.out hin hcE (by decide))
          have hw1 := within_any 1 K 4 Wn
          rw [inB_no hk] at hw1
          have HW1 := Lib.hid hw1
          clear hcE hw1
          go_wp2_with fail
          rw [← HWN.out]
          refine HW1.out.mono ?_
          rintro e w2 ⟨rfl, rfl⟩
          go_wp2_with fail
          go_ret
          exact ⟨ret_int HE.out.symm, HBA.out⟩
      · obtain rfl : i = n := by omega
        have hmk := make_intsC i (by omega) wo
        have HMK := Lib.hid hmk
        clear hmk
        go_wp2_with fail
        rw [HMK.out]
        obtain ⟨b0, hb0⟩ : ∃ b0, b0 = wo.heap.size := ⟨_, rfl⟩
        obtain ⟨W2, hW2⟩ : ∃ W2, W2 = wo.alloc (.cells (madeCells #[.int .i64 0] i) 3) := ⟨_, rfl⟩
        have hrow0 : W2.rowIs b0 3 i (zsC L 0) := by rw [hb0, hW2]; exact (World.rowIs_made wo (.int .i64 0) i 3).congr fun q hq => by unfold zsC; rw [if_neg (Nat.not_lt_zero _)]
        have hba : Below w.heap.size w W2 := by rw [hW2]; exact HB.out.alloc HB.out.size _
        rw [← hb0, ← hW2]
        have HR0 := Lib.hid hrow0
        have HBA := Lib.hid hba
        have hb0' : w.heap.size ≤ b0 := by have := HB.out.size; omega
        have hbb : b < b0 := by omega
        clear hrow0 hba hW2 hb0 HMK
        go_wp2_with fail
        go_loopw [51] (fun s51 wr => ∃ j : Nat, j ≤ i ∧ s51 = .int .i64 (j : Nat) ∧ Hid (wr.rowIs b0 3 i (zsC L j)) ∧ Hid (Below w.heap.size w wr)) (fun s51 _ => i - (intOf s51).toNat)
        case atStart => exact ⟨0, Nat.zero_le _, rfl, HR0, HBA⟩
        case round =>
          clear HR0 HBA
          obtain ⟨wp, rfl⟩ : ∃ wp : World, wp = wr := ⟨_, rfl⟩
          obtain ⟨j, hj, rfl, HR, HB2⟩ := hrel
          by_cases hjn : j < i
          · obtain ⟨k0, k1, k2, k3⟩ := lc_at (H.out.below HB2.out) hjn
            obtain ⟨v1, v2, v3⟩ := cC_zero (fstE_zero.1 HF.out j hjn)
            have hbo : b < wp.heap.size := by have := HB2.out.size; omega
            have hlt0 := HR.out.lt
            obtain ⟨K, hK⟩ : ∃ K, K = (L j).1 := ⟨_, rfl⟩
            obtain ⟨xa, hxa⟩ : ∃ K, K = (L j).2.1 := ⟨_, rfl⟩
            obtain ⟨xb, hxb⟩ : ∃ K, K = (L j).2.2.1 := ⟨_, rfl⟩
            obtain ⟨xv, hxv⟩ : ∃ K, K = (L j).2.2.2 := ⟨_, rfl⟩
            rw [← hK] at k0 v1 v2 v3
            rw [← hxa] at k1 v3
            rw [← hxb] at k2 v3
            rw [← hxv] at k3 v2
            have HK := Lib.hid hK
            have HXA := Lib.hid hxa
            have HXB := Lib.hid hxb
            clear hK hxa hxb hxv v2
            have hcj : wp.cell? ⟨b0, j, none⟩ = some (.int .i64 0) := by rw [HR.out.cell (i := j) hjn]; unfold zsC; rw [if_neg (by omega)]
            have hfj := HR.out.frozen j
            have HBW : Hid (Below w.heap.size w (wp.alloc (.cells #[.int .i64 K, .int .i64 xa, .int .i64 xb, .int .i64 xv] 37))) := Lib.hid (HB2.out.alloc HB2.out.size _)
            by_cases hk4 : K = 4
            · subst hk4
              obtain ⟨⟨a1, a2⟩, b1, b2⟩ := v3 rfl
              obtain ⟨a, rfl⟩ := Int.eq_ofNat_of_zero_le a1
              obtain ⟨bb, rfl⟩ := Int.eq_ofNat_of_zero_le b1
              obtain ⟨da, db, hde⟩ := dec_ap (fstE_zero.1 HF.out) hjn HK.out.symm HXA.out.symm HXB.out.symm
              have hca : wp.cell? ⟨b0, a, none⟩ = some (.int .i64 (clS (dec L a) : Nat)) := by rw [HR.out.cell (i := a) (by omega)]; unfold zsC; rw [if_pos da]
              have hcb : wp.cell? ⟨b0, bb, none⟩ = some (.int .i64 (clS (dec L bb) : Nat)) := by rw [HR.out.cell (i := bb) (by omega)]; unfold zsC; rw [if_pos db]
              have hcl : clS (dec L j) = min (1 + clS (dec L a) + clS (dec L bb)) 301 := by rw [hde, clS_ap]
              have p1 := clS_pos (dec L a)
              have p2 := clS_pos (dec L bb)
              obtain ⟨sa, hsa⟩ : ∃ s, s = clS (dec L a) := ⟨_, rfl⟩
              obtain ⟨sb, hsb⟩ : ∃ s, s = clS (dec L bb) := ⟨_, rfl⟩
              rw [← hsa] at hca hcl p1
              rw [← hsb] at hcb hcl p2
              have hna : a ≠ j := by omega
              have hnb : bb ≠ j := by omega
              clear hde hsa hsb v1 v3
              by_cases hbig : 300 < 1 + sa + sb
              · have HCL : Hid (clS (dec L j) = 301) := Lib.hid (by omega)
                clear hcl
                go_wp2_with fail
                go_region
                go_wp2_with fail
                go_roundw
                case rel => exact ⟨j + 1, by omega, by go_num, Lib.hid ((((((HR.out.set j _).set j _).set j _).congr fun q _ => by rw [set_set, set_set]; exact zs_set (by rw [HCL.out]; rfl) q).alloc _).drew), Lib.hid ((((((HB2.out.setCell hb0' _).setCell hb0' _).setCell hb0' _).alloc (((HB2.out.setCell hb0' _).setCell hb0' _).setCell hb0' _).size _)).drew)⟩
                case measure => simp [intOf]; omega
              · have HCL : Hid (clS (dec L j) = 1 + sa + sb) := Lib.hid (by omega)
                clear hcl
                go_wp2_with fail
                go_region
                go_wp2_with fail
                go_roundw
                case rel => exact ⟨j + 1, by omega, by go_num, Lib.hid (((((HR.out.set j _).set j _).congr fun q _ => by rw [set_set]; exact zs_set (by rw [HCL.out]; simp) q).alloc _).drew), Lib.hid (((((HB2.out.setCell hb0' _).setCell hb0' _).alloc ((HB2.out.setCell hb0' _).setCell hb0' _).size _)).drew)⟩
                case measure => simp [intOf]; omega
            · have q4 : (K == 4) = false := by rw [beq_eq_false_iff_ne]; exact hk4
              have HONE : Hid (clS (dec L j) = 1) := Lib.hid (by rw [dec_lf (by rw [← HK.out]; exact hk4), clS_lf])
              clear v1 v3
              go_wp2_with fail
              go_roundw
              case rel => exact ⟨j + 1, by omega, by go_num, Lib.hid (((HR.out.set j _).congr fun q _ => zs_set (by rw [HONE.out]; rfl) q).alloc _), Lib.hid ((HB2.out.setCell hb0' _).alloc (HB2.out.setCell hb0' _).size _)⟩
              case measure => simp [intOf]; omega
          · obtain rfl : j = i := by omega
            obtain ⟨l, rfl⟩ : ∃ l, j = l + 1 := ⟨j - 1, by omega⟩
            have hck : ckE L (l + 1) = if 300 < (dec L l).sz then 1 else 0 := by
              unfold ckE
              rw [if_neg (by omega), if_neg (by rw [HF.out]; exact fun h => h rfl)]; rfl
            have HCK := Lib.hid hck
            have hc : wp.cell? ⟨b0, l, none⟩ = some (.int .i64 (clS (dec L l) : Nat)) := by rw [HR.out.cell (i := l) (by omega)]; unfold zsC; rw [if_pos (by omega)]
            have hcs : clS (dec L l) = min (dec L l).sz 301 := rfl
            obtain ⟨z, hz⟩ : ∃ z, z = clS (dec L l) := ⟨_, rfl⟩
            rw [← hz] at hc hcs
            have hz301 : z ≤ 301 := by omega
            clear hz hck
            by_cases hbig : 300 < (dec L l).sz
            · have hz1 : 300 < z := by omega
              have HE : Hid (ckE L (l + 1) = 1) := Lib.hid (by rw [HCK.out, if_pos hbig])
              clear hcs hbig
              go_wp2_with fail
              go_ret
              exact ⟨ret_int HE.out.symm, HB2.out⟩
            · have hz1 : z ≤ 300 := by omega
              have HE : Hid (ckE L (l + 1) = 0) := Lib.hid (by rw [HCK.out, if_neg hbig])
              clear hcs hbig
              go_wp2_with fail
              go_ret
              exact ⟨ret_int HE.out.symm, HB2.out⟩
end Go.Proofs.Ytmbemikhbcjfmaa
