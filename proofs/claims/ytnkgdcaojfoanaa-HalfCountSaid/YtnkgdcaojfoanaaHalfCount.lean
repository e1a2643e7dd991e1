/- HalfCount: the counts grow till they stay, at as many as can be come to; one that is not among these can never be come to. No condition. -/
import Derived.Test.YtnkgdcaojfoanaaHalfNev
import Derived.BigQuiet
namespace Go.Proofs.Ytnkgdcaojfoanaa
open Go.ChangeShapes Go.WideShapes Go.ChangeAt Go.RowKit
set_option linter.unusedVariables false
set_option linter.unusedSimpArgs false
theorem hwE_one {n : Nat} {R : Nat → SI} {x y : Int} (h : hwE n R 2 (ftD x y) = 0) : hwE n R 1 (fun _ => x) = 0 := by
  obtain ⟨h1, h2, h3, h4⟩ := hwE_zero h
  unfold hwE
  have e1 : anyB (lnH R) n = false := anyB_no fun i hi => decide_eq_false (by have := h2 i hi; omega)
  have e2 : anyB (fun i => rowH n (R i)) n = false := anyB_no fun i hi => anyB_no fun q hq => decide_eq_false (by have := h3 i hi q hq; omega)
  have e3 : anyB (fun _ => outH n x) 1 = false := anyB_no fun q _ => decide_eq_false (by have := h4 0 (by omega); unfold ftD at this; rw [if_pos rfl] at this; omega)
  rw [e1, e2, e3, if_neg (by simp; omega), if_neg (by simp)]
theorem cnW_zero {R : Nat → SI} {n f : Nat} (hf : f < n) : cnW R n f 0 = 1 := by
  show cntN (fun j => f == j) n = 1
  rw [cntN_one, if_pos hf]
theorem cnW_last {R : Nat → SI} {n f : Nat} (hf : f < n) : cnW R n f (n - 1) = cntN (fun j => wy R n n f j) n :=
  cntN_congr fun j hj => ((wy_from (R := R) hf).all n (by omega) j hj).symm
theorem cnW_up {R : Nat → SI} {n f k : Nat} (hf : f < n) : cnW R n f k ≤ cnW R n f (k + 1) := ((wy_from (R := R) hf).cnt k).1
theorem cnW_stay {R : Nat → SI} {n f k : Nat} (hf : f < n) (h : cnW R n f k = cnW R n f (k + 1)) : cnW R n f (k + 2) = cnW R n f (k + 1) := (wy_from (R := R) hf).law k h
theorem cnW_le (R : Nat → SI) (n f k : Nat) : cnW R n f k ≤ n := cntN_le _ n
namespace halfCount
set_option maxRecDepth 100000 in
set_option maxHeartbeats 4000000 in
theorem walk (w : World) (A : Option Addr) (n c : Nat) (R : Nat → SI) (x y : Int) (h : Rd w A n (fun i => (R i).val)) (hg : ∀ i, (R i).good w) (hl : n ≤ c) (hm : c ≤ maxLen) (zc : c * 24 ≤ 140737488351232) (wx : (Lit.int .i64 x).wf = true) (wy' : (Lit.int .i64 y).wf = true) :
    Calls Try.prog 4 #[.slice A n c, .int .i64 x, .int .i64 y] w fun e w' => e = .returned (.bool true) ∧ Below w.heap.size w w' := by
  have hn : n ≤ maxLen := Nat.le_trans hl hm
  have HN := Lib.hid hn
  have H : Hid (Gr w A n R) := Lib.hid ⟨h, fun i _ => hg i⟩
  clear h hg hl hm zc wx wy'
  go_enter Try.func4, Try.ntmps4
  go_wp2_with fail
  refine (counts_any A n c R x w H.out HN.out).mono ?_
  rintro e w1 ⟨hcn, hb1⟩
  have HB1 := Lib.hid hb1
  clear hb1
  by_cases hz : hwE n R 2 (ftD x y) = 0
  · have hz1 := hwE_one hz
    rcases hcn with ⟨z, hz', hzb, rfl⟩ | ⟨_, f, rfl, hf, A1, c1, rfl, hrd⟩
    · rw [hz1] at hz'
      subst hz'
      cases hzb
    have HRD := Lib.hid hrd
    clear hrd hz1
    go_wp2_with fail
    refine (never_any A n c R (f : Int) y w1 (H.out.below HB1.out) HN.out).mono ?_
    rintro e w2 ⟨hnv, hb2⟩
    have HRD2 := Lib.hid (HRD.out.below hb2)
    have HB2 := Lib.hid (HB1.out.trans (hb2.mono HB1.out.size))
    clear hb2 HRD
    rcases hnv with ⟨z, hz', hzb, rfl⟩ | ⟨_, f', t, hff, rfl, _, ht, m, A2, c2, L, rfl, hrl, hL⟩
    · rw [hz] at hz'
      subst hz'
      cases hzb
    obtain rfl : f' = f := by omega
    obtain ⟨W3, hW3⟩ : ∃ W, W = w2.alloc (.cells #[.int .i64 (f' : Int), .int .i64 (t : Int)] 3) := ⟨_, rfl⟩
    have hbA : Below w2.heap.size w2 W3 := by rw [hW3]; exact (Below.refl _ _).alloc (Nat.le_refl _) _
    have hb3 := HB2.out.trans (hbA.mono HB2.out.size)
    have hr3 : Rd W3 (some ⟨w2.heap.size, 0, none⟩) 2 (fun i => .int .i64 (ftD (f' : Int) (t : Int) i)) := by rw [hW3]; exact two_ints w2 _ _ _
    have hnx := nexted_any A n c R (some ⟨w2.heap.size, 0, none⟩) 2 2 (ftD (f' : Int) (t : Int)) W3 (H.out.below hb3) hr3 HN.out (by omega)
    have hz0 : (hwE n R 2 (ftD (f' : Int) (t : Int)) == 0) = true := by rw [hz]; rfl
    rw [hz0] at hnx
    have HNX := Lib.hid hnx
    have HB3 := Lib.hid hb3
    have HW3 := Lib.hid hW3
    have hrd3 := HRD2.out.below hbA
    have hrl3 := hrl.below hbA
    obtain ⟨⟨n1, n8⟩, _⟩ := hwE_zero hz
    obtain ⟨cb, co, rfl, hcb, hc0⟩ := hrd3.at_ (show 0 < n by omega)
    obtain ⟨cb', co', e', _, hcl⟩ := hrd3.at_ (show n - 1 < n by omega)
    cases e'
    have hmle : m ≤ n := by rw [hL.1]; exact cntN_le _ _
    have hml : cnW R n f' (n - 1) = m := (cnW_last hf).trans hL.1.symm
    rw [cnW_zero hf, Nat.add_zero] at hc0
    rw [hml] at hcl
    have hc0' : W3.cell? ⟨cb, co, none⟩ = some (.int .i64 1) := hc0
    obtain ⟨n', hn'⟩ : ∃ n', n' = n - 1 := ⟨_, rfl⟩
    rw [← hn'] at hcl
    have en : IntKind.i64.wrap ((n : Int) - 1) = (n' : Int) := by rw [show (n : Int) - 1 = (n' : Int) by omega]; exact IntWalk.i64_in _ (by omega)
    have hnl : (n' : Int) < (n : Int) := by omega
    have qn : ((n : Int) != (n : Int)) = false := by simp
    have qm : ((m : Int) != (m : Int)) = false := by simp
    have HRD3 := Lib.hid hrd3
    have HRL3 := Lib.hid hrl3
    have HLL := Lib.hid hL
    obtain ⟨hv, hhv⟩ : ∃ b, b = hasI (fun q => ((L q : Nat) : Int)) m (t : Int) := ⟨_, rfl⟩
    rw [← hhv]
    have HHV := Lib.hid hhv
    clear hbA hb3 hr3 hnx hW3 hz0 hz hrd3 hrl3 hL hhv hrl hc0 HRD2 hml hn' hff
    go_wp2_with fail
    rw [← HW3.out]
    refine HNX.out.mono ?_
    rintro e w4 ⟨rfl, rfl⟩
    clear HW3 HNX
    obtain ⟨w3, hw3⟩ : ∃ W, W = W3 := ⟨_, rfl⟩
    rw [← hw3] at HB3 HRD3 HRL3 hcb hc0' hcl ⊢
    clear hw3
    go_wp2_with fail
    clear hc0' hcl
    go_loopw [12] (fun s12 wr => ∃ i : Nat, 1 ≤ i ∧ i ≤ n ∧ s12 = .int .i64 (i : Nat) ∧ Hid (Below w3.heap.size w3 wr)) (fun s12 _ => n - (intOf s12).toNat)
    case atStart => exact ⟨1, Nat.le_refl _, n1, rfl, Lib.hid (Below.refl _ _)⟩
    case round =>
      obtain ⟨wo, rfl⟩ : ∃ wo : World, wo = wr := ⟨_, rfl⟩
      obtain ⟨i, hi1, hin, rfl, HB⟩ := hrel
      by_cases hlt : i < n
      · obtain ⟨p, hp⟩ : ∃ p, p = i - 1 := ⟨_, rfl⟩
        have e1 : IntKind.i64.wrap ((i : Int) - 1) = (p : Int) := by rw [show (i : Int) - 1 = (p : Int) by omega]; exact IntWalk.i64_in _ (by omega)
        have hpl : (p : Int) < (n : Int) := by omega
        have hrdo := HRD3.out.below HB.out
        obtain ⟨b1, o1, e3, _, hci⟩ := hrdo.at_ hlt
        cases e3
        obtain ⟨b1, o1, e3, _, hcp⟩ := hrdo.at_ (show p < n by omega)
        cases e3
        have hup := cnW_up (R := R) (n := n) (k := p) hf
        rw [show p + 1 = i by omega] at hup
        obtain ⟨a, ha⟩ : ∃ a : Int, a = ((cnW R n f' i : Nat) : Int) := ⟨_, rfl⟩
        obtain ⟨b, hb⟩ : ∃ b : Int, b = ((cnW R n f' p : Nat) : Int) := ⟨_, rfl⟩
        rw [← ha] at hci
        rw [← hb] at hcp
        have q1 : decide (a < b) = false := decide_eq_false (by omega)
        by_cases hi2 : 1 < i
        · have q2 : decide (1 < (i : Int)) = true := decide_eq_true (by omega)
          obtain ⟨r, hr⟩ : ∃ r, r = i - 2 := ⟨_, rfl⟩
          have e2 : IntKind.i64.wrap ((i : Int) - 2) = (r : Int) := by rw [show (i : Int) - 2 = (r : Int) by omega]; exact IntWalk.i64_in _ (by omega)
          have hrl : (r : Int) < (n : Int) := by omega
          obtain ⟨b1, o1, e3, _, hcr⟩ := hrdo.at_ (show r < n by omega)
          cases e3
          have hst := cnW_stay (R := R) (n := n) (k := r) hf
          rw [show r + 1 = p by omega, show r + 2 = i by omega] at hst
          obtain ⟨d, hd⟩ : ∃ d : Int, d = ((cnW R n f' r : Nat) : Int) := ⟨_, rfl⟩
          rw [← hd] at hcr
          have hst : b = d → a = b := fun e => by have := hst (by omega); omega
          clear hup ha hb hd hp hr hrdo
          by_cases hbd : b = d
          · obtain rfl : a = b := hst hbd
            subst hbd
            have q3 : (a == a) = true := by simp
            have q4 : (a != a) = false := by simp
            clear hst
            go_wp2_with fail
            go_quiet (fail)
            go_wp2_with fail
            go_roundw
            case rel => exact ⟨i + 1, by omega, by omega, by go_num, Lib.hid (below_drewN HB.out _)⟩
            case measure => simp [intOf]; omega
          · have q3 : (b == d) = false := by rw [beq_eq_false_iff_ne]; exact hbd
            clear hst
            go_wp2_with fail
            go_quiet (fail)
            go_wp2_with fail
            go_roundw
            case rel => exact ⟨i + 1, by omega, by omega, by go_num, Lib.hid (below_drewN HB.out _)⟩
            case measure => simp [intOf]; omega
        · have q2 : decide (1 < (i : Int)) = false := decide_eq_false (by omega)
          clear hup ha hb hp hrdo
          go_wp2_with fail
          go_quiet (fail)
          go_wp2_with fail
          go_roundw
          case rel => exact ⟨i + 1, by omega, by omega, by go_num, Lib.hid (below_drewN HB.out _)⟩
          case measure => simp [intOf]; omega
      · obtain rfl : i = n := by omega
        have hh1 := refHas_any A2 m c2 (fun q => ((L q : Nat) : Int)) (t : Int) wo (HRL3.out.below HB.out) (by unfold maxLen; omega)
        have hh2 := refHas_any A2 m c2 (fun q => ((L q : Nat) : Int)) (f' : Int) wo (HRL3.out.below HB.out) (by unfold maxLen; omega)
        rw [← HHV.out] at hh1
        rw [(HLL.out.2 (f' : Int)).2 ⟨f', hf, rfl, wy_mono (Nat.zero_le _) (by simp [wy])⟩] at hh2
        have HH1 := Lib.hid hh1
        have HH2 := Lib.hid hh2
        have HBF := Lib.hid (HB3.out.trans (HB.out.mono HB3.out.size))
        clear hh1 hh2
        cases hv
        · go_wp2_with fail
          refine HH1.out.mono ?_
          rintro e w5 ⟨rfl, rfl⟩
          go_wp2_with fail
          refine HH2.out.mono ?_
          rintro e w5 ⟨rfl, rfl⟩
          go_wp2_with fail
          go_ret
          exact ⟨rfl, HBF.out⟩
        · go_wp2_with fail
          refine HH1.out.mono ?_
          rintro e w5 ⟨rfl, rfl⟩
          go_wp2_with fail
          refine HH2.out.mono ?_
          rintro e w5 ⟨rfl, rfl⟩
          go_wp2_with fail
          go_ret
          exact ⟨rfl, HBF.out⟩
  · obtain ⟨v1, v2, rfl⟩ : ∃ v1 v2, e = .returned (.tuple #[v1, v2]) := by
      rcases hcn with ⟨z2, _, _, rfl⟩ | ⟨_, f, _, _, A1, c1, rfl, _⟩
      · exact ⟨_, _, rfl⟩
      · exact ⟨_, _, rfl⟩
    clear hcn
    go_wp2_with fail
    refine (never_any A n c R x y w1 (H.out.below HB1.out) HN.out).mono ?_
    rintro e w2 ⟨hnv, hb2⟩
    have HB2 := Lib.hid (HB1.out.trans (hb2.mono HB1.out.size))
    clear hb2
    rcases hnv with ⟨z, hz', hzb, rfl⟩ | ⟨hz', _⟩
    · obtain ⟨W3, hW3⟩ : ∃ W, W = w2.alloc (.cells #[.int .i64 x, .int .i64 y] 3) := ⟨_, rfl⟩
      have hbA : Below w2.heap.size w2 W3 := by rw [hW3]; exact (Below.refl _ _).alloc (Nat.le_refl _) _
      have hb3 := HB2.out.trans (hbA.mono HB2.out.size)
      have hr3 : Rd W3 (some ⟨w2.heap.size, 0, none⟩) 2 (fun i => .int .i64 (ftD x y i)) := by rw [hW3]; exact two_ints w2 x y _
      have hnx := nexted_any A n c R (some ⟨w2.heap.size, 0, none⟩) 2 2 (ftD x y) W3 (H.out.below hb3) hr3 HN.out (by omega)
      have hz0 : (hwE n R 2 (ftD x y) == 0) = false := by rw [beq_eq_false_iff_ne]; exact hz
      rw [hz0] at hnx
      have HNX := Lib.hid hnx
      have HB3 := Lib.hid hb3
      have HW3 := Lib.hid hW3
      clear hbA hb3 hr3 hnx hW3 hz0 hz hz'
      go_wp2_with fail
      rw [← HW3.out]
      refine HNX.out.mono ?_
      rintro e w4 ⟨rfl, rfl⟩
      go_wp2_with fail
      go_ret
      exact ⟨rfl, HB3.out⟩
    · exact absurd hz' hz
end halfCount
end Go.Proofs.Ytnkgdcaojfoanaa
