/- HalfWay: a way told leads from one to the other, each next one is a next one, and none comes twice. No condition. -/
import Derived.Test.YtnkgdcaojfoanaaHalfGo
import Derived.Test.YtnkgdcaojfoanaaHeldMore
import Derived.Deep.RegionLaw
namespace Go.Proofs.Ytnkgdcaojfoanaa
open Go.ChangeShapes Go.WideShapes Go.ChangeAt Go.RowKit
set_option linter.unusedVariables false
set_option linter.unusedSimpArgs false
namespace halfWay
set_option maxRecDepth 100000 in
set_option maxHeartbeats 40000000 in
theorem walk (w : World) (A : Option Addr) (n c : Nat) (R : Nat → SI) (x y : Int) (h : Rd w A n (fun i => (R i).val)) (hg : ∀ i, (R i).good w) (hl : n ≤ c) (hm : c ≤ maxLen) (zc : c * 24 ≤ 140737488351232) (wx : (Lit.int .i64 x).wf = true) (wy : (Lit.int .i64 y).wf = true) :
    Calls Try.prog 3 #[.slice A n c, .int .i64 x, .int .i64 y] w fun e w' => e = .returned (.bool true) ∧ Below w.heap.size w w' := by
  have hn : n ≤ maxLen := Nat.le_trans hl hm
  have HN := Lib.hid hn
  have H : Hid (Gr w A n R) := Lib.hid ⟨h, fun i _ => hg i⟩
  clear h hg hl hm zc wx wy
  go_enter Try.func3, Try.ntmps3
  go_wp2_with fail
  refine (way_any A n c R x y w H.out HN.out).mono ?_
  rintro e w1 ⟨hw, hb1⟩
  obtain ⟨W2, hW2⟩ : ∃ W, W = w1.alloc (.cells #[.int .i64 x, .int .i64 y] 3) := ⟨_, rfl⟩
  have hbA : Below w1.heap.size w1 W2 := by rw [hW2]; exact (Below.refl _ _).alloc (Nat.le_refl _) _
  have hb2 := hb1.trans (hbA.mono hb1.size)
  have hr2 : Rd W2 (some ⟨w1.heap.size, 0, none⟩) 2 (fun i => .int .i64 (ftD x y i)) := by rw [hW2]; exact two_ints w1 x y _
  have hnx := nexted_any A n c R (some ⟨w1.heap.size, 0, none⟩) 2 2 (ftD x y) W2 (H.out.below hb2) hr2 HN.out (by omega)
  have HNX := Lib.hid hnx
  have HB2 := Lib.hid hb2
  have HBA := Lib.hid hbA
  have HW2 := Lib.hid hW2
  clear hbA hb2 hr2 hnx hW2 hb1
  rcases hw with ⟨z, hz, hzb, rfl⟩ | ⟨hz, f, t, rfl, rfl, hf, ht, out, hok, hcase⟩
  · have hz0 : (hwE n R 2 (ftD x y) == 0) = false := by rw [hz]; rw [bne_iff_ne] at hzb; rw [beq_eq_false_iff_ne]; exact hzb
    rw [hz0] at HNX
    clear hz hz0
    go_wp2_with fail
    rw [← HW2.out]
    refine HNX.out.mono ?_
    rintro e w3 ⟨rfl, rfl⟩
    go_wp2_with fail
    go_ret
    exact ⟨rfl, HB2.out⟩
  · have hz0 : (hwE n R 2 (ftD (f : Int) (t : Int)) == 0) = true := by rw [hz]; rfl
    rw [hz0] at HNX
    have HZ := Lib.hid hz
    have HOK := Lib.hid hok
    have hnl : n ≤ 8 := (hwE_zero hz).1.2
    clear hz hz0 hok
    rcases hcase with ⟨hneg, rfl⟩ | ⟨d, A1, c1, P, hfd, d8, rfl, hdc, hrd, hpath, hp0, hpd⟩
    · have hft : ((f : Int) != (t : Int)) = true := by
        rw [bne_iff_ne]
        intro e
        have e' : f = t := by omega
        have := HOK.out.self ht
        rw [← e'] at this; omega
      clear hneg
      go_wp2_with fail
      rw [← HW2.out]
      refine HNX.out.mono ?_
      rintro e w3 ⟨rfl, rfl⟩
      go_wp2_with fail
      go_ret
      exact ⟨rfl, HB2.out⟩
    · have hrd2 := hrd.below HBA.out
      obtain ⟨lb, lo, rfl, hlb, hc0⟩ := hrd2.at_ (show 0 < d + 1 by omega)
      obtain ⟨lb', lo', e', _, hcd⟩ := hrd2.at_ (show d < d + 1 by omega)
      cases e'
      rw [hp0, Nat.add_zero] at hc0
      rw [hpd] at hcd
      have HRD := Lib.hid hrd2
      have HPATH := Lib.hid hpath
      have edl : IntKind.i64.wrap ((d : Int) + 1 - 1) = (d : Int) := by rw [show (d : Int) + 1 - 1 = (d : Int) by omega]; exact IntWalk.i64_in _ (by omega)
      have q0 : ((d : Int) + 1 == 0) = false := by rw [beq_eq_false_iff_ne]; omega
      have qf : ((f : Int) != (f : Int)) = false := by simp
      have qt : ((t : Int) != (t : Int)) = false := by simp
      clear hrd hrd2 hpath hp0 hpd hfd
      go_wp2_with fail
      rw [← HW2.out]
      refine HNX.out.mono ?_
      rintro e w3 ⟨rfl, rfl⟩
      clear HW2 HNX
      obtain ⟨w3, hw3⟩ : ∃ W, W = W2 := ⟨_, rfl⟩
      rw [← hw3] at HB2 HBA HRD hc0 hcd hlb ⊢
      clear hw3
      go_wp2_with fail
      clear hc0 hcd
      go_loopw [9] (fun s9 wr => ∃ i : Nat, 1 ≤ i ∧ i ≤ d + 1 ∧ s9 = .int .i64 (i : Nat) ∧ Hid (Below w3.heap.size w3 wr)) (fun s9 _ => d + 1 - (intOf s9).toNat)
      case atStart => exact ⟨1, Nat.le_refl _, by omega, rfl, Lib.hid (Below.refl _ _)⟩
      case round =>
        obtain ⟨wo, rfl⟩ : ∃ wo : World, wo = wr := ⟨_, rfl⟩
        obtain ⟨i, hi1, hid, rfl, HB⟩ := hrel
        by_cases hlt : i < d + 1
        · obtain ⟨p, hp⟩ : ∃ p, p = i - 1 := ⟨_, rfl⟩
          have e1 : (i : Int) - 1 = (p : Int) := by omega
          have e2 : IntKind.i64.wrap ((i : Int) - 1) = (p : Int) := by rw [e1]; exact IntWalk.i64_in _ (by omega)
          have hpl : p < d + 1 := by omega
          have hpl2 : (p : Int) < (d : Int) + 1 := by omega
          have hil2 : (i : Int) < (d : Int) + 1 := by omega
          clear e1
          have hrdo := HRD.out.below HB.out
          obtain ⟨b1, o1, e3, _, hci⟩ := hrdo.at_ hlt
          cases e3
          obtain ⟨b1, o1, e3, _, hcp⟩ := hrdo.at_ (show p < d + 1 by omega)
          cases e3
          have hpi := HPATH.out.1 i (by omega)
          have hpp := HPATH.out.1 p (by omega)
          have hed := HPATH.out.2 p (by omega)
          rw [show p + 1 = i by omega] at hed
          have hdist : ∀ q, q < i → P q ≠ P i := fun q hq e => by
            have h1 := (HPATH.out.1 q (by omega)).2
            rw [e, hpi.2] at h1; omega
          obtain ⟨m, hmm⟩ : ∃ m, m = P i := ⟨_, rfl⟩
          obtain ⟨k, hkk⟩ : ∃ k, k = P p := ⟨_, rfl⟩
          rw [← hmm] at hci hpi hed hdist
          rw [← hkk] at hcp hpp hed
          have hmn : m < n := hpi.1
          have hkn : k < n := hpp.1
          have hkn2 : (k : Int) < (n : Int) := by omega
          have hgr := (H.out.below HB2.out).below HB.out
          obtain ⟨b, off, rfl, hb, hc0⟩ := hgr.1.at_ hkn
          have hgd := hgr.2 k hkn
          have hedI := hed
          unfold edg at hedI
          obtain ⟨yy, hy⟩ : ∃ y, y = R k := ⟨_, rfl⟩
          rw [← hy] at hc0 hgd hedI
          obtain ⟨ya, yn, yc, yf⟩ := yy
          have hcr : wo.cell? ⟨b, off + k, none⟩ = some (.slice ya yn yc) := hc0
          have HRY : Hid (Rd wo ya yn (fun q => .int .i64 (yf q))) := Lib.hid hgd.1
          have HYN : Hid (yn ≤ maxLen) := Lib.hid (Nat.le_trans hgd.2.2.1 hgd.2.2.2)
          have HED : Hid (hasI yf yn (m : Int) = true) := Lib.hid hedI
          have HNO : Hid (hasI (fun q => ((P q : Nat) : Int)) i (m : Int) = false) := Lib.hid (by
            cases e : hasI (fun q => ((P q : Nat) : Int)) i (m : Int)
            · rfl
            · obtain ⟨q, hq, e⟩ := hasI_iff.1 e
              exact absurd (by omega) (hdist q hq))
          have HRI : Hid (Rd wo (some ⟨lb, lo, none⟩) i (fun q => .int .i64 ((P q : Nat) : Int))) := Lib.hid (fun hi0 => by
            obtain ⟨b', o', e', h1, h2⟩ := hrdo (by omega)
            cases e'
            exact ⟨lb, lo, rfl, h1, fun q hq => h2 q (by omega)⟩)
          have hlbo := Nat.lt_of_lt_of_le hlb HB.out.size
          have HCI : Hid (wo.cell? ⟨lb, lo + i, none⟩ = some (.int .i64 (m : Nat))) := Lib.hid hci
          have HCP : Hid (wo.cell? ⟨lb, lo + p, none⟩ = some (.int .i64 (k : Nat))) := Lib.hid hcp
          have HCR := Lib.hid hcr
          have HS0 : Hid ((wo.drew.cell? ⟨lb, lo + i, none⟩ = some (.int .i64 (m : Nat))) ∧ (wo.drew.cell? ⟨lb, lo + p, none⟩ = some (.int .i64 (k : Nat))) ∧ (wo.drew.cell? ⟨b, off + k, none⟩ = some (.slice ya yn yc))) := Lib.hid ⟨hci, hcp, hcr⟩
          have hic : i ≤ c1 := by omega
          have hic2 : (i : Int) ≤ (c1 : Int) := by omega
          clear hci hcp hcr hpi hpp hed hedI hdist hgr hc0 hgd hy hmm hkk hrdo hp
          go_wp2_with fail
          refine wp_region_any (by kernel_rfl) ?_
          change wpAny _ _ _ _ _ _ _ (World.drew _)
          refine any_of_T (S := fun W => (W.cell? ⟨lb, lo + i, none⟩ = some (.int .i64 (m : Nat))) ∧ (W.cell? ⟨lb, lo + p, none⟩ = some (.int .i64 (k : Nat))) ∧ (W.cell? ⟨b, off + k, none⟩ = some (.slice ya yn yc))) (c := 7) _ _ _ _ ?_
          refine anyT_takeY (i := 0) (v := ?_) rfl (by decide +kernel) (by decide +kernel) (by decide +kernel) (by decide +kernel) (fun _ _ _ h => h) (Or.inl ⟨by rfl, ?_⟩) HS0.out ?_
          rotate_left 1
          · intro w _; go_simp; with_reducible rfl
          simp only [Act.put, List.getElem_toArray, List.getElem_cons_zero, List.getElem_cons_succ, List.setIfInBounds_toArray, List.set_cons_zero, List.set_cons_succ]
          refine anyT_takeY (i := 1) (v := ?_) rfl (by decide +kernel) (by decide +kernel) (by decide +kernel) (by decide +kernel) (fun _ _ _ h => h) (Or.inl ⟨by rfl, ?_⟩) HS0.out ?_
          rotate_left 1
          · intro w _; go_simp; with_reducible rfl
          simp only [Act.put, List.getElem_toArray, List.getElem_cons_zero, List.getElem_cons_succ, List.setIfInBounds_toArray, List.set_cons_zero, List.set_cons_succ]
          refine anyT_takeY (i := 2) (v := ?_) rfl (by decide +kernel) (by decide +kernel) (by decide +kernel) (by decide +kernel) (fun _ _ _ h => h) (Or.inl ⟨by rfl, ?_⟩) HS0.out ?_
          rotate_left 1
          · intro w _; go_simp; with_reducible rfl
          simp only [Act.put, List.getElem_toArray, List.getElem_cons_zero, List.getElem_cons_succ, List.setIfInBounds_toArray, List.set_cons_zero, List.set_cons_succ]
          refine anyT_takeY (i := 3) (v := ?_) rfl (by decide +kernel) (by decide +kernel) (by decide +kernel) (by decide +kernel) (fun _ _ _ h => h) (Or.inl ⟨by rfl, ?_⟩) HS0.out ?_
          rotate_left 1
          · intro w _; go_simp; with_reducible rfl
          simp only [Act.put, List.getElem_toArray, List.getElem_cons_zero, List.getElem_cons_succ, List.setIfInBounds_toArray, List.set_cons_zero, List.set_cons_succ]
          refine anyT_takeY (i := 4) (v := ?_) rfl (by decide +kernel) (by decide +kernel) (by decide +kernel) (by decide +kernel) (fun _ _ _ h => h) (Or.inl ⟨by rfl, ?_⟩) HS0.out ?_
          rotate_left 1
          · intro w _; go_simp; with_reducible rfl
          simp only [Act.put, List.getElem_toArray, List.getElem_cons_zero, List.getElem_cons_succ, List.setIfInBounds_toArray, List.set_cons_zero, List.set_cons_succ]
          refine anyT_takeL [6, 7] (i := 5) (v := ?_) rfl (by decide +kernel) (by decide +kernel) (by decide +kernel) (by decide +kernel) (by decide +kernel) (by decide +kernel) (fun _ _ _ h => h) (Or.inl ⟨by rfl, ?_⟩) HS0.out ?_
          rotate_left 1
          · intro w hS; obtain ⟨s0, s1, s2⟩ := hS; go_simp; with_reducible rfl
          simp only [Act.put, List.getElem_toArray, List.getElem_cons_zero, List.getElem_cons_succ, List.setIfInBounds_toArray, List.set_cons_zero, List.set_cons_succ]
          refine anyT_one (i := 6) (by decide +kernel) rfl (fun KK hK => ?_)
          go_simp
          obtain ⟨W6, hW6⟩ : ∃ W, W = (wo.alloc (.cells #[.int .i64 (m : Nat)] 3)).drew := ⟨_, rfl⟩
          have hba : Below wo.heap.size wo W6 := by rw [hW6]; exact ((Below.refl _ _).alloc (Nat.le_refl _) _).drew
          have hr6 : Rd W6 (some ⟨wo.heap.size, 0, none⟩) 1 (fun _ => .int .i64 ((m : Nat) : Int)) := by rw [hW6]; exact (Rd.one wo _ _).drew
          have HR6 := Lib.hid hr6
          have HB6 := Lib.hid (HB.out.trans (hba.mono HB.out.size))
          have HBA6 := Lib.hid hba
          have HS6 : Hid ((W6.cell? ⟨lb, lo + i, none⟩ = some (.int .i64 (m : Nat))) ∧ (W6.cell? ⟨lb, lo + p, none⟩ = some (.int .i64 (k : Nat))) ∧ (W6.cell? ⟨b, off + k, none⟩ = some (.slice ya yn yc))) := Lib.hid ⟨(hba.cell (p := ⟨lb, lo + i, none⟩) hlbo).trans HCI.out, (hba.cell (p := ⟨lb, lo + p, none⟩) hlbo).trans HCP.out, (hba.cell (p := ⟨b, off + k, none⟩) hb).trans HCR.out⟩
          rw [← hW6]
          refine hK.out _ _ (fun _ => HS6.out) ?_
          clear hK KK hr6 hba hW6
          try simp only [Act.put, List.getElem_toArray, List.getElem_cons_zero, List.getElem_cons_succ, List.setIfInBounds_toArray, List.set_cons_zero, List.set_cons_succ]
          refine anyT_one (i := 7) (by decide +kernel) rfl (fun KK hK => ?_)
          go_simp
          have hin := inside_any (n : Int) (some ⟨wo.heap.size, 0, none⟩) 1 1 (fun _ => ((m : Nat) : Int)) W6 HR6.out (by unfold maxLen; omega)
          rw [insB_iff.2 (fun _ _ => by omega)] at hin
          refine hin.mono ?_
          rintro e w7 ⟨rfl, rfl⟩
          try go_simp
          refine hK.out _ _ (fun h => absurd h (by decide +kernel)) ?_
          clear hK KK hin
          try simp only [Act.put, List.getElem_toArray, List.getElem_cons_zero, List.getElem_cons_succ, List.setIfInBounds_toArray, List.set_cons_zero, List.set_cons_succ]
          refine T_of_any _ _ _ _ (by decide +kernel) ?_
          refine any_of_T (S := fun W => (W.cell? ⟨lb, lo + i, none⟩ = some (.int .i64 (m : Nat))) ∧ (W.cell? ⟨lb, lo + p, none⟩ = some (.int .i64 (k : Nat))) ∧ (W.cell? ⟨b, off + k, none⟩ = some (.slice ya yn yc))) (c := 22) _ _ _ _ ?_
          refine anyT_takeY (i := 8) (v := ?_) rfl (by decide +kernel) (by decide +kernel) (by decide +kernel) (by decide +kernel) (fun _ _ _ h => h) (Or.inl ⟨by rfl, ?_⟩) HS6.out ?_
          rotate_left 1
          · intro w _; go_simp; with_reducible rfl
          simp only [Act.put, List.getElem_toArray, List.getElem_cons_zero, List.getElem_cons_succ, List.setIfInBounds_toArray, List.set_cons_zero, List.set_cons_succ]
          refine anyT_takeY (i := 9) (v := ?_) rfl (by decide +kernel) (by decide +kernel) (by decide +kernel) (by decide +kernel) (fun _ _ _ h => h) (Or.inl ⟨by rfl, ?_⟩) HS6.out ?_
          rotate_left 1
          · intro w _; go_simp; with_reducible rfl
          simp only [Act.put, List.getElem_toArray, List.getElem_cons_zero, List.getElem_cons_succ, List.setIfInBounds_toArray, List.set_cons_zero, List.set_cons_succ]
          refine anyT_takeY (i := 10) (v := ?_) rfl (by decide +kernel) (by decide +kernel) (by decide +kernel) (by decide +kernel) (fun _ _ _ h => h) (Or.inl ⟨by rfl, ?_⟩) HS6.out ?_
          rotate_left 1
          · intro w _; go_simp; with_reducible rfl
          simp only [Act.put, List.getElem_toArray, List.getElem_cons_zero, List.getElem_cons_succ, List.setIfInBounds_toArray, List.set_cons_zero, List.set_cons_succ]
          refine anyT_takeY (i := 11) (v := ?_) rfl (by decide +kernel) (by decide +kernel) (by decide +kernel) (by decide +kernel) (fun _ _ _ h => h) (Or.inl ⟨by rfl, ?_⟩) HS6.out ?_
          rotate_left 1
          · intro w _; go_simp; with_reducible rfl
          simp only [Act.put, List.getElem_toArray, List.getElem_cons_zero, List.getElem_cons_succ, List.setIfInBounds_toArray, List.set_cons_zero, List.set_cons_succ]
          refine anyT_takeY (i := 12) (v := ?_) rfl (by decide +kernel) (by decide +kernel) (by decide +kernel) (by decide +kernel) (fun _ _ _ h => h) (Or.inl ⟨by rfl, ?_⟩) HS6.out ?_
          rotate_left 1
          · intro w _; go_simp; with_reducible rfl
          simp only [Act.put, List.getElem_toArray, List.getElem_cons_zero, List.getElem_cons_succ, List.setIfInBounds_toArray, List.set_cons_zero, List.set_cons_succ]
          refine anyT_takeY (i := 13) (v := ?_) rfl (by decide +kernel) (by decide +kernel) (by decide +kernel) (by decide +kernel) (fun _ _ _ h => h) (Or.inl ⟨by rfl, ?_⟩) HS6.out ?_
          rotate_left 1
          · intro w _; go_simp; with_reducible rfl
          simp only [Act.put, List.getElem_toArray, List.getElem_cons_zero, List.getElem_cons_succ, List.setIfInBounds_toArray, List.set_cons_zero, List.set_cons_succ]
          refine anyT_takeY (i := 14) (v := ?_) rfl (by decide +kernel) (by decide +kernel) (by decide +kernel) (by decide +kernel) (fun _ _ _ h => h) (Or.inl ⟨by rfl, ?_⟩) HS6.out ?_
          rotate_left 1
          · intro w _; go_simp; with_reducible rfl
          simp only [Act.put, List.getElem_toArray, List.getElem_cons_zero, List.getElem_cons_succ, List.setIfInBounds_toArray, List.set_cons_zero, List.set_cons_succ]
          refine anyT_takeL [16, 17, 22] (i := 15) (v := ?_) rfl (by decide +kernel) (by decide +kernel) (by decide +kernel) (by decide +kernel) (by decide +kernel) (by decide +kernel) (fun _ _ _ h => h) (Or.inl ⟨by rfl, ?_⟩) HS6.out ?_
          rotate_left 1
          · intro w hS; obtain ⟨s0, s1, s2⟩ := hS; go_simp; with_reducible rfl
          simp only [Act.put, List.getElem_toArray, List.getElem_cons_zero, List.getElem_cons_succ, List.setIfInBounds_toArray, List.set_cons_zero, List.set_cons_succ]
          refine anyT_takeY (i := 16) (v := ?_) rfl (by decide +kernel) (by decide +kernel) (by decide +kernel) (by decide +kernel) (fun _ _ _ h => h) (Or.inl ⟨by rfl, ?_⟩) HS6.out ?_
          rotate_left 1
          · intro w _; go_simp; with_reducible rfl
          simp only [Act.put, List.getElem_toArray, List.getElem_cons_zero, List.getElem_cons_succ, List.setIfInBounds_toArray, List.set_cons_zero, List.set_cons_succ]
          refine anyT_takeL [22] (i := 17) (v := ?_) rfl (by decide +kernel) (by decide +kernel) (by decide +kernel) (by decide +kernel) (by decide +kernel) (by decide +kernel) (fun _ _ _ h => h) (Or.inl ⟨by rfl, ?_⟩) HS6.out ?_
          rotate_left 1
          · intro w hS; obtain ⟨s0, s1, s2⟩ := hS; go_simp; with_reducible rfl
          simp only [Act.put, List.getElem_toArray, List.getElem_cons_zero, List.getElem_cons_succ, List.setIfInBounds_toArray, List.set_cons_zero, List.set_cons_succ]
          refine anyT_takeY (i := 18) (v := ?_) rfl (by decide +kernel) (by decide +kernel) (by decide +kernel) (by decide +kernel) (fun _ _ _ h => h) (Or.inl ⟨by rfl, ?_⟩) HS6.out ?_
          rotate_left 1
          · intro w _; go_simp; with_reducible rfl
          simp only [Act.put, List.getElem_toArray, List.getElem_cons_zero, List.getElem_cons_succ, List.setIfInBounds_toArray, List.set_cons_zero, List.set_cons_succ]
          refine anyT_takeY (i := 19) (v := ?_) rfl (by decide +kernel) (by decide +kernel) (by decide +kernel) (by decide +kernel) (fun _ _ _ h => h) (Or.inl ⟨by rfl, ?_⟩) HS6.out ?_
          rotate_left 1
          · intro w _; go_simp; with_reducible rfl
          simp only [Act.put, List.getElem_toArray, List.getElem_cons_zero, List.getElem_cons_succ, List.setIfInBounds_toArray, List.set_cons_zero, List.set_cons_succ]
          refine anyT_takeY (i := 20) (v := ?_) rfl (by decide +kernel) (by decide +kernel) (by decide +kernel) (by decide +kernel) (fun _ _ _ h => h) (Or.inl ⟨by rfl, ?_⟩) HS6.out ?_
          rotate_left 1
          · intro w _; go_simp; with_reducible rfl
          simp only [Act.put, List.getElem_toArray, List.getElem_cons_zero, List.getElem_cons_succ, List.setIfInBounds_toArray, List.set_cons_zero, List.set_cons_succ]
          refine anyT_takeL [22] (i := 21) (v := ?_) rfl (by decide +kernel) (by decide +kernel) (by decide +kernel) (by decide +kernel) (by decide +kernel) (by decide +kernel) (fun _ _ _ h => h) (Or.inl ⟨by rfl, ?_⟩) HS6.out ?_
          rotate_left 1
          · intro w hS; obtain ⟨s0, s1, s2⟩ := hS; go_simp; with_reducible rfl
          simp only [Act.put, List.getElem_toArray, List.getElem_cons_zero, List.getElem_cons_succ, List.setIfInBounds_toArray, List.set_cons_zero, List.set_cons_succ]
          refine anyT_one (i := 22) (by decide +kernel) rfl (fun KK hK => ?_)
          go_simp
          have hha := refHas_any ya yn yc yf (m : Int) W6 (HRY.out.below HBA6.out) HYN.out
          rw [HED.out] at hha
          refine hha.mono ?_
          rintro e w8 ⟨rfl, rfl⟩
          try go_simp
          refine hK.out _ _ (fun h => absurd h (by decide +kernel)) ?_
          clear hK KK hha
          try simp only [Act.put, List.getElem_toArray, List.getElem_cons_zero, List.getElem_cons_succ, List.setIfInBounds_toArray, List.set_cons_zero, List.set_cons_succ]
          refine T_of_any _ _ _ _ (by decide +kernel) ?_
          refine any_of_T (S := fun W => (W.cell? ⟨lb, lo + i, none⟩ = some (.int .i64 (m : Nat))) ∧ (W.cell? ⟨lb, lo + p, none⟩ = some (.int .i64 (k : Nat))) ∧ (W.cell? ⟨b, off + k, none⟩ = some (.slice ya yn yc))) (c := 33) _ _ _ _ ?_
          refine anyT_takeY (i := 23) (v := ?_) rfl (by decide +kernel) (by decide +kernel) (by decide +kernel) (by decide +kernel) (fun _ _ _ h => h) (Or.inl ⟨by rfl, ?_⟩) HS6.out ?_
          rotate_left 1
          · intro w _; go_simp; with_reducible rfl
          simp only [Act.put, List.getElem_toArray, List.getElem_cons_zero, List.getElem_cons_succ, List.setIfInBounds_toArray, List.set_cons_zero, List.set_cons_succ]
          refine anyT_takeY (i := 24) (v := ?_) rfl (by decide +kernel) (by decide +kernel) (by decide +kernel) (by decide +kernel) (fun _ _ _ h => h) (Or.inl ⟨by rfl, ?_⟩) HS6.out ?_
          rotate_left 1
          · intro w _; go_simp; with_reducible rfl
          simp only [Act.put, List.getElem_toArray, List.getElem_cons_zero, List.getElem_cons_succ, List.setIfInBounds_toArray, List.set_cons_zero, List.set_cons_succ]
          refine anyT_takeY (i := 25) (v := ?_) rfl (by decide +kernel) (by decide +kernel) (by decide +kernel) (by decide +kernel) (fun _ _ _ h => h) (Or.inl ⟨by rfl, ?_⟩) HS6.out ?_
          rotate_left 1
          · intro w _; go_simp; with_reducible rfl
          simp only [Act.put, List.getElem_toArray, List.getElem_cons_zero, List.getElem_cons_succ, List.setIfInBounds_toArray, List.set_cons_zero, List.set_cons_succ]
          refine anyT_takeY (i := 26) (v := ?_) rfl (by decide +kernel) (by decide +kernel) (by decide +kernel) (by decide +kernel) (fun _ _ _ h => h) (Or.inl ⟨by rfl, ?_⟩) HS6.out ?_
          rotate_left 1
          · intro w _; go_simp; with_reducible rfl
          simp only [Act.put, List.getElem_toArray, List.getElem_cons_zero, List.getElem_cons_succ, List.setIfInBounds_toArray, List.set_cons_zero, List.set_cons_succ]
          refine anyT_takeY (i := 27) (v := ?_) rfl (by decide +kernel) (by decide +kernel) (by decide +kernel) (by decide +kernel) (fun _ _ _ h => h) (Or.inl ⟨by rfl, ?_⟩) HS6.out ?_
          rotate_left 1
          · intro w _; go_simp; with_reducible rfl
          simp only [Act.put, List.getElem_toArray, List.getElem_cons_zero, List.getElem_cons_succ, List.setIfInBounds_toArray, List.set_cons_zero, List.set_cons_succ]
          refine anyT_takeY (i := 28) (v := ?_) rfl (by decide +kernel) (by decide +kernel) (by decide +kernel) (by decide +kernel) (fun _ _ _ h => h) (Or.inl ⟨by rfl, ?_⟩) HS6.out ?_
          rotate_left 1
          · intro w _; go_simp; with_reducible rfl
          simp only [Act.put, List.getElem_toArray, List.getElem_cons_zero, List.getElem_cons_succ, List.setIfInBounds_toArray, List.set_cons_zero, List.set_cons_succ]
          refine anyT_takeY (i := 29) (v := ?_) rfl (by decide +kernel) (by decide +kernel) (by decide +kernel) (by decide +kernel) (fun _ _ _ h => h) (Or.inl ⟨by rfl, ?_⟩) HS6.out ?_
          rotate_left 1
          · intro w _; go_simp; with_reducible rfl
          simp only [Act.put, List.getElem_toArray, List.getElem_cons_zero, List.getElem_cons_succ, List.setIfInBounds_toArray, List.set_cons_zero, List.set_cons_succ]
          refine anyT_takeY (i := 30) (v := ?_) rfl (by decide +kernel) (by decide +kernel) (by decide +kernel) (by decide +kernel) (fun _ _ _ h => h) (Or.inl ⟨by rfl, ?_⟩) HS6.out ?_
          rotate_left 1
          · intro w _; go_simp; with_reducible rfl
          simp only [Act.put, List.getElem_toArray, List.getElem_cons_zero, List.getElem_cons_succ, List.setIfInBounds_toArray, List.set_cons_zero, List.set_cons_succ]
          refine anyT_takeY (i := 31) (v := ?_) rfl (by decide +kernel) (by decide +kernel) (by decide +kernel) (by decide +kernel) (fun _ _ _ h => h) (Or.inl ⟨by rfl, ?_⟩) HS6.out ?_
          rotate_left 1
          · intro w _; go_simp; with_reducible rfl
          simp only [Act.put, List.getElem_toArray, List.getElem_cons_zero, List.getElem_cons_succ, List.setIfInBounds_toArray, List.set_cons_zero, List.set_cons_succ]
          refine anyT_takeL [33] (i := 32) (v := ?_) rfl (by decide +kernel) (by decide +kernel) (by decide +kernel) (by decide +kernel) (by decide +kernel) (by decide +kernel) (fun _ _ _ h => h) (Or.inl ⟨by rfl, ?_⟩) HS6.out ?_
          rotate_left 1
          · intro w hS; obtain ⟨s0, s1, s2⟩ := hS; go_simp; with_reducible rfl
          simp only [Act.put, List.getElem_toArray, List.getElem_cons_zero, List.getElem_cons_succ, List.setIfInBounds_toArray, List.set_cons_zero, List.set_cons_succ]
          refine anyT_one (i := 33) (by decide +kernel) rfl (fun KK hK => ?_)
          go_simp
          have hha := refHas_any (some ⟨lb, lo, none⟩) i c1 (fun q => ((P q : Nat) : Int)) (m : Int) W6 (HRI.out.below HBA6.out) (by unfold maxLen; omega)
          rw [HNO.out] at hha
          refine hha.mono ?_
          rintro e w8 ⟨rfl, rfl⟩
          try go_simp
          refine hK.out _ _ (fun h => absurd h (by decide +kernel)) ?_
          clear hK KK hha
          try simp only [Act.put, List.getElem_toArray, List.getElem_cons_zero, List.getElem_cons_succ, List.setIfInBounds_toArray, List.set_cons_zero, List.set_cons_succ]
          refine T_of_any _ _ _ _ (by decide +kernel) ?_
          refine wpAny_take (i := 34) (v := ?_) rfl (by decide +kernel) (by decide +kernel) (by decide +kernel) (fun _ _ _ h => h) (Or.inl ⟨by rfl, ?_⟩) ?_
          rotate_left 1
          · intro w; go_simp; with_reducible rfl
          simp only [Act.put, List.getElem_toArray, List.getElem_cons_zero, List.getElem_cons_succ, List.setIfInBounds_toArray, List.set_cons_zero, List.set_cons_succ]
          refine wpAny_done (by decide +kernel) ?_ _
          go_wp2_with fail
          go_roundw
          case rel => exact ⟨i + 1, by omega, by omega, by go_num, HB6⟩
          case measure => simp [intOf]; omega
        · obtain rfl : i = d + 1 := by omega
          go_wp2_with fail
          go_ret
          exact ⟨rfl, HB2.out.trans (HB.out.mono HB2.out.size)⟩
end halfWay
end Go.Proofs.Ytnkgdcaojfoanaa
