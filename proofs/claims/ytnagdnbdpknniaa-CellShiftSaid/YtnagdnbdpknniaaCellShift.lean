/- A step commutes with turning a ring round, and with taking it twice. No condition. -/
import Derived.Test.YtnagdnbdpknniaaCellStep
import Derived.Test.YtnagdnbdpknniaaCellShiftMath
import Derived.Deep.RegionWith
import Derived.Deep.RegionLaw
namespace Go.Proofs.Ytnagdnbdpknniaa.cellShift
open RingM Go.ChangeShapes Go.WideShapes Go.ChangeAt Go.RowKit
set_option linter.unusedVariables false
theorem rot_cat (n p : Nat) (f : Nat → Bool) (X : Nat → Value) (i : Nat) (hi : i < n) : cat (n - p) (cat 0 X fun i => .bool (f (p + i))) (fun i => .bool (f i)) i = .bool (rot n p f i) := by
  unfold cat rot
  by_cases h : i < n - p
  · rw [if_pos h, if_pos h, if_neg (by omega)]; rfl
  · rw [if_neg h, if_neg h]
theorem st_rot (r : Int) {n p : Nat} (f : Nat → Bool) (n1 : 1 ≤ n) (hp : p < n) {i : Nat} (hi : i < n) : st r n (rot n p f) i = rot n p (st r n f) i := by
  have m1 : (i + n - 1) % n < n := Nat.mod_lt _ (by omega)
  have m2 : (i + 1) % n < n := Nat.mod_lt _ (by omega)
  rw [rot_eq hp hi]
  unfold st
  rw [rot_eq hp m1, rot_eq hp hi, rot_eq hp m2]
  have e1 : ((i + n - 1) % n + p) % n = ((i + p) % n + n - 1) % n := by
    rw [show i + n - 1 = i + (n - 1) by omega, show (i + p) % n + n - 1 = (i + p) % n + (n - 1) by omega]
    exact shift_mod hp
  have e2 : ((i + 1) % n + p) % n = ((i + p) % n + 1) % n := shift_mod hp
  rw [e1, e2]
theorem st_dbl (r : Int) {n : Nat} (f : Nat → Bool) (n1 : 1 ≤ n) {i : Nat} (hi : i < 2 * n) : st r (2 * n) (dbl n f) i = dbl n (st r n f) i := by
  have m1 : (i + 2 * n - 1) % (2 * n) < 2 * n := Nat.mod_lt _ (by omega)
  have m2 : (i + 1) % (2 * n) < 2 * n := Nat.mod_lt _ (by omega)
  rw [dbl_eq hi]
  unfold st
  rw [dbl_eq m1, dbl_eq hi, dbl_eq m2, mod_two, mod_two]
  have e1 : (i + 2 * n - 1) % n = (i % n + n - 1) % n := by
    rw [show i + 2 * n - 1 = i + (n - 1) + n by omega, Nat.add_mod_right, show i % n + n - 1 = i % n + (n - 1) by omega, Nat.mod_add_mod]
  have e2 : (i + 1) % n = (i % n + 1) % n := by rw [Nat.mod_add_mod]
  rw [e1, e2]
theorem dbl_cat (n : Nat) (f : Nat → Bool) (X : Nat → Value) (i : Nat) : cat n (cat 0 X fun i => .bool (f i)) (fun i => .bool (f i)) i = .bool (dbl n f i) := by
  unfold cat dbl
  by_cases h : i < n
  · rw [if_pos h, if_pos h, if_neg (by omega)]; rfl
  · rw [if_neg h, if_neg h]
set_option maxRecDepth 100000 in
theorem walk (w : World) (r : Int) (A : Option Addr) (n c : Nat) (f : Nat → Bool) (k : Int) (wr : (Lit.int .i64 r).wf = true) (h : Rd w A n (fun i => .bool (f i))) (hl : n ≤ c) (hm : c ≤ maxLen) (z : c * 1 ≤ 140737488351232) (wk : (Lit.int .u8 k).wf = true) :
    Calls Try.prog 3 #[.int .i64 r, .slice A n c, .int .u8 k] w fun e w' => e = .returned (.bool true) ∧ Below w.heap.size w w' := by
  have hk := bounds_u8 wk
  obtain ⟨k0, k1⟩ := hk
  have hnm : n ≤ maxLen := by omega
  clear wr wk
  by_cases hr : 0 ≤ r ∧ r ≤ 255
  · have hi := inB_yes hr.1 hr.2
    by_cases hn : 1 ≤ n ∧ n ≤ 12
    · obtain ⟨n1, n2⟩ := hn
      have hj := inB_yes (show (1 : Int) ≤ n by omega) (show (n : Int) ≤ 12 by omega)
      obtain ⟨b, off, hA, hb, hc0⟩ := h (by omega)
      subst hA
      have H := Lib.hid h
      have HC := Lib.hid hc0
      clear h hc0
      go_enter Try.func3, Try.ntmps3
      go_wp2_with fail
      refine (step_ok r _ n c f w H.out n1 n2 hr.1 hr.2).mono ?_; rintro e w1 ⟨A1, c1, rfl, rd1, le1, mx1, hb1⟩
      obtain ⟨b1, off1, hA1, hbb1, hcc1⟩ := rd1 (by omega)
      subst hA1
      have R1 := Lib.hid rd1
      have HC1 := Lib.hid hcc1
      clear rd1 hcc1
      obtain ⟨p, hp⟩ : ∃ p : Nat, (p : Int) = k % n := ⟨(k % n).toNat, by have := Int.emod_nonneg k (show (n : Int) ≠ 0 by omega); omega⟩
      have hpn : p < n := by have := Int.emod_lt_of_pos k (show (0 : Int) < n by omega); omega
      have hs1 := hb1.size
      have rd1 : Rd w1 (some ⟨b, off, none⟩) n (fun i => .bool (f i)) := H.out.below hb1
      have hp' : k % (n : Int) = p := hp.symm
      have hpn1 : p ≤ n := by omega
      have hpc : p ≤ c := by omega
      have hcp : ¬ c = p := by omega
      have ew : IntKind.i64.wrap (p : Int) = p := IntWalk.i64_in _ (by omega)
      clear hp
      go_wp2_with (go_at_call 8; refine (within_any _ _ _ _).mono ?_; rintro e w' ⟨rfl, rfl⟩)
      simp only [hp']
      go_region_law (first
        | (refine step_app _ rfl (.tmp 39) (.tmp 42) 22 rfl EB rfl (Own.empty w1 w1.heap.size 4 1 (fun _ => .bool false) (Nat.le_refl _)).drew rfl (l := n - p) (by omega) (rd1.cut.alloc _).drew (fun _ _ => rfl) (by unfold maxLen; omega) (by omega) (by simp) (n - p) (n - p) (by omega) (by omega) ?_; intro A2 c2 w2 hown2 hg2 hat2 hbl2)
        | (refine step_app _ rfl (.tmp 43) (.tmp 46) 22 rfl EB rfl hown2 rfl (l := p) (by omega) ((rd1.le hpn1).below (((Below.refl _ _).alloc (Nat.le_refl _) _).drew.trans hbl2)) (fun _ _ => rfl) (by unfold maxLen; omega) (by omega) (by have := hbl2.size; simp at this; omega) n n (by omega) (by omega) ?_; intro A3 c3 w3 hown3 hg3 hat3 hbl3)
        | (go_simp; go_at_call 7; refine (step_ok r A3 n c3 (rot n p f) w3 (hown3.rd.congr fun i hi => rot_cat n p f _ i hi) n1 n2 hr.1 hr.2).mono ?_; rintro e w4 ⟨A4, c4, rfl, rd4, le4, mx4, hb4⟩))
      have b4 : Below w1.heap.size w1 w4 := ((((Below.refl _ _).alloc (Nat.le_refl _) _).drew.trans hbl2).trans hbl3).trans (hb4.mono (by have := hbl2.size; have := hbl3.size; simp at *; omega))
      have bb4 : Below w.heap.size w w4 := hb1.trans (b4.mono hs1)
      have hs4 := bb4.size
      have rl : Rd w4 (some ⟨b1, off1, none⟩) n (fun i => .bool (st r n f i)) := R1.out.below b4
      have hpc1 : p ≤ c1 := by omega
      have hcp1 : ¬ c1 = p := by omega
      clear hown2 hg2 hat2 hbl2 hown3 hg3 hat3 hbl3 hb4 b4 rd1
      have hsame : sameB n n (st r n (rot n p f)) (rot n p (st r n f)) = true := sameB_iff.2 ⟨rfl, fun i hi => st_rot r f n1 hpn hi⟩
      go_wp2_with fail
      go_region_law (first
        | (refine step_app _ rfl (.tmp 70) (.tmp 73) 22 rfl EB rfl (Own.empty w4 w4.heap.size 4 1 (fun _ => .bool false) (Nat.le_refl _)).drew rfl (l := n - p) (by omega) (rl.cut.alloc _).drew (fun _ _ => rfl) (by unfold maxLen; omega) (by omega) (by simp) (n - p) (n - p) (by omega) (by omega) ?_; intro A5 c5 w5 hown5 hg5 hat5 hbl5)
        | (refine step_app _ rfl (.tmp 74) (.tmp 77) 22 rfl EB rfl hown5 rfl (l := p) (by omega) ((rl.le hpn1).below (((Below.refl _ _).alloc (Nat.le_refl _) _).drew.trans hbl5)) (fun _ _ => rfl) (by unfold maxLen; omega) (by omega) (by have := hbl5.size; simp at this; omega) n n (by omega) (by omega) ?_; intro A6 c6 w6 hown6 hg6 hat6 hbl6)
        | (go_simp; go_at_call 9; refine (bools_any A4 A6 n c4 n c6 _ (rot n p (st r n f)) w6 (rd4.below ((((Below.refl _ _).alloc (Nat.le_refl _) _).drew.trans hbl5).trans hbl6)) (hown6.rd.congr fun i hi => rot_cat n p (st r n f) _ i hi) hnm hnm).mono ?_; rintro e w7 ⟨rfl, hb7⟩))
      have b7 : Below w4.heap.size w4 w7 := ((((Below.refl _ _).alloc (Nat.le_refl _) _).drew.trans hbl5).trans hbl6).trans (hb7.mono (by have := hbl5.size; have := hbl6.size; simp at *; omega))
      have bb7 : Below w.heap.size w w7 := bb4.trans (b7.mono hs4)
      have hs7 := bb7.size
      have rf7 : Rd w7 (some ⟨b, off, none⟩) n (fun i => .bool (f i)) := H.out.below bb7
      have rl7 : Rd w7 (some ⟨b1, off1, none⟩) n (fun i => .bool (st r n f i)) := rl.below b7
      clear hown5 hg5 hat5 hbl5 hown6 hg6 hat6 hbl6 hb7 b7 rl rd4
      by_cases h2n : 2 * n ≤ 12
      · go_wp2_with (first
          | (at_builtin; refine wpList_app _ rfl (.tmp 86) (.tmp 87) 22 rfl EB rfl (Own.empty w7 w7.heap.size 4 1 (fun _ => .bool false) (Nat.le_refl _)) rfl (l := n) (by omega) (rf7.alloc _) (fun _ _ => rfl) (by unfold maxLen; omega) (by omega) (by simp) n n (by omega) (by omega) ?_; intro A8 c8 w8 hown8 hg8 hat8 hbl8)
          | (at_builtin; refine wpList_app _ rfl (.tmp 88) (.tmp 89) 22 rfl EB rfl hown8 rfl (l := n) (by omega) (rf7.below (((Below.refl _ _).alloc (Nat.le_refl _) _).trans hbl8)) (fun _ _ => rfl) (by unfold maxLen; omega) (by omega) (by have := hbl8.size; simp at this; omega) (2 * n) (2 * n) (by omega) (by omega) ?_; intro A9 c9 w9 hown9 hg9 hat9 hbl9))
        refine (step_ok r A9 (2 * n) c9 (dbl n f) w9 (hown9.rd.congr fun i hi => dbl_cat n f _ i) (by omega) h2n hr.1 hr.2).mono ?_; rintro e w10 ⟨A10, c10, rfl, rd10, le10, mx10, hb10⟩
        have b10 : Below w7.heap.size w7 w10 := ((((Below.refl _ _).alloc (Nat.le_refl _) _).trans hbl8).trans hbl9).trans (hb10.mono (by have := hbl8.size; have := hbl9.size; simp at *; omega))
        have bb10 : Below w.heap.size w w10 := bb7.trans (b10.mono hs7)
        have hs10 := bb10.size
        have rl10 : Rd w10 (some ⟨b1, off1, none⟩) n (fun i => .bool (st r n f i)) := rl7.below b10
        have hdb : sameB (2 * n) (2 * n) (st r (2 * n) (dbl n f)) (dbl n (st r n f)) = true := sameB_iff.2 ⟨rfl, fun i hi => st_dbl r f n1 hi⟩
        clear hown8 hg8 hat8 hbl8 hown9 hg9 hat9 hbl9 hb10 b10
        go_wp2_with (first
          | (at_builtin; refine wpList_app _ rfl (.tmp 98) (.tmp 99) 22 rfl EB rfl (Own.empty w10 w10.heap.size 4 1 (fun _ => .bool false) (Nat.le_refl _)) rfl (l := n) (by omega) (rl10.alloc _) (fun _ _ => rfl) (by unfold maxLen; omega) (by omega) (by simp) n n (by omega) (by omega) ?_; intro A11 c11 w11 hown11 hg11 hat11 hbl11)
          | (at_builtin; refine wpList_app _ rfl (.tmp 100) (.tmp 101) 22 rfl EB rfl hown11 rfl (l := n) (by omega) (rl10.below (((Below.refl _ _).alloc (Nat.le_refl _) _).trans hbl11)) (fun _ _ => rfl) (by unfold maxLen; omega) (by omega) (by have := hbl11.size; simp at this; omega) (2 * n) (2 * n) (by omega) (by omega) ?_; intro A12 c12 w12 hown12 hg12 hat12 hbl12)
          | (go_at_call 9; refine (bools_any A10 A12 (2 * n) c10 (2 * n) c12 _ (dbl n (st r n f)) w12 (rd10.below ((((Below.refl _ _).alloc (Nat.le_refl _) _).trans hbl11).trans hbl12)) (hown12.rd.congr fun i hi => dbl_cat n (st r n f) _ i) (by unfold maxLen; omega) (by unfold maxLen; omega)).mono ?_; rintro e w13 ⟨rfl, hb13⟩))
        go_ret
        exact ⟨rfl, bb10.trans ((((((Below.refl _ _).alloc (Nat.le_refl _) _).trans hbl11).trans hbl12).mono hs10).trans (hb13.mono (by have := hbl11.size; have := hbl12.size; simp at *; omega)))⟩
      · go_wp2_with fail
        go_ret
        exact ⟨rfl, bb7⟩
    · have hj := inB_no (show ¬ (1 ≤ (n : Int) ∧ (n : Int) ≤ 12) by omega)
      have hn' : ¬ (1 ≤ n ∧ n ≤ 12) := hn
      have HN := Lib.hid hn'
      clear hn hn' h
      go_enter Try.func3, Try.ntmps3
      go_wp2_with fail
      refine (step_len r A n c w HN.out hnm hr.1 hr.2).mono ?_; rintro e w1 ⟨rfl, rfl⟩
      unfold maxLen at hnm hm
      go_wp2_with (go_at_call 8; refine (within_any _ _ _ _).mono ?_; rintro e w' ⟨rfl, rfl⟩)
      go_ret
      exact ⟨rfl, Below.refl _ _⟩
  · have hi := inB_no hr
    have HR := Lib.hid hr
    clear hr h
    unfold maxLen at hnm hm
    go_enter Try.func3, Try.ntmps3
    go_wp2_with fail
    refine (step_wrong r A n c w HR.out).mono ?_; rintro e w1 ⟨rfl, rfl⟩
    go_wp2_with (go_at_call 8; refine (within_any _ _ _ _).mono ?_; rintro e w' ⟨rfl, rfl⟩)
    go_ret
    exact ⟨rfl, Below.refl _ _⟩
end Go.Proofs.Ytnagdnbdpknniaa.cellShift
