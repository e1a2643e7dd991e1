/- guess.Wrong: how many lists of bits tell it. Condition: the rows read as told. -/
import Derived.Test.YtoodmoliglhpiaaFreiGo
import Derived.Test.YtoodmoliglhpiaaBits
namespace Go.Proofs.Ytoodmoliglhpiaa
open Go.ChangeShapes Go.WideShapes Go.ChangeAt Go.RowKit
set_option linter.unusedVariables false
set_option linter.unusedSimpArgs false
def L3 (a b c : MX) : Nat → MX := fun k => if k = 0 then a else if k = 1 then b else c
theorem okM_sq {a b c : MX} {w : World} (h : okM (L3 a b c)) (ha : a.good w) (hb : b.good w) (hc : c.good w) : (1 ≤ a.n ∧ a.n ≤ 4) ∧ SqM w a a.n ∧ SqM w b a.n ∧ SqM w c a.n := by
  obtain ⟨h1, h2, h3⟩ := h
  have e0 : L3 a b c 0 = a := rfl
  have e1 : L3 a b c 1 = b := rfl
  have e2 : L3 a b c 2 = c := rfl
  rw [e0] at h1 h2 h3
  have k0 := h2 0 (by omega)
  have k1 := h2 1 (by omega)
  have k2 := h2 2 (by omega)
  have l0 := h3 0 (by omega)
  have l1 := h3 1 (by omega)
  have l2 := h3 2 (by omega)
  rw [e0] at k0 l0
  rw [e1] at k1 l1
  rw [e2] at k2 l2
  exact ⟨h1, ⟨ha, rfl, k0.2, l0⟩, ⟨hb, k1.1, k1.2, l1⟩, ⟨hc, k2.1, k2.2, l2⟩⟩
theorem make_intsF (K : Nat) (hK : K ≤ 1000) (W : World) : (Instr.makeSlice 41 (.int .i64 (K : Int)) (.int .i64 (K : Int))).run Try.prog W = .ok (.slice (some ⟨W.heap.size, 0, none⟩) K K) (W.alloc (.cells (madeCells #[.int .i64 0] K) 3)) :=
  run_make_row' 41 3 (.int .i64 0) 8 Try.underlying41 (by kernel_rfl) rfl .i64 .i64 K (by omega) (by omega) W
theorem vb_bit (s j : Nat) (hs : s < 1000000) : bits .and .i64 ((s : Int) / 2 ^ j) 1 = vb s j := by
  have h := div_pow_bd (x := (s : Int)) (by omega) j
  rw [and_one h.1 (by omega)]
  unfold vb
  push_cast
  rfl
theorem vb_7 (s n : Nat) : In7 (vb s) n := fun j _ => by unfold vb; omega
def WrongP (a b c : MX) (e : Ending) : Prop :=
  (¬ okM (L3 a b c) ∧ ∃ x : Int, (x != 0) = true ∧ e = .returned (.tuple #[.int .i64 0, .int .i64 x])) ∨
  (okM (L3 a b c) ∧ e = .returned (.tuple #[.int .i64 ((cntF (badF a.n (mE a) (mE b) (mE c)) (2 ^ a.n) : Nat) : Int), .int .i64 0]))
set_option maxRecDepth 100000 in
set_option maxHeartbeats 2000000 in
theorem Wrong_any (a b c : MX) (w : World) (ha : a.good w) (hb : b.good w) (hc : c.good w) :
    Calls Try.prog 12 #[a.val, b.val, c.val] w fun e w' => WrongP a b c e ∧ Below w.heap.size w w' := by
  obtain ⟨W1, hW1⟩ : ∃ W, W = w.alloc (.cells #[a.val, b.val, c.val] 35) := ⟨_, rfl⟩
  have hb1 : Below w.heap.size w W1 := by rw [hW1]; exact (Below.refl _ _).alloc (Nat.le_refl _) _
  have hr1 : Rd W1 (some ⟨w.heap.size, 0, none⟩) 3 (fun k => (L3 a b c k).val) := by
    rw [hW1]
    exact fun _ => ⟨w.heap.size, 0, rfl, by simp, fun k hk => by
      rw [cell_of_row _ w.heap.size (0 + k) #[a.val, b.val, c.val] _ (0, 0) (heap_alloc_new w _)]
      match k, hk with
      | 0, _ => rfl
      | 1, _ => rfl
      | 2, _ => rfl⟩
  have hgd : ∀ k, k < 3 → (L3 a b c k).good W1 := fun k hk => by
    match k, hk with
    | 0, _ => exact ha.below hb1
    | 1, _ => exact hb.below hb1
    | 2, _ => exact hc.below hb1
  have hws := wrongS_any w.heap.size (L3 a b c) W1 hr1 hgd
  have HWS := Lib.hid hws
  have HB1 := Lib.hid hb1
  have HW1 := Lib.hid hW1
  have hprod := fun (n : Nat) (W : World) (hW : Below w.heap.size w W) (hok : okM (L3 a b c)) (VA : Option Addr) (vc : Nat) (V : Nat → Int) (hv : Rd W VA a.n (fun j => .int .i64 (V j))) (h7 : In7 V a.n) => by
    obtain ⟨hn, s1, s2, s3⟩ := okM_sq hok ha hb hc
    exact product_any a b c a.n VA vc V W hn.2 (s1.below hW) (s2.below hW) (s3.below hW) hv h7
  have HP := Lib.hid hprod
  have hanm : a.n ≤ 9223372036854775807 := by have := ha.2.2; unfold maxLen at this; omega
  clear hb1 hr1 hgd hws hW1 hprod ha hb hc
  by_cases hok : okM (L3 a b c)
  · have hn := hok.1
    have HOK := Lib.hid hok
    obtain ⟨F, hF⟩ : ∃ F, F = badF a.n (mE a) (mE b) (mE c) := ⟨_, rfl⟩
    have HF := Lib.hid hF
    clear hF hok
    obtain ⟨aA, n, ac, aR⟩ := a
    obtain ⟨bA, bn, bc, bR⟩ := b
    obtain ⟨cA, cn, cc, cR⟩ := c
    have n1 : 1 ≤ n := hn.1
    have n4 : n ≤ 4 := hn.2
    have hmk := make_intsF n (by omega)
    clear hn
    show Calls Try.prog 12 #[.slice aA n ac, .slice bA bn bc, .slice cA cn cc] w _
    have HW1' : Hid (W1 = w.alloc (.cells #[.slice aA n ac, .slice bA bn bc, .slice cA cn cc] 35)) := HW1
    obtain ⟨N, hN⟩ : ∃ N : Nat, N = 2 ^ n := ⟨_, rfl⟩
    have hN16 : N ≤ 16 := by rw [hN]; exact Nat.pow_le_pow_right (n := 2) (i := n) (j := 4) (by omega) n4
    have hpi : (2 : Int) ^ n = (N : Int) := by rw [hN]; push_cast; rfl
    have HN := Lib.hid hN
    have wN : IntKind.i64.wrap ((2 : Int) ^ n) = (N : Int) := by rw [hpi]; exact IntWalk.i64_in _ (by omega)
    have wN2 : wrap64 ((2 : Int) ^ n) = (N : Int) := by rw [hpi]; exact IntWalk.wrap64_in _ (by omega)
    clear HW1 hN hpi
    go_enter Try.func12, Try.ntmps12
    go_wp2_with fail
    rw [← HW1'.out]
    refine HWS.out.mono ?_
    rintro e w2 ⟨⟨x, rfl, hx⟩, hb2⟩
    have hx0 : x = 0 := hx.2 HOK.out
    subst hx0
    have HB2 := Lib.hid (HB1.out.trans (hb2.mono HB1.out.size))
    clear hx hb2
    go_wp2_with fail
    go_loopw [9, 24] (fun s9 s24 wr => ∃ s m : Nat, s ≤ N ∧ s24 = .int .i64 (s : Nat) ∧ s9 = .int .i64 (m : Nat) ∧ m ≤ s ∧ Hid (m = cntF F s) ∧ Hid (Below w.heap.size w wr)) (fun _ s24 _ => N - (intOf s24).toNat)
    case atStart => exact ⟨0, 0, Nat.zero_le _, rfl, rfl, Nat.le_refl _, Lib.hid rfl, HB2⟩
    case round =>
      clear HB2
      obtain ⟨wo, rfl⟩ : ∃ wo : World, wo = wr := ⟨_, rfl⟩
      obtain ⟨s, m, hs, rfl, rfl, hms, HM, HB⟩ := hrel
      by_cases hlt : s < N
      · have hltI : (s : Int) < (N : Int) := by omega
        obtain ⟨g, hg⟩ : ∃ g, g = wo.heap.size := ⟨_, rfl⟩
        obtain ⟨Wm, hWm⟩ : ∃ W, W = wo.alloc (.cells (madeCells #[.int .i64 0] n) 3) := ⟨_, rfl⟩
        have hrm := World.rowIs_made wo (.int .i64 0) n 3
        rw [← hWm, ← hg] at hrm
        have HRM : Hid (Wm.rowIs g 3 n (fun j => .int .i64 (if j < 0 then vb s j else 0))) := Lib.hid (hrm.congr fun j _ => by rw [if_neg (Nat.not_lt_zero _)])
        have HBm : Hid (Below w.heap.size w Wm) := Lib.hid (by rw [hWm]; exact HB.out.alloc HB.out.size _)
        have hwg : w.heap.size ≤ g := by rw [hg]; exact HB.out.size
        have HWm := Lib.hid hWm
        have HGg := Lib.hid hg
        clear hrm hWm hg
        go_wp2_with fail
        rw [← HWm.out, ← HGg.out]
        clear HWm HGg
        go_loopw [32] (fun s32 wr => ∃ i : Nat, i ≤ n ∧ s32 = .int .i64 (i : Nat) ∧ Hid (wr.rowIs g 3 n (fun j => .int .i64 (if j < i then vb s j else 0))) ∧ Hid (Below w.heap.size w wr)) (fun s32 _ => n - (intOf s32).toNat)
        case atStart => exact ⟨0, Nat.zero_le _, rfl, HRM, HBm⟩
        case round =>
          clear HRM HBm
          obtain ⟨wp, rfl⟩ : ∃ wp : World, wp = wr := ⟨_, rfl⟩
          obtain ⟨i, hi, rfl, HR, HBp⟩ := hrel
          by_cases hlt2 : i < n
          · have k1 := HR.out.cell hlt2
            have k2 := HR.out.frozen i
            rw [if_neg (Nat.lt_irrefl _)] at k1
            have wb := vb_bit s i (by omega)
            have wi : wrap64 (i : Int) = (i : Int) := IntWalk.wrap64_in _ (by omega)
            obtain ⟨z, hz⟩ : ∃ z, z = vb s i := ⟨_, rfl⟩
            rw [← hz] at wb
            have HZ := Lib.hid hz
            have hdv : 0 ≤ (s : Int) / 2 ^ i := (div_pow_bd (x := (s : Int)) (by omega) i).1
            clear hz
            go_wp2_with fail
            go_roundw
            case rel => exact ⟨i + 1, by omega, by go_num, Lib.hid ((HR.out.set i _).congr fun j hj => by
              by_cases e : j = i
              · subst e; rw [if_pos rfl, if_pos (by omega), HZ.out]
              · rw [if_neg e]
                by_cases h : j < i
                · rw [if_pos h, if_pos (by omega)]
                · rw [if_neg h, if_neg (by omega)]), Lib.hid (HBp.out.setCell hwg _)⟩
            case measure => simp [intOf]; omega
          · obtain rfl : i = n := by omega
            have hrv : Rd wp (some ⟨g, 0, none⟩) i (fun j => .int .i64 (vb s j)) := (Rd.of_row HR.out (Nat.le_refl _)).congr fun j hj => by rw [if_pos hj]
            have hpr := HP.out 0 wp HBp.out HOK.out (some ⟨g, 0, none⟩) i (vb s) hrv (vb_7 s _)
            obtain ⟨r, hr⟩ : ∃ r, r = prd i (mE ⟨aA, i, ac, aR⟩) (mE ⟨bA, bn, bc, bR⟩) (mE ⟨cA, cn, cc, cR⟩) (vb s) := ⟨_, rfl⟩
            have hpr' : Calls Try.prog 26 #[.slice aA i ac, .slice bA bn bc, .slice cA cn cc, .slice (some ⟨g, 0, none⟩) i i] wp fun e w' => e = .returned (.bool r) ∧ Below wp.heap.size wp w' := by rw [hr]; exact hpr
            have HPR := Lib.hid hpr'
            have HFS : Hid (F s = !r) := Lib.hid (by rw [HF.out, hr]; rfl)
            clear hrv hpr hpr' hr
            go_wp2_with fail
            refine HPR.out.mono ?_
            rintro e w5 ⟨rfl, hb5⟩
            have HB5 := Lib.hid (HBp.out.trans (hb5.mono HBp.out.size))
            clear hb5 HPR
            cases r
            · go_wp2_with fail
              go_roundw
              case rel => exact ⟨s + 1, m + 1, by omega, by go_num, by go_num, by omega, Lib.hid (by simp only [cntF]; rw [HFS.out, ← HM.out]; rfl), HB5⟩
              case measure => simp [intOf]; omega
            · go_wp2_with fail
              go_roundw
              case rel => exact ⟨s + 1, m, by omega, by go_num, rfl, by omega, Lib.hid (by simp only [cntF]; rw [HFS.out, ← HM.out]; rfl), HB5⟩
              case measure => simp [intOf]; omega
      · obtain rfl : s = N := by omega
        go_wp2_with fail
        go_ret2
        exact ⟨.inr ⟨HOK.out, by rw [HM.out, HF.out, HN.out]; rfl⟩, HB.out⟩
  · have HNO := Lib.hid hok
    obtain ⟨aA, n, ac, aR⟩ := a
    obtain ⟨bA, bn, bc, bR⟩ := b
    obtain ⟨cA, cn, cc, cR⟩ := c
    clear hok
    show Calls Try.prog 12 #[.slice aA n ac, .slice bA bn bc, .slice cA cn cc] w _
    have HW1' : Hid (W1 = w.alloc (.cells #[.slice aA n ac, .slice bA bn bc, .slice cA cn cc] 35)) := HW1
    clear HW1
    go_enter Try.func12, Try.ntmps12
    go_wp2_with fail
    rw [← HW1'.out]
    refine HWS.out.mono ?_
    rintro e w2 ⟨⟨x, rfl, hx⟩, hb2⟩
    have hxb : (x != 0) = true := by rw [bne_iff_ne]; exact fun h => HNO.out (hx.1 h)
    have HB2 := Lib.hid (HB1.out.trans (hb2.mono HB1.out.size))
    have HXB := Lib.hid hxb
    clear hx hb2
    go_wp2_with fail
    go_ret2
    exact ⟨.inl ⟨HNO.out, x, HXB.out, rfl⟩, HB2.out⟩
end Go.Proofs.Ytoodmoliglhpiaa
