/- slices.Concat over rows of ints. Condition: the rows read as functions, their lengths together are at most 1000000. -/
import Derived.Test.YtenlnkcmabphfaaApp
import Derived.Test.YtenlnkcmabphfaaRowsOf
import Derived.Shelf.Spec.SlicesGrow
namespace Go.Proofs.Ytenlnkcmabphfaa
open Go.ChangeShapes Go.WideShapes Go.ChangeAt Go.RowKit Go.Shelf
set_option linter.unusedVariables false
theorem EIg : Elem Try.prog 24 3 1 8 := Elem.of Try.underlying24 (by kernel_rfl : (Try.prog.info? 3).map (fun i => (i.zero, i.size, i.bytes)) = some (some (.int .i64 0), 1, 8)) rfl (by omega)
shelf_lay_g Lays8.n4 Nm8 4 at Try 31 as growI
def GrowRet (w : World) (e : Ending) (w' : World) : Prop := (∃ A c, e = .returned (.slice A 0 c) ∧ Own w' w.heap.size 3 1 A 0 c 0 (fun _ => .int .i64 0)) ∧ Below w.heap.size w w'
theorem grow_nil (n : Nat) (w : World) (hn : n ≤ 1000000) : Calls Try.prog 31 #[.slice none 0 0, .int .i64 n] w (GrowRet w) := by
  rcases Nat.eq_zero_or_pos n with h0 | h0
  · subst h0
    refine (Any8.slices_Grow_room growI none 0 0 0 w (by omega) (by omega) (by omega) (by omega)).mono ?_
    rintro e w' ⟨rfl, rfl⟩
    exact ⟨⟨none, 0, rfl, Own.nil _ _ _ _ _⟩, Below.refl _ _⟩
  · obtain ⟨i, h1, h2, h3, h4⟩ := info_parts (by kernel_rfl : (Try.prog.info? 3).map (fun i => (i.zero, i.size, i.bytes)) = some (some (.int .i64 0), 1, 8))
    refine (Any8.slices_Grow_grow growI i (.int .i64 0) h1 h2 (by omega) none 0 0 n [] w (by omega) (by omega) (by rw [h4]; omega) (by omega) (by simp) (fun _ => rfl) (fun a h => by cases h)).mono ?_
    rintro e w' ⟨rfl, rfl⟩
    have hge : 0 + n ≤ grownCap w (0 + n) 0 3 := grownCap_ge w _ _ _
    have hle := grownCap_le_maxLen w (0 + n) 0 3 (by unfold maxLen; omega)
    have e25 : growI_ren.t 25 = 3 := by rfl
    rw [e25]
    obtain ⟨G, hG⟩ : ∃ G, G = grownCap w (0 + n) 0 3 := ⟨_, rfl⟩
    rw [← hG] at hge hle ⊢
    refine ⟨⟨some ⟨w.heap.size, 0, none⟩, G, rfl, ⟨by simp, .inr ⟨w.heap.size, G, _, rfl, Nat.le_refl _, heap_alloc_new w.drew _, Nat.zero_le _, hle, ?_, by simp⟩⟩, Nat.zero_le _⟩, ((Below.refl _ _).drew).alloc (by simp) _⟩
    simp [Builtin.zeroCells, Value.cells]
    omega
/-- the lengths of the first i rows together, and their numbers -/
def szR (R : Nat → SI) : Nat → Nat
  | 0 => 0
  | i + 1 => szR R i + (R i).n
def ccR (R : Nat → SI) : Nat → Nat → Value
  | 0 => fun _ => .int .i64 0
  | i + 1 => cat (szR R i) (ccR R i) (fun j => .int .i64 ((R i).f j))
theorem szR_le (R : Nat → SI) {i m : Nat} (h : i ≤ m) : szR R i ≤ szR R m := by
  induction m with
  | zero => rw [show i = 0 by omega]; exact Nat.le_refl _
  | succ m ih =>
    by_cases e : i = m + 1
    · subst e; exact Nat.le_refl _
    · exact Nat.le_trans (ih (by omega)) (Nat.le_add_right _ _)
def ConcRet (R : Nat → SI) (m : Nat) (w : World) (e : Ending) (w' : World) : Prop := (∃ A c, e = .returned (.slice A (szR R m) c) ∧ Own w' w.heap.size 3 1 A (szR R m) c (szR R m) (ccR R m)) ∧ Below w.heap.size w w'
set_option maxRecDepth 100000 in
set_option maxHeartbeats 1000000 in
theorem concat_any (A : Option Addr) (m c : Nat) (R : Nat → SI) (w : World) (h : Rd w A m (fun i => (R i).val)) (hr : ∀ i, i < m → Rd w (R i).A (R i).n (fun j => .int .i64 ((R i).f j))) (hm : m ≤ 1000) (hs : szR R m ≤ 1000000) :
    Calls Try.prog 26 #[.slice A m c] w (ConcRet R m w) := by
  have H := Lib.hid h
  have HR := Lib.hid hr
  have HSZ : Hid (∀ i, i ≤ m → szR R i ≤ 1000000) := Lib.hid fun i hi => Nat.le_trans (szR_le R hi) hs
  clear h hr hs
  go_enter Try.func26, Try.ntmps26
  go_wp2_with fail
  go_loop [3, 11] (fun s3 s11 => ∃ i : Nat, i ≤ m ∧ s11 = .int .i64 i ∧ s3 = .int .i64 (szR R i : Nat)) (fun _ s11 => m - (intOf s11).toNat)
  case atStart => exact ⟨0, Nat.zero_le _, rfl, rfl⟩
  case round =>
    obtain ⟨i, hi, rfl, rfl⟩ := hrel
    have hz := HSZ.out i hi
    obtain ⟨z, hze⟩ : ∃ z, z = szR R i := ⟨_, rfl⟩
    rw [← hze] at hz ⊢
    have HZE := Lib.hid hze
    clear hze
    by_cases hlt : i < m
    · have hz2 := HSZ.out (i + 1) hlt
      have hnx : szR R (i + 1) = szR R i + (R i).n := rfl
      rw [← HZE.out] at hnx
      obtain ⟨b, off, rfl, hb, hc⟩ := H.out.at_ hlt
      obtain ⟨rn, hrn⟩ : ∃ x, x = (R i).n := ⟨_, rfl⟩
      obtain ⟨rc, hrc⟩ : ∃ x, x = (R i).c := ⟨_, rfl⟩
      obtain ⟨rA, hrA⟩ : ∃ x, x = (R i).A := ⟨_, rfl⟩
      have hc2 : w.cell? ⟨b, off + i, none⟩ = some (.slice rA rn rc) := by rw [hc, hrn, hrc, hrA]; rfl
      rw [← hrn] at hnx
      rw [hnx] at hz2
      have HNX := Lib.hid hnx
      clear hc hrn hrc hrA hnx
      have hnn : ¬ ((z : Int) + (rn : Int) < 0) := by omega
      go_wp2_with fail
      go_round
      case rel => exact ⟨i + 1, by omega, by go_num, by rw [HNX.out]; go_num⟩
      case measure => simp [intOf]; omega
    · obtain rfl : i = m := by omega
      go_wp2_with fail
      refine (grow_nil z w hz).mono ?_
      rintro e w1 ⟨⟨A1, c1, rfl, hown1⟩, hb1⟩
      go_wp2_with fail
      go_loopw [6, 27] (fun s6 s27 wr => ∃ (j : Nat) (A2 : Option Addr) (c2 : Nat), j ≤ i ∧ s27 = .int .i64 j ∧ s6 = .slice A2 (szR R j) c2 ∧ Own wr w.heap.size 3 1 A2 (szR R j) c2 (szR R j) (ccR R j) ∧ Below w.heap.size w wr) (fun _ s27 _ => i - (intOf s27).toNat)
      case atStart => exact ⟨0, A1, c1, Nat.zero_le _, rfl, rfl, hown1, hb1⟩
      case round =>
        clear hown1 hb1
        obtain ⟨wo, rfl⟩ : ∃ wo : World, wo = wr := ⟨_, rfl⟩
        obtain ⟨j, A2, c2, hj, rfl, rfl, hown, hbel⟩ := hrel
        have hy := HSZ.out j hj
        obtain ⟨y, hye⟩ : ∃ y, y = szR R j := ⟨_, rfl⟩
        rw [← hye] at hy hown ⊢
        have HYE := Lib.hid hye
        clear hye
        by_cases hjl : j < i
        · have hy2 := HSZ.out (j + 1) hjl
          have hnx : szR R (j + 1) = szR R j + (R j).n := rfl
          rw [← HYE.out] at hnx
          obtain ⟨b, off, rfl, hb, hc⟩ := (H.out.below hbel).at_ hjl
          have hrd := (HR.out j hjl).below hbel
          obtain ⟨rn, hrn⟩ : ∃ x, x = (R j).n := ⟨_, rfl⟩
          obtain ⟨rc, hrc⟩ : ∃ x, x = (R j).c := ⟨_, rfl⟩
          obtain ⟨rA, hrA⟩ : ∃ x, x = (R j).A := ⟨_, rfl⟩
          have hc2 : wo.cell? ⟨b, off + j, none⟩ = some (.slice rA rn rc) := by rw [hc, hrn, hrc, hrA]; rfl
          rw [← hrn] at hnx
          rw [hnx] at hy2
          rw [← hrn, ← hrA] at hrd
          have HNX := Lib.hid hnx
          have HRD := Lib.hid hrd
          clear hc hrn hrc hrA hnx hrd
          go_wp2_with (at_builtin; refine wpList_app _ rfl (.tmp 31) (.tmp 32) 24 rfl EIg rfl hown rfl (l := rn) (by omega) HRD.out (fun _ _ => rfl) (by unfold maxLen; omega) (by omega) hbel.size (y + rn) (y + rn) rfl rfl ?_; intro A3 c3 w3 hown3 hg3 hat3 hbl3)
          go_roundw
          case rel => exact ⟨j + 1, A3, c3, by omega, by go_num, by rw [HNX.out], by rw [HNX.out]; exact hown3.congr (fun q hq => by show _ = cat (szR R j) (ccR R j) _ q; rw [← HYE.out]), hbel.trans hbl3⟩
          case measure => simp [intOf]; omega
        · obtain rfl : j = i := by omega
          go_wp2_with fail
          go_ret
          exact ⟨⟨A2, c2, by rw [HYE.out]; rfl, by rw [← HYE.out]; exact hown⟩, hbel⟩
end Go.Proofs.Ytenlnkcmabphfaa
