/- What lone.wrong says: nothing just if n, the number of sets and each set are as they may be, and no two are the same. Conditions: the sets are words. -/
import Derived.Test.YtmnleblbandghaaLoneMap
import Derived.Test.YtmnleblbandghaaPredU
namespace Go.Proofs.Ytmnleblbandghaa
open Go.ChangeShapes Go.WideShapes Go.ChangeAt Go.RowKit Go.Maps
set_option linter.unusedVariables false
def LOk (n : Int) (m : Nat) (S : Nat → Int) : Prop := (1 ≤ n ∧ n ≤ 5) ∧ (1 ≤ m ∧ m ≤ 200) ∧ (∀ i, i < m → S i < 2 ^ n.toNat) ∧ ∀ i j, j < i → i < m → S i ≠ S j
theorem loneC_any (n x : Int) (Bx : Nat) (w : World) (n0 : 0 ≤ n) (n5 : n ≤ 5) (hx : w.cell? ⟨Bx, 0, none⟩ = some (.int .i64 n)) :
    Calls Try.prog 27 #[.int .u32 x, .pointer (some ⟨Bx, 0, none⟩)] w fun e w' => e = .returned (.bool (x / 2 ^ n.toNat != 0)) ∧ w = w' := by
  go_enter Try.func27, Try.ntmps27
  go_wp2_with fail
  go_ret
  exact ⟨rfl, rfl⟩
theorem big_iff {x : Int} {n : Int} (h0 : 0 ≤ x) : (x / 2 ^ n.toNat != 0) = false ↔ x < 2 ^ n.toNat := by
  have hp : (0 : Int) < 2 ^ n.toNat := Int.pow_pos (by omega)
  rw [bne_eq_false_iff_eq]
  constructor
  · intro h
    have h1 := Int.emod_lt_of_pos x hp
    have h2 := Int.mul_ediv_add_emod x (2 ^ n.toNat)
    rw [h, Int.mul_zero] at h2
    omega
  · exact fun h => Int.ediv_eq_zero_of_lt h0 h
def seenS (S : Nat → Int) : Nat → Int → Bool
  | 0, _ => false
  | k + 1, x => if x = S k then true else seenS S k x
theorem seenS_iff {S : Nat → Int} {x : Int} : ∀ {k : Nat}, seenS S k x = true ↔ ∃ i, i < k ∧ S i = x
  | 0 => ⟨(fun h => by cases h), fun ⟨i, hi, _⟩ => absurd hi (Nat.not_lt_zero _)⟩
  | k + 1 => by
    show (if x = S k then true else seenS S k x) = true ↔ _
    by_cases e : x = S k
    · rw [if_pos e]; exact ⟨fun _ => ⟨k, by omega, e.symm⟩, fun _ => rfl⟩
    · rw [if_neg e, seenS_iff]
      exact ⟨fun ⟨i, hi, h⟩ => ⟨i, by omega, h⟩, fun ⟨i, hi, h⟩ => ⟨i, by
        have : i ≠ k := fun h2 => e (by rw [← h, h2])
        omega, h⟩⟩
theorem wf_u32 {x : Int} (h : (Lit.int .u32 x).wf = true) : 0 ≤ x ∧ x < 4294967296 := by
  have := bounds_u32 h
  omega
set_option maxRecDepth 100000 in
theorem loneW_any (n : Int) (A : Option Addr) (m c : Nat) (S : Nat → Int) (w : World) (wn : (Lit.int .i64 n).wf = true) (h : Rd w A m (fun i => .int .u32 (S i))) (hm : m ≤ maxLen) (hS : ∀ i, i < m → (Lit.int .u32 (S i)).wf = true) :
    Calls Try.prog 17 #[.int .i64 n, .slice A m c] w fun e w' => (∃ x : Int, e = .returned (.int .i64 x) ∧ (x = 0 ↔ LOk n m S)) ∧ Below w.heap.size w w' := by
  have hml := hm
  unfold maxLen at hml
  have hB0 := (Below.refl w.heap.size w).alloc (Nat.le_refl _) (.cells #[.int .i64 n] 3)
  by_cases h1 : n < 1
  · go_enter Try.func17, Try.ntmps17
    go_wp2_with fail
    go_ret
    exact ⟨⟨1, rfl, ⟨(fun h => by cases h), fun h => absurd h.1.1 (by omega)⟩⟩, hB0⟩
  · by_cases h2 : 5 < n
    · go_enter Try.func17, Try.ntmps17
      go_wp2_with fail
      go_ret
      exact ⟨⟨1, rfl, ⟨(fun h => by cases h), fun h => absurd h.1.2 (by omega)⟩⟩, hB0⟩
    · by_cases h3 : m < 1
      · go_enter Try.func17, Try.ntmps17
        go_wp2_with fail
        go_ret
        exact ⟨⟨1, rfl, ⟨(fun h => by cases h), fun h => absurd h.2.1.1 (by omega)⟩⟩, hB0⟩
      · by_cases h4 : 200 < m
        · go_enter Try.func17, Try.ntmps17
          go_wp2_with fail
          go_ret
          exact ⟨⟨1, rfl, ⟨(fun h => by cases h), fun h => absurd h.2.1.2 (by omega)⟩⟩, hB0⟩
        · have H := Lib.hid h
          have HS := Lib.hid hS
          have HM := Lib.hid hm
          clear h hS hm
          obtain ⟨Bx, hBx⟩ : ∃ Bx, Bx = w.heap.size := ⟨_, rfl⟩
          obtain ⟨wb, hwb⟩ : ∃ wb, wb = w.alloc (.cells #[.int .i64 n] 3) := ⟨_, rfl⟩
          have hx0 : wb.cell? ⟨Bx, 0, none⟩ = some (.int .i64 n) := by
            rw [hwb, hBx, cell_of_row (w.alloc (.cells #[.int .i64 n] 3)) w.heap.size 0 _ _ (0, 0) (heap_alloc_new w _)]; rfl
          have hRb : Rd wb A m (fun i => .int .u32 (S i)) := by rw [hwb]; exact H.out.below ((Below.refl w.heap.size w).alloc (Nat.le_refl _) _)
          have HX := Lib.hid hx0
          have HRB := Lib.hid hRb
          have HWB := Lib.hid hwb
          clear hx0 hRb
          go_enter Try.func17, Try.ntmps17
          go_wp2_with fail
          rw [← hwb, ← hBx]
          clear hwb
          go_wp2_with fail
          refine (containsU_any 27 #[.pointer (some ⟨Bx, 0, none⟩)] A m c S (fun i => S i / 2 ^ n.toNat != 0) wb HRB.out HM.out (fun _ _ => rfl) (fun i hi => loneC_any n (S i) Bx wb (by omega) (by omega) HX.out)).mono ?_
          rintro e w1 ⟨rfl, rfl⟩
          have hbad : anyB (fun i => S i / 2 ^ n.toNat != 0) m = false ↔ ∀ i, i < m → S i < 2 ^ n.toNat := by
            rw [anyB_false]
            constructor
            · exact fun h i hi => (big_iff (wf_u32 (HS.out i hi)).1).1 (h i hi)
            · exact fun h i hi => (big_iff (wf_u32 (HS.out i hi)).1).2 (h i hi)
          have HBAD := Lib.hid hbad
          obtain ⟨bd, hbd⟩ : ∃ bd, bd = anyB (fun i => S i / 2 ^ n.toNat != 0) m := ⟨_, rfl⟩
          rw [← hbd] at hbad ⊢
          have HBD := Lib.hid hbad
          clear hbad hbd HBAD
          have HB0 : Hid (Below w.heap.size w wb) := Lib.hid (by rw [HWB.out]; exact hB0)
          clear hB0
          have hmk := fun W => run_makeMap (P := Try.prog) 53 W
          cases bd
          · go_wp2_with fail
            have hM0 := MapU.made wb
            have hbl0 := (Below.refl wb.heap.size wb).alloc (Nat.le_refl _) (.map #[] 0)
            go_loopw [30] (fun s30 wr => ∃ k : Nat, k ≤ m ∧ s30 = .int .i64 (k : Nat) ∧ Hid (MapU wr wb.heap.size k (seenS S k)) ∧ Hid (∀ i j, j < i → i < k → S i ≠ S j) ∧ Below wb.heap.size wb wr) (fun s30 _ => m - (intOf s30).toNat)
            case atStart => exact ⟨0, by omega, rfl, Lib.hid hM0, Lib.hid (fun i j _ h => absurd h (Nat.not_lt_zero _)), hbl0⟩
            case round =>
              clear hM0 hbl0
              obtain ⟨k, hk, rfl, HMU, HND, hbel⟩ := hrel
              by_cases hlt : k < m
              · obtain ⟨b, off, rfl, hbb, hc⟩ := HRB.out.at_ hlt
                have hc' : wr.cell? ⟨b, off + k, none⟩ = some (.int .u32 (S k)) := (hbel.cell (p := ⟨b, off + k, none⟩) hbb).trans hc
                have hlook := HMU.out.look (HS.out k hlt)
                have WX := Lib.hid (HS.out k hlt)
                have HRB2 := Lib.hid hbel
                clear hc
                by_cases hd : seenS S k (S k) = true
                · rw [hd] at hlook
                  have hd := seenS_iff.1 hd
                  have HD := Lib.hid hd
                  clear hd
                  go_wp2_with fail
                  go_ret
                  refine ⟨⟨3, rfl, ⟨(fun h => by cases h), fun h => ?_⟩⟩, HB0.out.trans (hbel.mono HB0.out.size)⟩
                  obtain ⟨i, hi, e⟩ := HD.out
                  exact absurd e.symm (h.2.2.2 k i hi hlt)
                · rw [Bool.eq_false_iff.2 hd] at hlook
                  have hd : ¬ ∃ i, i < k ∧ S i = S k := fun h => hd (seenS_iff.2 h)
                  have HD := Lib.hid hd
                  clear hd
                  obtain ⟨D, hD, hr⟩ := HMU.out
                  have HDO := Lib.hid hD
                  have HDR := Lib.hid hr
                  clear hD hr
                  go_wp2_with (at_mapUpdate; refine wpList_mapUpdate_own _ rfl _ _ _ 53 rfl 27 4 kU Try.underlying53 _ wb.heap.size k D rfl HDO.out (by unfold maxLen; omega) _ _ (.int .u32 (S k)) rfl rfl (keyU_int WX.out) (.lit (.bool true)) [] (plainElem_bool Try.underlying4 true) ?_; intro w1 hown1 hgrow1)
                  go_roundw
                  case rel => exact ⟨k + 1, by omega, by go_num, Lib.hid ⟨_, hown1, putU_reads HDO.out.isMap HDR.out (S k) true (kU.key (keyU_int WX.out))⟩, Lib.hid (fun i j hj hi => by
                    by_cases e : i = k
                    · subst e; exact fun e2 => HD.out ⟨j, hj, e2.symm⟩
                    · exact HND.out i j hj (by omega)), hbel.grown hgrow1 hbel.size (fun k e => by injection e with e; omega)⟩
                  case measure => simp [intOf]; omega
              · obtain rfl : k = m := by omega
                go_wp2_with fail
                go_ret
                exact ⟨⟨0, rfl, ⟨fun _ => ⟨⟨by omega, by omega⟩, ⟨by omega, by omega⟩, (by simpa using HBD.out), HND.out⟩, fun _ => rfl⟩⟩, HB0.out.trans (hbel.mono HB0.out.size)⟩
          · go_wp2_with fail
            go_ret
            refine ⟨⟨4, rfl, ⟨(fun h => by cases h), fun h => ?_⟩⟩, HB0.out⟩
            have := HBD.out
            simp at this
            obtain ⟨i, hi, h1⟩ := this
            have := h.2.2.1 i hi
            omega
end Go.Proofs.Ytmnleblbandghaa
