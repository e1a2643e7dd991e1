/- What tapeworksref.Weigh computes; what a weight more changes. Conditions: few weights, from 1 to 1000. -/
import Derived.Test.YtmnleblbandghaaLoneLeast2
import Derived.Test.YtmnleblbandghaaBit
namespace Go.Proofs.Ytmnleblbandghaa
open Go.ChangeShapes Go.WideShapes Go.ChangeAt Go.RowKit Go.Maps
set_option linter.unusedVariables false
theorem bitB_int (X t : Nat) : (X : Int) / 2 ^ t % 2 = if bitB X t then 1 else 0 := by
  have e : (X : Int) / 2 ^ t % 2 = ((X / 2 ^ t % 2 : Nat) : Int) := by simp
  rw [e]
  unfold bitB
  have : X / 2 ^ t % 2 = 0 ∨ X / 2 ^ t % 2 = 1 := by omega
  rcases this with h | h <;> rw [h] <;> rfl
set_option maxRecDepth 100000 in
theorem weigh_any (X : Nat) (WA : Option Addr) (nw cw : Nat) (W : Nat → Int) (w : World) (hX : X < 4294967296) (hw : Rd w WA nw (fun i => .int .i64 (W i))) (hn : nw ≤ 5) (hW : ∀ t, t < nw → 1 ≤ W t ∧ W t ≤ 1000) :
    Calls Try.prog 11 #[.int .u32 X, .slice WA nw cw] w fun e w' => e = .returned (.int .i64 (swt X W nw)) ∧ w = w' := by
  have HW := Lib.hid hw
  have HWB := Lib.hid hW
  clear hw hW
  go_enter Try.func11, Try.ntmps11
  go_wp2_with fail
  go_loop [5, 10] (fun s5 s10 => ∃ t : Nat, t ≤ nw ∧ s10 = .int .i64 (t : Nat) ∧ s5 = .int .i64 (swt X W t)) (fun _ s10 => nw - (intOf s10).toNat)
  case atStart => exact ⟨0, by omega, rfl, rfl⟩
  case round =>
    obtain ⟨t, ht, rfl, rfl⟩ := hrel
    have hu := swt_bd (x := X) HWB.out t ht
    by_cases hlw : t < nw
    · obtain ⟨b', off', rfl, hbb', hcw⟩ := HW.out.at_ hlw
      have hwt := HWB.out t hlw
      have hnx : swt X W (t + 1) = swt X W t + (X : Int) / 2 ^ t % 2 * W t := rfl
      rw [bitB_int] at hnx
      obtain ⟨V, hV⟩ : ∃ V, V = swt X W t := ⟨_, rfl⟩
      rw [← hV] at hu hnx ⊢
      clear hV
      cases hb : bitB X t
      · rw [hb] at hnx
        have HNX := Lib.hid hnx
        have HBB := Lib.hid hb
        clear hnx hb
        go_wp2_with (go_at_call 12; refine (bit_any X t _ (by omega) (by omega)).mono ?_; rintro e w' ⟨rfl, rfl⟩; rw [HBB.out])
        go_round
        case rel => exact ⟨t + 1, by omega, by go_num, by rw [HNX.out]; simp⟩
        case measure => simp [intOf]; omega
      · rw [hb] at hnx
        have HNX := Lib.hid hnx
        have HBB := Lib.hid hb
        clear hnx hb
        go_wp2_with (go_at_call 12; refine (bit_any X t _ (by omega) (by omega)).mono ?_; rintro e w' ⟨rfl, rfl⟩; rw [HBB.out])
        go_round
        case rel => exact ⟨t + 1, by omega, by go_num, by rw [HNX.out]; simp⟩
        case measure => simp [intOf]; omega
    · obtain rfl : t = nw := by omega
      go_wp2_with fail
      go_ret
      exact ⟨rfl, rfl⟩
def moreW (W : Nat → Int) (j : Nat) (t : Nat) : Int := if t = j then W t + 1 else W t
theorem swt_more (x : Int) (W : Nat → Int) (j : Nat) : ∀ t, swt x (moreW W j) t = swt x W t + if j < t then x / 2 ^ j % 2 else 0
  | 0 => rfl
  | t + 1 => by
    show swt x (moreW W j) t + x / 2 ^ t % 2 * (if t = j then W t + 1 else W t) = swt x W t + x / 2 ^ t % 2 * W t + _
    rw [swt_more x W j t]
    by_cases e : t = j
    · subst e
      rw [if_pos rfl, if_neg (Nat.lt_irrefl _), if_pos (by omega), Int.mul_add]; omega
    · rw [if_neg e]
      by_cases e2 : j < t
      · rw [if_pos e2, if_pos (by omega)]; omega
      · rw [if_neg e2, if_neg (by omega)]; omega
/-- has a set of the first t not the thing j? -/
def freeL (G : Nat → Int) (j : Nat) : Nat → Bool
  | 0 => false
  | t + 1 => freeL G j t || !bitB (G t).toNat j
theorem freeL_iff {G : Nat → Int} {j : Nat} : ∀ {t : Nat}, freeL G j t = true ↔ ∃ i, i < t ∧ bitB (G i).toNat j = false
  | 0 => ⟨(fun h => by cases h), fun ⟨i, hi, _⟩ => absurd hi (Nat.not_lt_zero _)⟩
  | t + 1 => by
    show (freeL G j t || !bitB (G t).toNat j) = true ↔ _
    rw [Bool.or_eq_true, freeL_iff, Bool.not_eq_true']
    constructor
    · rintro (⟨i, hi, h⟩ | h)
      · exact ⟨i, by omega, h⟩
      · exact ⟨t, by omega, h⟩
    · rintro ⟨i, hi, h⟩
      by_cases e : i = t
      · subst e; exact .inr h
      · exact .inl ⟨i, by omega, h⟩
theorem light_law {S W G G' : Nat → Int} {n m j cn cn' : Nat} {B B' : Int} (hj : j < n) (hS : ∀ i, i < m → 0 ≤ S i) (h : Lst (fun i => swt (S i) W n) S m B cn G) (h' : Lst (fun i => swt (S i) (moreW W j) n) S m B' cn' G') (h1 : 1 ≤ cn) (h1' : 1 ≤ cn') :
    (freeL G j cn = true → B' = B) ∧ (freeL G j cn = false → B' = B + 1) := by
  have hu : ∀ i, i < m → swt (S i) (moreW W j) n = swt (S i) W n + if bitB (S i).toNat j then 1 else 0 := fun i hi => by
    rw [swt_more, if_pos hj]
    congr 1
    have e : S i = ((S i).toNat : Int) := by have := hS i hi; omega
    rw [← bitB_int, ← e]
  obtain ⟨i0, hi0, _, hb0⟩ := h'.of 0 (by omega)
  obtain ⟨i1, hi1, hg1, hb1⟩ := h.of 0 (by omega)
  have hb0' : swt (S i0) (moreW W j) n = B' := hb0
  have hb1' : swt (S i1) W n = B := hb1
  have e0 := hu i0 hi0
  have l0 : B ≤ swt (S i0) W n := h.le i0 hi0
  have l1 : B' ≤ swt (S i1) (moreW W j) n := h'.le i1 hi1
  have e1 := hu i1 hi1
  constructor
  · intro hf
    obtain ⟨t, ht, hbt⟩ := freeL_iff.1 hf
    obtain ⟨i, hi, hg, hb⟩ := h.of t ht
    have hb' : swt (S i) W n = B := hb
    have l2 : B' ≤ swt (S i) (moreW W j) n := h'.le i hi
    have e2 := hu i hi
    rw [hg] at hbt
    rw [hbt] at e2
    simp at e2
    have : (0 : Int) ≤ if bitB (S i0).toNat j then 1 else 0 := by split <;> omega
    omega
  · intro hf
    have hall : ∀ t, t < cn → bitB (G t).toNat j = true := fun t ht => by
      cases hb : bitB (G t).toNat j
      · have := freeL_iff.2 ⟨t, ht, hb⟩
        rw [hf] at this; cases this
      · rfl
    have : (if bitB (S i1).toNat j then (1 : Int) else 0) ≤ 1 := by split <;> omega
    have h0 : (0 : Int) ≤ if bitB (S i0).toNat j then 1 else 0 := by split <;> omega
    by_cases hk : swt (S i0) W n = B
    · obtain ⟨t, ht, hg⟩ := h.all i0 hi0 hk
      have hbt := hall t ht
      rw [hg] at hbt
      rw [hbt] at e0
      simp at e0
      omega
    · omega
end Go.Proofs.Ytmnleblbandghaa
