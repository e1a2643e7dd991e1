/- The Ackermann function is above its second argument, and grows in both arguments. No condition. -/
import Derived.Test.YtjnoolfdlgocjaaInside
import Derived.Test.YtjnoolfdlgocjaaAckMath
namespace Go.Proofs.Ytjnoolfdlgocjaa.funcsAck
open AckM Go.ChangeShapes Go.WideShapes Go.ChangeAt Go.RowKit
set_option linter.unusedVariables false
set_option maxRecDepth 100000 in
theorem ack_any (m : Nat) : ∀ (a n : Int) (w : World), a = m → m ≤ 5 → 0 ≤ n → n ≤ 9223372036854775807 →
    Calls Try.prog 11 #[.int .i64 a, .int .i64 n] w fun e w' => e = .returned (.tuple #[.int .i64 (vI (ackF m n.toNat)), .bool (vB (ackF m n.toNat))]) ∧ w = w' := by
  induction m with
  | zero =>
    intro a n w ha hm h0 h1
    subst ha
    by_cases hn : n < 1000
    · have e : ackF 0 n.toNat = some (n.toNat + 1) := by simp only [ackF]; rw [if_pos (by omega)]
      rw [e, vI_some, vB_some, show ((n.toNat + 1 : Nat) : Int) = n + 1 by omega]
      clear e
      go_enter Try.func11, Try.ntmps11
      go_wp2_with fail
      go_ret2
      exact ⟨rfl, rfl⟩
    · have e : ackF 0 n.toNat = none := by simp only [ackF]; rw [if_neg (by omega)]
      rw [e, vI_none, vB_none]
      clear e
      go_enter Try.func11, Try.ntmps11
      go_wp2_with fail
      go_ret2
      exact ⟨rfl, rfl⟩
  | succ m ih =>
    intro a n w ha hm h0 h1
    have ha' : 1 ≤ a := by omega
    have ha'' : a ≤ 5 := by omega
    have hz : (a == 0) = false := by rw [beq_eq_false_iff_ne]; omega
    have HA := Lib.hid ha
    have IH := Lib.hid ih
    clear ha ih
    by_cases hn : n < 1000
    · have e : ackF (m + 1) n.toNat = it (ackF m) (ackF m 1) n.toNat := by simp only [ackF]; rw [if_pos (by omega)]
      rw [e]
      clear e
      obtain ⟨N, rfl⟩ := Int.eq_ofNat_of_zero_le h0
      rw [Int.toNat_natCast]
      clear h1 h0
      go_enter Try.func11, Try.ntmps11
      go_wp2_with fail
      refine (IH.out (a - 1) 1 w (by have := HA.out; omega) (by omega) (by omega) (by omega)).mono ?_; rintro e w' ⟨rfl, rfl⟩
      go_wp2_with fail
      go_loop [1, 6, 7] (fun s1 s6 s7 => ∃ j k : Nat, j + k = N ∧ s1 = .int .i64 j ∧ s6 = .int .i64 (vI (it (ackF m) (ackF m 1) k)) ∧ s7 = .bool (vB (it (ackF m) (ackF m 1) k))) (fun s1 _ _ => (intOf s1).toNat)
      case atStart => exact ⟨N, 0, by omega, rfl, rfl, rfl⟩
      case round =>
        obtain ⟨j, k, hjk, rfl, rfl, rfl⟩ := hrel
        have HJ := Lib.hid hjk
        have hjl : j ≤ N := by omega
        clear hjk
        by_cases hj : 0 < j
        · by_cases hb : vB (it (ackF m) (ackF m 1) k) = true
          · obtain ⟨x, hx⟩ := of_vB hb
            have hxb : (x : Int) ≤ 1000 := by
              have := it_bd (ackF_bd m) (fun a h => ackF_bd m 1 a h) k x hx; omega
            have e2 : it (ackF m) (ackF m 1) (k + 1) = ackF m x := by simp only [it, hx]; rfl
            rw [hx, vI_some, vB_some]
            have E2 := Lib.hid e2
            clear hb hx e2
            go_wp2_with fail
            refine (IH.out (a - 1) x w (by have := HA.out; omega) (by omega) (by omega) (by omega)).mono ?_; rintro e w' ⟨rfl, rfl⟩
            rw [Int.toNat_natCast]
            go_wp2_with fail
            go_round
            case rel => exact ⟨j - 1, k + 1, by have := HJ.out; omega, by rw [show ((j - 1 : Nat) : Int) = (j : Int) - 1 by omega], by rw [E2.out], by rw [E2.out]⟩
            case measure => simp [intOf]; omega
          · have hb' : vB (it (ackF m) (ackF m 1) k) = false := by simpa using hb
            have e0 := of_vB_false hb'
            have e1 : it (ackF m) (ackF m 1) N = none := by have := it_none e0 j; rw [show k + j = N by have := HJ.out; omega] at this; exact this
            rw [e0, vI_none, vB_none]
            have E1 := Lib.hid e1
            clear hb hb' e0 e1
            go_wp2_with fail
            go_ret2
            exact ⟨by rw [E1.out]; rfl, rfl⟩
        · obtain rfl : k = N := by have := HJ.out; omega
          obtain rfl : j = 0 := by omega
          go_wp2_with fail
          go_ret2
          exact ⟨rfl, rfl⟩
    · have e : ackF (m + 1) n.toNat = none := by simp only [ackF]; rw [if_neg (by omega)]
      rw [e, vI_none, vB_none]
      clear e
      go_enter Try.func11, Try.ntmps11
      go_wp2_with fail
      go_ret2
      exact ⟨rfl, rfl⟩

def aV (m n : Int) : Int := if 0 ≤ m ∧ 0 ≤ n ∧ m ≤ 4 then vI (ackF m.toNat n.toNat) else 0
def aE (m n : Int) : Int := if 0 ≤ m ∧ 0 ≤ n ∧ m ≤ 4 then (if vB (ackF m.toNat n.toNat) then 0 else 7) else 4
set_option maxRecDepth 100000 in
theorem Ack_any (m n : Int) (w : World) (n1 : n ≤ 9223372036854775807) :
    Calls Try.prog 6 #[.int .i64 m, .int .i64 n] w fun e w' => e = .returned (.tuple #[.int .i64 (aV m n), .int .i64 (aE m n)]) ∧ w = w' := by
  by_cases h : 0 ≤ m ∧ 0 ≤ n ∧ m ≤ 4
  · unfold aV aE
    rw [if_pos h, if_pos h]
    obtain ⟨m0, n0, m4⟩ := h
    by_cases hb : vB (ackF m.toNat n.toNat) = true
    · rw [if_pos hb]
      go_enter Try.func6, Try.ntmps6
      go_wp2_with (go_at_call 11; refine (ack_any m.toNat m n w (by omega) (by omega) n0 n1).mono ?_; rintro e w' ⟨rfl, rfl⟩)
      go_ret2
      exact ⟨rfl, rfl⟩
    · have hb' : vB (ackF m.toNat n.toNat) = false := by simpa using hb
      rw [if_neg hb, of_vB_false hb', vI_none]
      go_enter Try.func6, Try.ntmps6
      go_wp2_with (go_at_call 11; refine (ack_any m.toNat m n w (by omega) (by omega) n0 n1).mono ?_; rintro e w' ⟨rfl, rfl⟩)
      go_ret2
      exact ⟨rfl, rfl⟩
  · unfold aV aE
    rw [if_neg h, if_neg h]
    by_cases h1 : m < 0
    · clear h
      go_enter Try.func6, Try.ntmps6
      go_wp2_with fail
      go_ret2
      exact ⟨rfl, rfl⟩
    · by_cases h2 : n < 0
      · clear h
        go_enter Try.func6, Try.ntmps6
        go_wp2_with fail
        go_ret2
        exact ⟨rfl, rfl⟩
      · have h3 : 4 < m := by omega
        clear h
        go_enter Try.func6, Try.ntmps6
        go_wp2_with fail
        go_ret2
        exact ⟨rfl, rfl⟩

theorem a_none {m n : Int} (h : 0 ≤ m ∧ 0 ≤ n ∧ m ≤ 4) (hn : ackF m.toNat n.toNat = none) : aV m n = 0 ∧ aE m n = 7 := by
  unfold aV aE; rw [if_pos h, if_pos h, hn]; exact ⟨rfl, rfl⟩
theorem a_some {m n : Int} {a : Nat} (h : 0 ≤ m ∧ 0 ≤ n ∧ m ≤ 4) (hn : ackF m.toNat n.toNat = some a) : aV m n = a ∧ aE m n = 0 := by
  unfold aV aE; rw [if_pos h, if_pos h, hn]; exact ⟨rfl, rfl⟩
theorem a_out {m n : Int} (h : ¬ (0 ≤ m ∧ 0 ≤ n ∧ m ≤ 4)) : aV m n = 0 ∧ aE m n = 4 := by
  unfold aV aE; rw [if_neg h, if_neg h]; exact ⟨rfl, rfl⟩
set_option maxRecDepth 100000 in
theorem walk (w : World) (m n : Int) (w0 : (Lit.int .i64 m).wf = true) (w1 : (Lit.int .i64 n).wf = true) :
    Calls Try.prog 3 #[.int .i64 m, .int .i64 n] w fun e w' => e = .returned (.bool true) ∧ Below w.heap.size w w' := by
  have hb := bounds_i64 w1
  have n1 : n ≤ 9223372036854775807 := hb.2
  clear w0 w1 hb
  by_cases h : 0 ≤ m ∧ 0 ≤ n ∧ m ≤ 4
  · cases hA : ackF m.toNat n.toNat with
    | none =>
      obtain ⟨e1, e2⟩ := a_none h hA
      have i1 := inB_yes h.1 h.2.2
      have n0 := h.2.1
      clear h hA
      go_enter Try.func3, Try.ntmps3
      go_wp2_with (first
        | (go_at_call 6; refine (Ack_any m n w n1).mono ?_; rintro e w' ⟨rfl, rfl⟩)
        | (go_at_call 7; refine (within_any _ _ _ _).mono ?_; rintro e w' ⟨rfl, rfl⟩))
      go_ret
      exact ⟨rfl, Below.refl _ _⟩
    | some a =>
      obtain ⟨e1, e2⟩ := a_some h hA
      have i1 := inB_yes h.1 h.2.2
      have n0 := h.2.1
      have m0 := h.1
      have m4 := h.2.2
      have hlt := ackF_lt hA
      have hgt := ackF_gt _ _ _ hA
      have nl : n < 1000 := by omega
      have al : n < (a : Int) := by omega
      clear n1
      -- the row's next
      have hf : (aE m (n + 1) = 7) ∨ (aE m (n + 1) = 0 ∧ (a : Int) < aV m (n + 1)) := by
        cases hB : ackF m.toNat (n + 1).toNat with
        | none => exact .inl (a_none ⟨m0, by omega, m4⟩ hB).2
        | some b =>
          obtain ⟨x1, x2⟩ := a_some (m := m) (n := n + 1) ⟨m0, by omega, m4⟩ hB
          refine .inr ⟨x2, ?_⟩
          rw [show (n + 1).toNat = n.toNat + 1 by omega] at hB
          have := ackF_next hA hB
          omega
      have hg : (m = 4 ∧ aE (m + 1) n = 4) ∨ (m < 4 ∧ aE (m + 1) n = 7) ∨ (m < 4 ∧ aE (m + 1) n = 0 ∧ (a : Int) < aV (m + 1) n) := by
        by_cases e4 : m = 4
        · exact .inl ⟨e4, (a_out (by omega)).2⟩
        · cases hB : ackF (m + 1).toNat n.toNat with
          | none => exact .inr (.inl ⟨by omega, (a_none ⟨by omega, n0, by omega⟩ hB).2⟩)
          | some c =>
            obtain ⟨x1, x2⟩ := a_some (m := m + 1) (n := n) ⟨by omega, n0, by omega⟩ hB
            refine .inr (.inr ⟨by omega, x2, ?_⟩)
            rw [show (m + 1).toNat = m.toNat + 1 by omega] at hB
            have := ackF_row hA hB
            omega
      clear h hA hlt hgt
      rcases hf with f1 | ⟨f1, f2⟩ <;> rcases hg with ⟨g1, g2⟩ | ⟨g1, g2⟩ | ⟨g1, g2, g3⟩
      all_goals try subst g1
      all_goals first
        | have hm4 : (m == 4) = false := by rw [beq_eq_false_iff_ne]; omega
        | skip
      all_goals
        go_enter Try.func3, Try.ntmps3
        go_wp2_with fail
        refine (Ack_any _ n w (by omega)).mono ?_; rintro e w' ⟨rfl, rfl⟩
        go_wp2_with (go_at_call 7; refine (within_any _ _ _ _).mono ?_; rintro e w' ⟨rfl, rfl⟩)
        refine (Ack_any _ _ w (by omega)).mono ?_; rintro e w' ⟨rfl, rfl⟩
        go_wp2_with fail
        refine (Ack_any _ _ w (by omega)).mono ?_; rintro e w' ⟨rfl, rfl⟩
        go_wp2_with fail
        go_ret
        exact ⟨rfl, Below.refl _ _⟩
  · obtain ⟨e1, e2⟩ := a_out h
    by_cases hm : 0 ≤ m ∧ m ≤ 4
    · have i1 := inB_yes hm.1 hm.2
      have n0 : n < 0 := by omega
      clear h hm
      go_enter Try.func3, Try.ntmps3
      go_wp2_with (first
        | (go_at_call 6; refine (Ack_any m n w n1).mono ?_; rintro e w' ⟨rfl, rfl⟩)
        | (go_at_call 7; refine (within_any _ _ _ _).mono ?_; rintro e w' ⟨rfl, rfl⟩))
      go_ret
      exact ⟨rfl, Below.refl _ _⟩
    · have i1 := inB_no hm
      clear h hm
      go_enter Try.func3, Try.ntmps3
      go_wp2_with (first
        | (go_at_call 6; refine (Ack_any m n w n1).mono ?_; rintro e w' ⟨rfl, rfl⟩)
        | (go_at_call 7; refine (within_any _ _ _ _).mono ?_; rintro e w' ⟨rfl, rfl⟩))
      go_ret
      exact ⟨rfl, Below.refl _ _⟩
end Go.Proofs.Ytjnoolfdlgocjaa.funcsAck
