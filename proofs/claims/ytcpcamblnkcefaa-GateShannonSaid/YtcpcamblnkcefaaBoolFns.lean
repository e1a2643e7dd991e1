/- slices.Contains and slices.Equal over []bool. Conditions: the slices read as told. -/
import Derived.Test.YtcpcamblnkcefaaLib
import Derived.BigQuiet
import Derived.Deep.QuietTactic
namespace Go.Proofs.Ytcpcamblnkcefaa
open Go.ChangeShapes Go.WideShapes Go.ChangeAt Go.RowKit
set_option linter.unusedVariables false
def hasB (f : Nat → Bool) (v : Bool) (n : Nat) : Bool := decide (∃ i, i < n ∧ f i = v)
theorem hasB_yes {f : Nat → Bool} {v : Bool} {n k : Nat} (h : k < n) (e : f k = v) : hasB f v n = true := decide_eq_true ⟨k, h, e⟩
theorem hasB_no {f : Nat → Bool} {v : Bool} {n : Nat} (h : ∀ i, i < n → f i ≠ v) : hasB f v n = false := decide_eq_false fun ⟨i, hi, e⟩ => h i hi e
set_option maxRecDepth 100000 in
theorem indexB_any (A : Option Addr) (n c : Nat) (f : Nat → Bool) (v : Bool) (w : World) (h : Rd w A n (fun i => .bool (f i))) (hn : n ≤ maxLen) :
    Calls Try.prog 26 #[.slice A n c, .bool v] w fun e w' => (∃ i : Int, e = .returned (.int .i64 i) ∧ decide (0 ≤ i) = hasB f v n) ∧ w = w' := by
  unfold maxLen at hn
  have H := Lib.hid h
  clear h
  go_enter Try.func26, Try.ntmps26
  go_wp2
  go_loop [8] (fun i => ∃ k : Nat, k ≤ n ∧ i = .int .i64 k ∧ Hid (∀ j, j < k → f j ≠ v)) (fun i => n - (intOf i).toNat)
  case atStart => exact ⟨0, Nat.zero_le _, rfl, Lib.hid (fun j hj => absurd hj (Nat.not_lt_zero _))⟩
  case round =>
    obtain ⟨k, hk, rfl, HA⟩ := hrel
    by_cases hlt : k < n
    · obtain ⟨b, off, rfl, hb, hc⟩ := H.out.at_ hlt
      by_cases he : f k = v
      · have q : (v == f k) = true := by simp [he]
        have HE := Lib.hid he
        clear he
        go_wp2_with fail
        go_ret
        exact ⟨⟨_, rfl, by rw [hasB_yes hlt HE.out]; simp⟩, rfl⟩
      · have q : (v == f k) = false := by rw [beq_eq_false_iff_ne]; exact fun e => he e.symm
        have HE := Lib.hid he
        clear he
        go_wp2_with fail
        go_round
        case rel => exact ⟨k + 1, by omega, by go_num, Lib.hid (fun j hj => by
          by_cases e : j = k
          · subst e; exact HE.out
          · exact HA.out j (by omega))⟩
        case measure => simp [intOf]; omega
    · obtain rfl : k = n := by omega
      go_wp2_with fail
      go_ret
      exact ⟨⟨_, rfl, by rw [hasB_no HA.out]; decide⟩, rfl⟩
set_option maxRecDepth 100000 in
theorem containsB_any (A : Option Addr) (n c : Nat) (f : Nat → Bool) (v : Bool) (w : World) (h : Rd w A n (fun i => .bool (f i))) (hn : n ≤ maxLen) :
    Calls Try.prog 22 #[.slice A n c, .bool v] w fun e w' => e = .returned (.bool (hasB f v n)) ∧ w = w' := by
  have H := Lib.hid (indexB_any A n c f v w h hn)
  clear h hn
  go_enter Try.func22, Try.ntmps22
  go_wp2_with fail
  refine H.out.mono ?_
  rintro e w' ⟨⟨i, rfl, hi⟩, rfl⟩
  have HI := Lib.hid hi
  clear hi
  go_wp2_with fail
  go_ret
  exact ⟨ret_bool HI.out, rfl⟩
set_option maxRecDepth 100000 in
theorem equalB_any (A B : Option Addr) (n c d : Nat) (f g : Nat → Bool) (w : World) (b : Bool) (hs : decide (∀ i, i < n → f i = g i) = b) (h : Rd w A n (fun i => .bool (f i))) (h' : Rd w B n (fun i => .bool (g i))) (hn : n ≤ maxLen) :
    Calls Try.prog 24 #[.slice A n c, .slice B n d] w fun e w' => e = .returned (.bool b) ∧ ∃ k, w' = w.drewN k := by
  unfold maxLen at hn
  have H := Lib.hid h
  have H' := Lib.hid h'
  have HSS := Lib.hid hs
  clear h h' hs
  go_enter Try.func24, Try.ntmps24
  go_wp2
  go_loopw [13] (fun i wr => ∃ k : Nat, k ≤ n ∧ i = .int .i64 k ∧ Hid (∀ j, j < k → f j = g j) ∧ Hid (∃ q, wr = w.drewN q)) (fun i _ => n - (intOf i).toNat)
  case atStart => exact ⟨0, Nat.zero_le _, rfl, Lib.hid (fun j hj => absurd hj (Nat.not_lt_zero _)), Lib.hid ⟨0, rfl⟩⟩
  case round =>
    obtain ⟨k, hk, rfl, HA, hq⟩ := hrel
    by_cases hlt : k < n
    · obtain ⟨b, off, rfl, hb, hc0⟩ := H.out.at_ hlt
      obtain ⟨b', off', rfl, hb', hc0'⟩ := H'.out.at_ hlt
      have hc : wr.cell? ⟨b, off + k, none⟩ = some (.bool (f k)) := by obtain ⟨q, e⟩ := hq.out; rw [e]; exact hc0
      have hc' : wr.cell? ⟨b', off' + k, none⟩ = some (.bool (g k)) := by obtain ⟨q, e⟩ := hq.out; rw [e]; exact hc0'
      have more : ∀ nq, Hid (∃ q, wr.drewN nq = w.drewN q) := fun nq => Lib.hid (by obtain ⟨q, e⟩ := hq.out; exact ⟨q + nq, by rw [e, World.drewN_drewN]⟩)
      have MORE := Lib.hid more
      clear more hc0 hc0'
      obtain ⟨x, hx⟩ : ∃ x, x = f k := ⟨_, rfl⟩
      obtain ⟨y, hy⟩ : ∃ y, y = g k := ⟨_, rfl⟩
      rw [← hx] at hc
      rw [← hy] at hc'
      have HX := Lib.hid hx
      have HY := Lib.hid hy
      clear hx hy
      by_cases he : x = y
      · subst he
        go_wp2
        go_quiet (fail)
        cases x
        all_goals
          go_wp2
          go_roundw
          case rel => exact ⟨k + 1, by omega, by go_num, Lib.hid (fun j hj => by
            by_cases e : j = k
            · subst e; rw [← HX.out, HY.out]
            · exact HA.out j (by omega)), MORE.out nq⟩
          case measure => simp [intOf]; omega
      · have hd : decide (∀ i, i < n → f i = g i) = false := decide_eq_false fun h => he (by rw [HX.out, HY.out]; exact h k hlt)
        have HF := Lib.hid (hd.symm.trans HSS.out)
        clear hd
        have HE := Lib.hid he
        clear he
        go_wp2
        go_quiet (fail)
        cases x <;> cases y
        · exact absurd rfl HE.out
        · go_wp2
          go_ret
          exact ⟨ret_bool HF.out, (MORE.out nq).out⟩
        · go_wp2
          go_ret
          exact ⟨ret_bool HF.out, (MORE.out nq).out⟩
        · exact absurd rfl HE.out
    · obtain rfl : k = n := by omega
      go_wp2
      go_ret
      exact ⟨ret_bool ((decide_eq_true HA.out).symm.trans HSS.out), hq.out⟩
end Go.Proofs.Ytcpcamblnkcefaa
