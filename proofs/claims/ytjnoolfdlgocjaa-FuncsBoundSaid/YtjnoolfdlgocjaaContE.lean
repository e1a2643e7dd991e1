/- slices.Index and slices.Contains over ints. Condition: the slice reads as a function. -/
import Derived.Test.YtjnoolfdlgocjaaPred
namespace Go.Proofs.Ytjnoolfdlgocjaa
open Go.ChangeShapes Go.WideShapes Go.ChangeAt Go.RowKit
set_option linter.unusedVariables false
/-- is x among the first m -/
def hasI (f : Nat → Int) (m : Nat) (x : Int) : Bool := anyB (fun i => f i == x) m
theorem hasI_iff {f : Nat → Int} {m : Nat} {x : Int} : hasI f m x = true ↔ ∃ i, i < m ∧ f i = x := by
  unfold hasI anyB
  simp
set_option maxRecDepth 100000 in
theorem indexE_any (A : Option Addr) (m c : Nat) (f : Nat → Int) (x : Int) (w : World) (h : Rd w A m (fun i => .int .i64 (f i))) (hm : m ≤ maxLen) :
    Calls Try.prog 22 #[.slice A m c, .int .i64 x] w (IdxP m (fun i => f i == x) w) := by
  unfold maxLen at hm
  go_enter Try.func22, Try.ntmps22
  go_wp2_with fail
  go_loop [8] (fun i => ∃ k : Nat, k ≤ m ∧ i = .int .i64 k ∧ ∀ j, j < k → (f j == x) = false) (fun i => m - (intOf i).toNat)
  case atStart => exact ⟨0, Nat.zero_le _, rfl, fun j hj => absurd hj (Nat.not_lt_zero _)⟩
  case round =>
    obtain ⟨k, hk, rfl, hall0⟩ := hrel
    have hall := Lib.hid hall0
    clear hall0
    by_cases hlt : k < m
    · obtain ⟨b, off, rfl, _, hc⟩ := h.at_ hlt
      have H := Lib.hid h
      clear h
      obtain ⟨y, hy⟩ : ∃ y, y = f k := ⟨_, rfl⟩
      rw [← hy] at hc
      have HY := Lib.hid hy
      clear hy
      by_cases hq : x = y
      · subst hq
        go_wp2_with fail
        go_ret
        exact ⟨rfl, .inr ⟨k, hlt, anyB_yes hlt (by rw [← HY.out]; simp), rfl⟩⟩
      · have hb : (x == y) = false := by simpa using hq
        go_wp2_with fail
        go_round
        case rel => exact ⟨k + 1, by omega, by go_num, fun j hj => by
          by_cases e : j = k
          · subst e; rw [← HY.out]; simpa using fun e => hq e.symm
          · exact hall.out j (by omega)⟩
        case measure => simp [intOf]; omega
    · obtain rfl : k = m := by omega
      go_wp2_with fail
      go_ret
      exact ⟨rfl, .inl ⟨anyB_no hall.out, rfl⟩⟩
set_option maxRecDepth 100000 in
theorem hasE_any (A : Option Addr) (m c : Nat) (f : Nat → Int) (x : Int) (w : World) (h : Rd w A m (fun i => .int .i64 (f i))) (hm : m ≤ maxLen) :
    Calls Try.prog 21 #[.slice A m c, .int .i64 x] w fun e w' => e = .returned (.bool (hasI f m x)) ∧ w = w' := by
  have H := Lib.hid h
  clear h
  go_enter Try.func21, Try.ntmps21
  go_wp2_with fail
  refine (indexE_any A m c f x w H.out hm).mono ?_
  rintro e w' ⟨rfl, ⟨hok, rfl⟩ | ⟨k, hk, hok, rfl⟩⟩
  · have HO := Lib.hid hok
    clear hok
    go_wp2_with fail
    go_ret
    exact ⟨ret_bool (by show false = hasI f m x; exact HO.out.symm), rfl⟩
  · have HO := Lib.hid hok
    clear hok
    go_wp2_with fail
    go_ret
    exact ⟨ret_bool (by show true = hasI f m x; exact HO.out.symm), rfl⟩
end Go.Proofs.Ytjnoolfdlgocjaa
