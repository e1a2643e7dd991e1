/- What the laws' sign says, and All and Run whatever they say. Conditions: as each theorem states. -/
import Derived.Test.YtcbcbanknjhhhaaCrossAll
import Derived.Test.YtcbcbanknjhhhaaTapeCan
namespace Go.Proofs.Ytcbcbanknjhhhaa
open Go.ChangeShapes Go.WideShapes Go.ChangeAt Go.RowKit
set_option linter.unusedVariables false
set_option maxRecDepth 100000 in
theorem sign_any (s h lo at_ : Int) (A : Option Addr) (N c : Nat) (f : Int → Int) (w : World) (hr : Rd w A N (fun i => .int .i64 (f (lo + i)))) (hz : at_ < lo ∨ lo + N ≤ at_ → f at_ = 0) (l0 : -1000 ≤ lo) (l1 : lo ≤ 1000) (a0 : -1000 ≤ at_) (a1 : at_ ≤ 1000) (hN : N ≤ 2000) :
    Calls Try.prog 9 #[.agg #[.int .i64 s, .int .i64 h, .int .i64 lo, .slice A N c], .int .i64 at_] w fun e w' => e = .returned (.int .i64 (f at_)) ∧ Below w.heap.size w w' := by
  have HB := Lib.hid ((Below.refl w.heap.size w).alloc (Nat.le_refl _) (.cells #[.int .i64 s, .int .i64 h, .int .i64 lo, .slice A N c] 31))
  have HR := Lib.hid (hr.alloc (.cells #[.int .i64 s, .int .i64 h, .int .i64 lo, .slice A N c] 31))
  have HR0 := Lib.hid hr
  have HZ := Lib.hid hz
  clear hr hz
  by_cases h1 : at_ < lo
  · have e0 := Lib.hid (HZ.out (.inl h1))
    go_enter Try.func9, Try.ntmps9
    go_wp2_with fail
    go_ret
    exact ⟨ret_int e0.out.symm, HB.out⟩
  · obtain ⟨i, hi⟩ := Int.eq_ofNat_of_zero_le (show 0 ≤ at_ - lo by omega)
    by_cases h2 : N ≤ i
    · have e0 := Lib.hid (HZ.out (.inr (by omega)))
      have h3 : (N : Int) ≤ at_ - lo := by omega
      clear hi
      go_enter Try.func9, Try.ntmps9
      go_wp2_with fail
      go_ret
      exact ⟨ret_int e0.out.symm, HB.out⟩
    · obtain ⟨b, o, rfl, hb, hc⟩ := HR0.out.at_ (show i < N by omega)
      have e0 : f (lo + i) = f at_ := by congr 1; omega
      rw [e0] at hc
      have h3 : ¬ (N : Int) ≤ (i : Int) := by omega
      obtain ⟨v, hv⟩ : ∃ v, v = f at_ := ⟨_, rfl⟩
      rw [← hv] at hc
      have HV := Lib.hid hv
      clear e0 hv
      go_enter Try.func9, Try.ntmps9
      go_wp2_with fail
      go_ret
      exact ⟨ret_int HV.out, HB.out⟩
def AllSome (E : Int) (w : World) (e : Ending) (w' : World) : Prop := (∃ (X : Option Addr) (M c : Nat), e = .returned (.tuple #[.slice X M c, .int .i64 E])) ∧ Below w.heap.size w w'
def RunSome (E : Int) (w : World) (e : Ending) (w' : World) : Prop := (∃ (s h lo d : Int) (X : Option Addr) (M c : Nat), e = .returned (.tuple #[.agg #[.int .i64 s, .int .i64 h, .int .i64 lo, .slice X M c], .int .i64 d, .int .i64 E])) ∧ Below w.heap.size w w'
theorem all_some (S Y steps : Int) (T A : Option Addr) (n tc k c : Nat) (R : Nat → SI) (g : Nat → Int) (w : World) (hT : Tm w T n R) (hn : n ≤ maxLen) (hA : Rd w A k (fun i => .int .i64 (g i))) (hk : k ≤ maxLen) :
    Calls Try.prog 5 #[.agg #[.int .i64 S, .int .i64 Y, .slice T n tc], .slice A k c, .int .i64 steps] w (AllSome (rcE S Y n R k g steps) w) := by
  by_cases hE : rcE S Y n R k g steps = 0
  · refine (all_good S Y steps T A n tc k c R g w hT hn hA hE).mono ?_
    rintro e w' ⟨⟨d, p, G, Ar, cr, rfl, _, _⟩, hb⟩
    exact ⟨⟨_, _, _, by rw [hE]⟩, hb⟩
  · refine (all_bad S Y steps T A n tc k c R g w hT hn hA hk hE).mono ?_
    rintro e w' ⟨rfl, hb⟩
    exact ⟨⟨_, _, _, rfl⟩, hb⟩
theorem runs_some (S Y steps : Int) (T A : Option Addr) (n tc k c : Nat) (R : Nat → SI) (g : Nat → Int) (w : World) (hT : Tm w T n R) (hn : n ≤ maxLen) (hA : Rd w A k (fun i => .int .i64 (g i))) (hk : k ≤ maxLen) :
    Calls Try.prog 6 #[.agg #[.int .i64 S, .int .i64 Y, .slice T n tc], .slice A k c, .int .i64 steps] w (RunSome (rcE S Y n R k g steps) w) := by
  by_cases hE : rcE S Y n R k g steps = 0
  · refine (runs_good S Y steps T A n tc k c R g w hT hn hA hE).mono ?_
    rintro e w' ⟨⟨v, d, rfl, _, lo, hi, N, A3, c3, _, _, rfl, _⟩, hb⟩
    exact ⟨⟨_, _, _, _, _, _, _, by rw [hE]⟩, hb⟩
  · refine (runs_bad S Y steps T A n tc k c R g w hT hn hA hk hE).mono ?_
    rintro e w' ⟨rfl, hb⟩
    exact ⟨⟨0, 0, 0, 0, none, 0, 0, rfl⟩, hb⟩
end Go.Proofs.Ytcbcbanknjhhhaa
