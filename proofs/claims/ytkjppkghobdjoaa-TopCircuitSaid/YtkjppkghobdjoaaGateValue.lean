/- What gate.Check and gate.Value compute. Conditions: the slices read as functions. -/
import Derived.Test.YtkjppkghobdjoaaGateAll
namespace Go.Proofs.Ytkjppkghobdjoaa
open Go.ChangeShapes Go.WideShapes Go.ChangeAt Go.RowKit
set_option linter.unusedVariables false
def ckE (inn : Int) (F : Nat → Int) (n : Nat) : Int := if inn < 0 ∨ 5 < inn ∨ n < 1 ∨ 40 < n then 1 else gw inn F n
def vE (inn : Int) (F : Nat → Int) (n p : Nat) : Int := if ckE inn F n = 0 then (if (p : Int) = inn then 0 else 3) else ckE inn F n
def vB (inn : Int) (F : Nat → Int) (g : Nat → Bool) (n p : Nat) : Bool := if vE inn F n p = 0 then VA F g n (n - 1) else false
set_option maxRecDepth 100000 in
theorem check_any (inn : Int) (A : Option Addr) (n c : Nat) (F : Nat → Int) (w : World) (h : Rd w A (n * 3) (fun q => .int .i64 (F q))) (hn : n ≤ maxLen) :
    Calls Try.prog 11 #[.int .i64 inn, .slice A n c] w fun e w' => e = .returned (.int .i64 (ckE inn F n)) ∧ Below w.heap.size w w' := by
  have H := Lib.hid h
  have HN := Lib.hid hn
  unfold maxLen at hn
  clear h
  unfold ckE
  by_cases h1 : inn < 0
  · rw [if_pos (.inl h1)]
    go_enter Try.func11, Try.ntmps11
    go_wp2_with fail
    go_ret
    exact ⟨rfl, Below.refl _ _⟩
  · by_cases h2 : 5 < inn
    · rw [if_pos (.inr (.inl h2))]
      go_enter Try.func11, Try.ntmps11
      go_wp2_with fail
      go_ret
      exact ⟨rfl, Below.refl _ _⟩
    · by_cases h3 : n < 1
      · rw [if_pos (.inr (.inr (.inl h3)))]
        go_enter Try.func11, Try.ntmps11
        go_wp2_with fail
        go_ret
        exact ⟨rfl, Below.refl _ _⟩
      · by_cases h4 : 40 < n
        · rw [if_pos (.inr (.inr (.inr h4)))]
          go_enter Try.func11, Try.ntmps11
          go_wp2_with fail
          go_ret
          exact ⟨rfl, Below.refl _ _⟩
        · rw [if_neg (by omega)]
          go_enter Try.func11, Try.ntmps11
          go_wp2_with (go_at_call 28; refine (gwrong_any inn A n c F w H.out HN.out).mono ?_; rintro e w' ⟨rfl, hb⟩)
          go_ret
          exact ⟨rfl, hb⟩
theorem gw_zero {inn : Int} {F : Nat → Int} {n : Nat} (h : gw inn F n = 0) : ∀ k, k < n → gE inn F k = 0 := by
  induction n with
  | zero => intro k hk; omega
  | succ n ih =>
    have h' : (if gw inn F n = 0 then gE inn F n else gw inn F n) = 0 := h
    by_cases e : gw inn F n = 0
    · rw [if_pos e] at h'
      intro k hk
      by_cases ek : k = n
      · subst ek; exact h'
      · exact ih e k (by omega)
    · rw [if_neg e] at h'; exact absurd h' e
theorem ckE_zero {inn : Int} {F : Nat → Int} {n : Nat} (h : ckE inn F n = 0) : 0 ≤ inn ∧ inn ≤ 5 ∧ 1 ≤ n ∧ n ≤ 40 ∧ gw inn F n = 0 := by
  unfold ckE at h
  by_cases h1 : inn < 0 ∨ 5 < inn ∨ n < 1 ∨ 40 < n
  · rw [if_pos h1] at h; omega
  · rw [if_neg h1] at h; exact ⟨by omega, by omega, by omega, by omega, h⟩
set_option maxRecDepth 100000 in
theorem value_any (inn : Int) (A B : Option Addr) (n c p d : Nat) (F : Nat → Int) (g : Nat → Bool) (w : World) (h : Rd w A (n * 3) (fun q => .int .i64 (F q))) (hg : Rd w B p (fun q => .bool (g q))) (hn : n ≤ maxLen) (hp : p ≤ maxLen) :
    Calls Try.prog 6 #[.int .i64 inn, .slice A n c, .slice B p d] w fun e w' => e = .returned (.tuple #[.bool (vB inn F g n p), .int .i64 (vE inn F n p)]) ∧ Below w.heap.size w w' := by
  have H := Lib.hid h
  have G := Lib.hid hg
  have HN := Lib.hid hn
  unfold maxLen at hn hp
  clear h hg
  by_cases h1 : ckE inn F n = 0
  · obtain ⟨i0, i5, n1, n40, hw⟩ := ckE_zero h1
    by_cases h2 : (p : Int) = inn
    · subst h2
      have hv : vE (p : Int) F n p = 0 := by unfold vE; rw [if_pos h1, if_pos rfl]
      have hb : vB (p : Int) F g n p = VA F g n (n - 1) := by unfold vB; rw [if_pos hv]
      rw [hv, hb]
      have OK := Lib.hid (gw_zero hw)
      obtain ⟨N, hN⟩ : ∃ N, N = n - 1 := ⟨_, rfl⟩
      rw [← hN]
      have e1 : IntKind.i64.wrap ((n : Int) - 1) = N := by rw [show (n : Int) - 1 = N by omega]; exact IntWalk.i64_in _ (by omega)
      have e2 : N < n := by omega
      clear hw hv hb hN
      go_enter Try.func6, Try.ntmps6
      go_wp2_with fail
      refine (check_any (p : Int) A n c F w H.out HN.out).mono ?_
      rintro e w1 ⟨rfl, hb1⟩
      rw [h1]
      go_wp2_with fail
      refine (all_any A B n c p d F g w1 (H.out.below hb1) (G.out.below hb1) (by omega) (by omega) OK.out).mono ?_
      rintro e w2 ⟨A', c', rfl, hown, hb2⟩
      obtain ⟨b, off, rfl, _, cc⟩ := hown.rd.at_ e2
      clear hown
      go_wp2_with fail
      go_ret2
      exact ⟨rfl, hb1.trans (hb2.mono hb1.size)⟩
    · have hv : vE inn F n p = 3 := by unfold vE; rw [if_pos h1, if_neg h2]
      have hb : vB inn F g n p = false := by unfold vB; rw [hv]; rfl
      have hq : ((p : Int) != inn) = true := by rw [bne_iff_ne]; exact h2
      rw [hv, hb]
      clear hv hb h2
      go_enter Try.func6, Try.ntmps6
      go_wp2_with fail
      refine (check_any inn A n c F w H.out HN.out).mono ?_
      rintro e w1 ⟨rfl, hb1⟩
      rw [h1]
      go_wp2_with fail
      go_ret2
      exact ⟨rfl, hb1⟩
  · have hv : vE inn F n p = ckE inn F n := by unfold vE; rw [if_neg h1]
    have hb : vB inn F g n p = false := by unfold vB; rw [hv, if_neg h1]
    have hq : (ckE inn F n != 0) = true := by rw [bne_iff_ne]; exact h1
    rw [hv, hb]
    clear hv hb h1
    go_enter Try.func6, Try.ntmps6
    go_wp2_with fail
    refine (check_any inn A n c F w H.out HN.out).mono ?_
    rintro e w1 ⟨rfl, hb1⟩
    go_wp2_with fail
    go_ret2
    exact ⟨rfl, hb1⟩
end Go.Proofs.Ytkjppkghobdjoaa
