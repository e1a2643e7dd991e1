/- The beta function recovers every element of an encoded list. No condition: every list. -/
import Derived.Test.YtgcbbajfcccphaaInside
import Derived.Test.YtgcbbajfcccphaaPairListMath
namespace Go.Proofs.Ytgcbbajfcccphaa.pairList
open Go.ChangeShapes Go.WideShapes Go.ChangeAt Go.RowKit PairL
set_option linter.unusedVariables false

theorem find_long (A : Option Addr) (n c : Nat) (w : World) (hn : 5 < n) (hm : n ≤ maxLen) :
    Calls Try.prog 8 #[.slice A n c] w fun e w' => e = .returned (.tuple #[.int .i64 0, .int .i64 0, .int .i64 1]) ∧ w = w' := by
  unfold maxLen at hm
  go_enter Try.func8, Try.ntmps8
  go_wp2
  go_ret3
  exact ⟨rfl, rfl⟩

theorem find_range (A : Option Addr) (n c : Nat) (f : Nat → Int) (w : World) (h : Rd w A n (fun i => .int .i64 (f i))) (hn : n ≤ 5) (hb : ¬ ∀ i, i < n → 0 ≤ f i ∧ f i ≤ 20) :
    Calls Try.prog 8 #[.slice A n c] w fun e w' => e = .returned (.tuple #[.int .i64 0, .int .i64 0, .int .i64 4]) ∧ w = w' := by
  have HB := Lib.hid hb
  clear hb
  go_enter Try.func8, Try.ntmps8
  go_wp2
  go_loop [18] (fun i => ∃ k : Nat, k ≤ n ∧ i = .int .i64 k ∧ ∀ j, j < k → 0 ≤ f j ∧ f j ≤ 20) (fun i => n - (intOf i).toNat)
  case atStart => exact ⟨0, Nat.zero_le _, rfl, fun j hj => absurd hj (Nat.not_lt_zero _)⟩
  case round =>
    obtain ⟨k, hk, rfl, hall0⟩ := hrel
    by_cases hlt : k < n
    · have hall := Lib.hid hall0
      clear hall0
      obtain ⟨b, off, rfl, _, hc⟩ := h.at_ hlt
      have H := Lib.hid h
      clear h
      by_cases h0 : f k < 0
      · go_wp2
        go_ret3
        exact ⟨rfl, rfl⟩
      · by_cases h1 : 20 < f k
        · go_wp2
          go_ret3
          exact ⟨rfl, rfl⟩
        · go_wp2
          go_round
          case rel => exact ⟨k + 1, by omega, by go_num, fun j hj => by
            by_cases e : j = k
            · subst e; omega
            · exact hall.out j (by omega)⟩
          case measure => simp [intOf]; omega
    · obtain rfl : k = n := by omega
      exact absurd hall0 HB.out

def FindRes (n : Nat) (f : Nat → Int) (w : World) (e : Ending) (w' : World) : Prop :=
  w = w' ∧ ∃ a : Int, e = .returned (.tuple #[.int .i64 a, .int .i64 24, .int .i64 0]) ∧ 0 ≤ a ∧ a ≤ 1049581225 ∧ ∀ i, i < n → a % md i = f i

theorem find_ok (A : Option Addr) (n c : Nat) (f : Nat → Int) (w : World) (h : Rd w A n (fun i => .int .i64 (f i))) (hn : n ≤ 5) (hb0 : ∀ i, i < n → 0 ≤ f i ∧ f i ≤ 20) :
    Calls Try.prog 8 #[.slice A n c] w (FindRes n f w) := by
  have HB := Lib.hid hb0
  clear hb0
  go_enter Try.func8, Try.ntmps8
  go_wp2
  go_loop [18] (fun i => ∃ k : Nat, k ≤ n ∧ i = .int .i64 k) (fun i => n - (intOf i).toNat)
  case atStart => exact ⟨0, Nat.zero_le _, rfl⟩
  case round =>
    obtain ⟨k, hk, rfl⟩ := hrel
    by_cases hlt : k < n
    · obtain ⟨b, off, rfl, _, hc⟩ := h.at_ hlt
      have H := Lib.hid h
      clear h
      obtain ⟨h0, h1⟩ := HB.out k hlt
      go_wp2
      go_round
      case rel => exact ⟨k + 1, by omega, by go_num⟩
      case measure => simp [intOf]; omega
    · obtain rfl : k = n := by omega
      clear hlt
      go_wp2
      go_loop [31, 8, 9] (fun i a all => ∃ (i' : Nat) (x : Int), i' ≤ k ∧ i = .int .i64 i' ∧ a = .int .i64 x ∧ all = .int .i64 (al i') ∧ 0 ≤ x ∧ x < al i' ∧ ∀ j, j < i' → x % md j = f j) (fun i _ _ => k - (intOf i).toNat)
      case atStart => exact ⟨0, 0, Nat.zero_le _, rfl, rfl, rfl, by decide, by decide, fun j hj => absurd hj (Nat.not_lt_zero _)⟩
      case round =>
        obtain ⟨i, x, hi, rfl, rfl, rfl, x0, x1, hall0⟩ := hrel
        have hall := Lib.hid hall0
        clear hall0
        by_cases hlt : i < k
        · obtain ⟨b, off, rfl, _, hc⟩ := h.at_ hlt
          have H := Lib.hid h
          clear h
          obtain ⟨h0, h1⟩ := HB.out i hlt
          have hbd := al_bd i
          obtain ⟨al0, al1⟩ := hbd
          have hm : md i = 1 + ((i : Int) + 1) * 24 := by unfold md; omega
          obtain ⟨t, ht, hfit⟩ := fits (i := i) (a := x) (by omega) h0 h1
          obtain ⟨g, hg⟩ : ∃ g : Nat → Int, ∀ s, g s = x + s * al i := ⟨_, fun _ => rfl⟩
          have gs : ∀ s, g (s + 1) = g s + al i := fun s => by rw [hg, hg]; simp only [Int.natCast_add, Int.add_mul]; omega
          have gb : ∀ s, s ≤ t → 0 ≤ g s ∧ g s < al (i + 1) := fun s hs => by
            rw [hg]
            have := small (i := i) (by omega) x1 (s := s) (by omega)
            have h2 : 0 ≤ (s : Int) * al i := Int.mul_nonneg (by omega) (by omega)
            omega
          have gt : g t % (1 + ((i : Int) + 1) * 24) = f i := by rw [hg, ← hm]; exact hfit
          have gk : ∀ s j, j < i → g s % md j = x % md j := fun s j hj => by rw [hg]; exact keeps (by omega) hj
          have g0 : g 0 = x := by rw [hg]; simp
          have gm : ∀ s, s ≤ t → g s ≤ g t := fun s hs => by
            rw [hg, hg]
            have := Int.mul_le_mul_of_nonneg_right (show (s : Int) ≤ t by omega) (show 0 ≤ al i by omega)
            omega
          have am : al (i + 1) = al i * (1 + ((i : Int) + 1) * 24) := by rw [al_succ (by omega), hm]
          have hbd1 := al_bd (i + 1)
          have mb0 : 0 ≤ al i * (1 + ((i : Int) + 1) * 24) := by omega
          have mb1 : al i * (1 + ((i : Int) + 1) * 24) ≤ 1049581225 := by omega
          have GS := Lib.hid gs
          have GB := Lib.hid gb
          have GT := Lib.hid gt
          have GK := Lib.hid gk
          have GM := Lib.hid gm
          have AM := Lib.hid am
          have HM := Lib.hid hm
          clear gs gb gt gk gm am hm hg hfit
          obtain rfl := g0
          go_wp2
          go_loop [8] (fun a => ∃ s : Nat, s ≤ t ∧ a = .int .i64 (g s)) (fun a => (g t - intOf a).toNat)
          case atStart => exact ⟨0, Nat.zero_le _, rfl⟩
          case round =>
            obtain ⟨s, hs, rfl⟩ := hrel
            obtain ⟨gs0, gs1⟩ := GB.out s hs
            by_cases he : g s % (1 + ((i : Int) + 1) * 24) = f i
            · have hq : (g s % (1 + ((i : Int) + 1) * 24) != f i) = false := by simp [he]
              have HE := Lib.hid he
              clear he
              go_wp2
              go_round
              case rel => exact ⟨i + 1, g s, by omega, by go_num, rfl, by rw [AM.out], gs0, gs1, fun j hj => by
                by_cases e : j = i
                · subst e; rw [HM.out]; exact HE.out
                · rw [GK.out s j (by omega)]; exact hall.out j (by omega)⟩
              case measure => simp [intOf]; omega
            · have hq : (g s % (1 + ((i : Int) + 1) * 24) != f i) = true := by simp [he]
              have hst : s < t := by
                by_cases e : s = t
                · subst e; exact absurd GT.out he
                · omega
              have hmm := GM.out (s + 1) hst
              have HG := Lib.hid (GS.out s)
              clear he
              go_wp2
              go_round
              case rel => exact ⟨s + 1, by omega, by rw [HG.out]⟩
              case measure => have := HG.out; simp [intOf]; omega
        · obtain rfl : i = k := by omega
          have hbd := al_bd i
          obtain ⟨al0, al1⟩ := hbd
          go_wp2
          go_ret3
          exact ⟨rfl, x, rfl, x0, by omega, hall.out⟩
theorem beta_24 (a : Int) (i : Nat) (w : World) (a0 : 0 ≤ a) (i1 : i < 5) :
    Calls Try.prog 10 #[.int .i64 a, .int .i64 24, .int .i64 i] w fun e w' => e = .returned (.tuple #[.int .i64 (a % (1 + ((i : Int) + 1) * 24)), .int .i64 0]) ∧ w = w' := by
  go_enter Try.func10, Try.ntmps10
  go_wp2
  go_ret2
  exact ⟨rfl, rfl⟩

theorem walk (w : World) (A : Option Addr) (n c : Nat) (f : Nat → Int) (h : Rd w A n (fun i => .int .i64 (f i))) (wf : ∀ i, (Lit.int .i64 (f i)).wf = true) (hl : n ≤ c) (hm : c ≤ maxLen) (z : c * 8 ≤ 140737488351232) :
    Calls Try.prog 4 #[.slice A n c] w fun e w' => e = .returned (.bool true) ∧ Below w.heap.size w w' := by
  have hnm : n ≤ maxLen := by omega
  have HN := Lib.hid hnm
  clear hnm hm wf
  by_cases hn : n ≤ 5
  · by_cases hb : insB 21 n f = true
    · have hall : ∀ i, i < n → 0 ≤ f i ∧ f i ≤ 20 := fun i hi => by have := insB_iff.1 hb i hi; omega
      go_enter Try.func4, Try.ntmps4
      go_wp2_with fail
      refine (find_ok A n c f w h hn hall).mono ?_
      rintro e w' ⟨rfl, a, rfl, a0, a1, hmod⟩
      have HM := Lib.hid hmod
      have H := Lib.hid h
      clear hall hmod h
      go_wp2_with (go_at_call 9; refine (inside_any 21 A n c f w H.out HN.out).mono ?_; rintro e w' ⟨rfl, rfl⟩)
      go_loop [40] (fun i => ∃ k : Nat, k ≤ n ∧ i = .int .i64 k) (fun i => n - (intOf i).toNat)
      case atStart => exact ⟨0, Nat.zero_le _, rfl⟩
      case round =>
        obtain ⟨k, hk, rfl⟩ := hrel
        by_cases hlt : k < n
        · obtain ⟨b, off, rfl, _, hc⟩ := H.out.at_ hlt
          have hq : (a % (1 + ((k : Int) + 1) * 24) != f k) = false := by
            have := HM.out k hlt
            rw [show md k = 1 + ((k : Int) + 1) * 24 by unfold md; omega] at this
            simp [this]
          go_wp2_with (go_at_call 10; refine (beta_24 _ _ _ a0 (by omega)).mono ?_; rintro e w' ⟨rfl, rfl⟩)
          go_round
          case rel => exact ⟨k + 1, by omega, by go_num⟩
          case measure => simp [intOf]; omega
        · obtain rfl : k = n := by omega
          go_wp2
          go_ret
          exact ⟨rfl, Below.refl _ _⟩
    · have hb' : insB 21 n f = false := by simpa using hb
      have hall : ¬ ∀ i, i < n → 0 ≤ f i ∧ f i ≤ 20 := fun hh => hb (insB_iff.2 fun i hi => by have := hh i hi; omega)
      clear hb
      go_enter Try.func4, Try.ntmps4
      go_wp2_with fail
      refine (find_range A n c f w h hn hall).mono ?_
      rintro e w' ⟨rfl, rfl⟩
      have H := Lib.hid h
      clear hall h
      go_wp2_with (go_at_call 9; refine (inside_any 21 A n c f w H.out HN.out).mono ?_; rintro e w' ⟨rfl, rfl⟩)
      go_ret
      exact ⟨rfl, Below.refl _ _⟩
  · have hn' : 5 < n := by omega
    clear hn h
    go_enter Try.func4, Try.ntmps4
    go_wp2_with fail
    refine (find_long A n c w hn' HN.out).mono ?_
    rintro e w' ⟨rfl, rfl⟩
    go_wp2_with fail
    go_ret
    exact ⟨rfl, Below.refl _ _⟩
end Go.Proofs.Ytgcbbajfcccphaa.pairList
