/- What wave.Turn computes, and the statements' waved. Conditions: the sizes. -/
import Derived.Test.YtjaakdjkacnfkaaWaveEach
namespace Go.Proofs.Ytjaakdjkacnfkaa
open WaveM Go.ChangeShapes Go.WideShapes Go.ChangeAt Go.RowKit
set_option linter.unusedVariables false
theorem wvE_zero {n : Int} {m : Nat} {f : Nat → Int} (h : wvE n m f = 0) : ∃ N : Nat, n = N ∧ N ≤ 4 ∧ m = 2 ^ N ∧ okR m f := by
  unfold wvE at h
  by_cases hn : 0 ≤ n ∧ n ≤ 4
  · rw [if_pos hn] at h
    by_cases hm : m = 2 ^ n.toNat
    · rw [if_pos hm] at h
      by_cases ho : okR m f
      · exact ⟨n.toNat, by omega, by omega, hm, ho⟩
      · rw [if_neg ho] at h; omega
    · rw [if_neg hm] at h; omega
  · rw [if_neg hn] at h; omega
theorem wvE_is {N m : Nat} {f : Nat → Int} (hN : N ≤ 4) (hm : m = 2 ^ N) (ho : okR m f) : wvE (N : Int) m f = 0 := by
  unfold wvE; rw [if_pos ⟨by omega, by omega⟩, Int.toNat_natCast, if_pos hm, if_pos ho]
set_option maxRecDepth 100000 in
theorem turn_bad (n : Int) (A : Option Addr) (m c : Nat) (f : Nat → Int) (w : World) (h : Rd w A m (fun i => .int .i64 (f i))) (hm : m ≤ maxLen) (hv : wvE n m f ≠ 0) :
    Calls Try.prog 7 #[.int .i64 n, .slice A m c] w fun e w' => e = .returned (.tuple #[.slice none 0 0, .int .i64 (wvE n m f)]) ∧ w = w' := by
  have hq : (wvE n m f != 0) = true := by rw [bne_iff_ne]; exact hv
  have H := Lib.hid h
  clear h hv
  go_enter Try.func7, Try.ntmps7
  go_wp2_with (go_at_call 15; refine (wrong_any n A m c f w H.out hm).mono ?_; rintro e w' ⟨rfl, rfl⟩)
  go_ret2
  exact ⟨rfl, rfl⟩
set_option maxRecDepth 100000 in
theorem turn_good (N : Nat) (A : Option Addr) (m c : Nat) (f : Nat → Int) (w : World) (h : Rd w A m (fun i => .int .i64 (f i))) (hN : N ≤ 4) (hm : m = 2 ^ N) (ho : okR m f) :
    Calls Try.prog 7 #[.int .i64 N, .slice A m c] w fun e w' => ∃ A' c', e = .returned (.tuple #[.slice A' m c', .int .i64 0]) ∧ Rd w' A' m (fun i => .int .i64 (E tA tS f N i)) ∧ m ≤ c' ∧ c' ≤ maxLen ∧ Below w.heap.size w w' := by
  have hv := wvE_is hN hm ho
  have p := pow_bd hN
  have hml : m ≤ maxLen := by unfold maxLen; omega
  have hB : ∀ i, i ≤ N → ∀ z, z < m → -1000000000000 ≤ E tA tS f i z ∧ E tA tS f i z ≤ 1000000000000 := fun i hi z hz => by
    have := E_bd' hN (f := f) (B := 1000000000) (by omega) (fun z hz => by have := ho z (by omega); omega) i hi z (by omega)
    omega
  have H := Lib.hid h
  have HM := Lib.hid hm
  have HB := Lib.hid hB
  clear h hm hB ho p
  go_enter Try.func7, Try.ntmps7
  go_wp2_with (first
    | (go_at_call 15; refine (wrong_any N A m c f w H.out hml).mono ?_; rintro e w' ⟨rfl, rfl⟩)
    | (go_at_call 16; refine (each_turn N A m c f w H.out hN HM.out HB.out).mono ?_; rintro e w' ⟨A', c', rfl, hrd, hle, hmx, hb⟩))
  go_ret2
  exact ⟨_, _, rfl, hrd, hle, hmx, hb⟩
/-- Turn at whatever arguments -/
def TurnRes (n : Int) (m : Nat) (f : Nat → Int) (w : World) (e : Ending) (w' : World) : Prop :=
  (wvE n m f ≠ 0 ∧ e = .returned (.tuple #[.slice none 0 0, .int .i64 (wvE n m f)]) ∧ w = w') ∨
  (∃ N A' c', n = (N : Nat) ∧ N ≤ 4 ∧ m = 2 ^ N ∧ okR m f ∧ wvE n m f = 0 ∧ e = .returned (.tuple #[.slice A' m c', .int .i64 0]) ∧ Rd w' A' m (fun i => .int .i64 (E tA tS f N i)) ∧ m ≤ c' ∧ c' ≤ maxLen ∧ Below w.heap.size w w')
theorem turn_all (n : Int) (A : Option Addr) (m c : Nat) (f : Nat → Int) (w : World) (h : Rd w A m (fun i => .int .i64 (f i))) (hm : m ≤ maxLen) :
    Calls Try.prog 7 #[.int .i64 n, .slice A m c] w (TurnRes n m f w) := by
  by_cases hv : wvE n m f = 0
  · obtain ⟨N, rfl, hN, hm2, ho⟩ := wvE_zero hv
    exact (turn_good N A m c f w h hN hm2 ho).mono fun e w' ⟨A', c', h1, h2, h3, h4, h5⟩ => .inr ⟨N, A', c', rfl, hN, hm2, ho, hv, h1, h2, h3, h4, h5⟩
  · exact (turn_bad n A m c f w h hm hv).mono fun e w' ⟨h1, h2⟩ => .inl ⟨hv, h1, h2⟩
def isZ (x : Int) : Bool := x == 0
set_option maxRecDepth 100000 in
theorem waved_any (n : Int) (A : Option Addr) (m c : Nat) (f : Nat → Int) (w : World) (h : Rd w A m (fun i => .int .i64 (f i))) (hm : m ≤ maxLen) :
    Calls Try.prog 8 #[.int .i64 n, .slice A m c] w fun e w' => e = .returned (.bool (isZ (wvE n m f))) ∧ w = w' := by
  have H := Lib.hid h
  clear h
  go_enter Try.func8, Try.ntmps8
  go_wp2_with (go_at_call 18; refine (waveCheck_any n A m c f w H.out hm).mono ?_; rintro e w' ⟨rfl, rfl⟩)
  go_ret
  exact ⟨rfl, rfl⟩
end Go.Proofs.Ytjaakdjkacnfkaa
