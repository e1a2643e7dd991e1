/- wrong's closure: whether one function is there with so many arguments. No condition. -/
import Derived.Test.YtjnoolfdlgocjaaFnLaw
import Derived.Test.YtjnoolfdlgocjaaApp
import Derived.Test.YtjnoolfdlgocjaaContE
import Derived.Test.YtjnoolfdlgocjaaHeldMore
import Derived.Deep.RegionLaw
import Derived.WalkSpells
import Derived.OwnWalk
import Derived.Deep.DeepMust
import Derived.WalkLawsBesides
namespace Go.Proofs.Ytjnoolfdlgocjaa
open Go.ChangeShapes Go.WideShapes Go.ChangeAt Go.RowKit
set_option linter.unusedVariables false
set_option linter.unusedSimpArgs false
def thE (D : Nat → SF) (i : Nat) (j a : Int) : Int := if j < 0 ∨ (i : Int) ≤ j then 2 else if (D j.toNat).a = a then 0 else 3
theorem thE_zero (D : Nat → SF) (i : Nat) (j a : Int) : thE D i j a = 0 ↔ 0 ≤ j ∧ j < i ∧ (D j.toNat).a = a := by
  unfold thE
  by_cases h : j < 0 ∨ (i : Int) ≤ j
  · rw [if_pos h]; constructor
    · intro e; omega
    · intro e; omega
  · rw [if_neg h]
    by_cases e : (D j.toNat).a = a
    · rw [if_pos e]; exact ⟨fun _ => ⟨by omega, by omega, e⟩, fun _ => rfl⟩
    · rw [if_neg e]; exact ⟨fun h => by omega, fun h => absurd h.2.2 e⟩
theorem thE_of (D : Nat → SF) (i : Nat) (j a : Int) : thE D i j a = 0 ∨ thE D i j a = 2 ∨ thE D i j a = 3 := by
  unfold thE; split
  · exact .inr (.inl rfl)
  · split
    · exact .inl rfl
    · exact .inr (.inr rfl)
set_option maxRecDepth 100000 in
set_option maxHeartbeats 1000000 in
theorem thereG_any (D : Nat → SF) (i : Nat) (j a : Int) (b off xi xl n c : Nat) (W : World) (hi : W.cell? ⟨xi, 0, none⟩ = some (.int .i64 (i : Nat))) (hl : W.cell? ⟨xl, 0, none⟩ = some (.slice (some ⟨b, off, none⟩) n c)) (hin : i < n) (hn : n ≤ 100)
    (hr : Rd W (some ⟨b, off, none⟩) (n * 6) (fcF D)) :
    Calls Try.prog 20 #[.int .i64 j, .int .i64 a, .pointer (some ⟨xi, 0, none⟩), .pointer (some ⟨xl, 0, none⟩)] W fun e w' => e = .returned (.int .i64 (thE D i j a)) ∧ W = w' := by
  by_cases h0 : j < 0
  · go_enter Try.func20, Try.ntmps20
    go_wp2_with fail
    go_ret
    refine ⟨?_, rfl⟩
    rw [thE, if_pos (.inl h0)]
    rfl
  · by_cases h1 : (i : Int) ≤ j
    · go_enter Try.func20, Try.ntmps20
      go_wp2_with fail
      go_ret
      refine ⟨?_, rfl⟩
      rw [thE, if_pos (.inr h1)]
      rfl
    · obtain ⟨k, rfl⟩ : ∃ k : Nat, j = k := ⟨j.toNat, by omega⟩
      have hki : k < i := by omega
      have hc : W.cell? ⟨b, off + k * 6 + 1, none⟩ = some (.int .i64 (D k).a) := by
        rw [Nat.add_assoc]
        obtain ⟨b1, o1, e, _, hcell⟩ := hr (by omega)
        cases e
        have := hcell (k * 6 + 1) (by omega)
        simpa [fcF, show (k * 6 + 1) % 6 = 1 by omega, show (k * 6 + 1) / 6 = k by omega] using this
      have e1 : thE D i (k : Nat) a = if (D k).a = a then 0 else 3 := by
        rw [thE, if_neg (by omega)]; rfl
      have hjn : (k : Int) < (n : Int) := by omega
      have hji : (k : Int) < (i : Int) := by omega
      have h00 : (0 : Int) ≤ (k : Int) := by omega
      rw [e1]
      by_cases ea : (D k).a = a
      · have qa : ((D k).a != a) = false := by simp [ea]
        rw [if_pos ea]
        go_enter Try.func20, Try.ntmps20
        go_wp2_with fail
        go_ret
        exact ⟨rfl, rfl⟩
      · have qa : ((D k).a != a) = true := by simp [ea]
        rw [if_neg ea]
        go_enter Try.func20, Try.ntmps20
        go_wp2_with fail
        go_ret
        exact ⟨rfl, rfl⟩
end Go.Proofs.Ytjnoolfdlgocjaa
