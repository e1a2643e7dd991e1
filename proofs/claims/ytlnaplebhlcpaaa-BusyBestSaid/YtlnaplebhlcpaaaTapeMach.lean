/- A machine that may be, as numbers; where a run begins. No condition. -/
import Derived.Test.YtlnaplebhlcpaaaTapeRun
namespace Go.Proofs.Ytlnaplebhlcpaaa
open Go.ChangeShapes Go.WideShapes Go.ChangeAt Go.RowKit Go.Maps
set_option linter.unusedVariables false
structure Mok (S Y : Int) (n y : Nat) (R : Nat → SI) : Prop where
  hS : S = n
  hY : Y = y
  n1 : 1 ≤ n
  n5 : n ≤ 5
  y2 : 2 ≤ y
  y4 : y ≤ 4
  row : ∀ s, s < n → (R s).n = y
  gt : Gt n y (TR R)
theorem tpE_mok {S Y : Int} {n : Nat} {R : Nat → SI} (h : tpE S Y n R = 0) : ∃ y, Mok S Y n y R := by
  unfold tpE at h
  by_cases h1 : S < 1 ∨ 5 < S ∨ Y < 2 ∨ 4 < Y
  · rw [if_pos h1] at h; omega
  · rw [if_neg h1] at h
    by_cases h2 : (n : Int) ≠ S ∨ anyB (lnB Y R) n = true
    · rw [if_pos h2] at h; omega
    · rw [if_neg h2] at h
      have hn : (n : Int) = S := by
        by_cases e : (n : Int) = S
        · exact e
        · exact absurd (.inl e) h2
      obtain ⟨y, hy⟩ : ∃ y : Nat, Y = y := ⟨Y.toNat, by omega⟩
      subst hy
      have hrow : ∀ s, s < n → (R s).n = y := fun s hs => by
        by_cases e : (R s).n = y
        · exact e
        · exact absurd (.inr (anyB_yes hs (by unfold lnB; rw [bne_iff_ne]; omega))) h2
      refine ⟨y, hn.symm, rfl, by omega, by omega, by omega, by omega, hrow, fun s hs k hk => ?_⟩
      have h3 := fstE_zero.1 (fstE_zero.1 h s hs) k (by rw [hrow s hs]; exact hk)
      unfold ruE at h3
      by_cases a1 : (R s).f (3 * k) < 0 ∨ (y : Int) ≤ (R s).f (3 * k)
      · rw [if_pos a1] at h3; omega
      · rw [if_neg a1] at h3
        by_cases a2 : (R s).f (3 * k + 1) < -1 ∨ 1 < (R s).f (3 * k + 1)
        · rw [if_pos a2] at h3; omega
        · rw [if_neg a2] at h3
          by_cases a3 : (R s).f (3 * k + 2) < 0 ∨ S < (R s).f (3 * k + 2)
          · rw [if_pos a3] at h3; omega
          · show (0 ≤ (R s).f (3 * k) ∧ (R s).f (3 * k) < y) ∧ (-1 ≤ (R s).f (3 * k + 1) ∧ (R s).f (3 * k + 1) ≤ 1) ∧ (0 ≤ (R s).f (3 * k + 2) ∧ (R s).f (3 * k + 2) ≤ n)
            omega
/-- where a run begins -/
def begin0 (g : Nat → Int) (k : Nat) : Cf := ⟨laid g k 0, 0, 0⟩
theorem laid_gc {n y B : Nat} {g : Nat → Int} {k : Nat} {first h : Int} {s : Nat} (hg : insB y k g = true) (hy : 0 < y) (hs : s ≤ n) (h0 : -(B : Int) ≤ h ∧ h ≤ B) (f0 : -(B : Int) ≤ first) (f1 : first + k ≤ B + 1) : Gc n y B ⟨laid g k first, s, h⟩ := by
  have hi := insB_iff.1 hg
  refine ⟨fun x => ?_, hs, h0, fun x hx => ?_⟩
  · show 0 ≤ laid g k first x ∧ laid g k first x < y
    unfold laid
    by_cases e : first ≤ x ∧ x < first + k
    · rw [if_pos e]; exact hi _ (by omega)
    · rw [if_neg e]; omega
  · have hx' : laid g k first x ≠ 0 := hx
    unfold laid at hx'
    by_cases e : first ≤ x ∧ x < first + k
    · omega
    · rw [if_neg e] at hx'; exact absurd rfl hx'
/-- what is wrong with a run -/
def rcE (S Y : Int) (n : Nat) (R : Nat → SI) (k : Nat) (g : Nat → Int) (steps : Int) : Int :=
  if tpE S Y n R ≠ 0 then tpE S Y n R else if 8 < k then 1 else if insB Y k g = false then 2 else if steps < 0 ∨ 60 < steps then 7 else 0
/-- what is wrong with going on -/
def gcE (S Y : Int) (n : Nat) (R : Nat → SI) (st hd fs : Int) (k : Nat) (g : Nat → Int) (steps : Int) : Int :=
  if tpE S Y n R ≠ 0 then tpE S Y n R else if 60 < k then 1 else if st < 0 ∨ S < st ∨ hd < -60 ∨ 60 < hd ∨ fs < -60 ∨ 60 < fs then 4 else if insB Y k g = false then 2 else if steps < 0 ∨ 60 < steps then 7 else 0
def zeroN : Value := .agg #[.int .i64 0, .int .i64 0, .int .i64 0, .slice none 0 0]
theorem results_c2 {fn : Func} {p u v : Tmp} {ty : TypeId} (h : fn.results = #[.cell p ty, .tmp u, .tmp v]) (tmps : Array Value) (P : Program) (w : World) :
    (results fn tmps).run P w =
      ((asAddr (tmps.getD p undef)).run P w).andThen fun a w₁ => ((loadVar ty a).run P w₁).andThen fun x w₂ => .ok (.tuple #[x, tmps.getD u undef, tmps.getD v undef]) w₂ := by
  simp only [results, h]
  simp [Sem.run_bind, Result.andThen]
def RunsRet (n : Nat) (R : Nat → SI) (steps : Nat) (c : Cf) (w : World) (e : Ending) (w' : World) : Prop :=
  (∃ v d, e = .returned (.tuple #[v, .int .i64 (d : Nat), .int .i64 0]) ∧ Dn n (TR R) steps d c ∧ NowAt (itC (TR R) d c).f (itC (TR R) d c).s (itC (TR R) d c).h w' w.heap.size v) ∧ Below w.heap.size w w'
end Go.Proofs.Ytlnaplebhlcpaaa
