/- A machine that may be, as numbers; where a run begins. No condition. -/
import Derived.Test.YtcbcbanknjhhhaaTapeRun
namespace Go.Proofs.Ytcbcbanknjhhhaa
open Go.ChangeShapes Go.WideShapes Go.ChangeAt Go.RowKit Go.Maps
set_option linter.unusedVariables false
/-- where a run begins -/
def begin0 (g : Nat → Int) (k : Nat) : Cf := ⟨laid g k 0, 0, 0⟩
/-- what is wrong with a run -/
def rcE (S Y : Int) (n : Nat) (R : Nat → SI) (k : Nat) (g : Nat → Int) (steps : Int) : Int :=
  if tpE S Y n R ≠ 0 then tpE S Y n R else if 8 < k then 1 else if insB Y k g = false then 2 else if steps < 0 ∨ 60 < steps then 7 else 0
/-- what is wrong with going on -/
def gcE (S Y : Int) (n : Nat) (R : Nat → SI) (st hd fs : Int) (k : Nat) (g : Nat → Int) (steps : Int) : Int :=
  if tpE S Y n R ≠ 0 then tpE S Y n R else if 60 < k then 1 else if st < 0 ∨ S < st ∨ hd < -60 ∨ 60 < hd ∨ fs < -60 ∨ 60 < fs then 4 else if insB Y k g = false then 2 else if steps < 0 ∨ 60 < steps then 7 else 0
def zeroN : Value := .agg #[.int .i64 0, .int .i64 0, .int .i64 0, .slice none 0 0]
theorem results_c2 {fn : Func} {p u v : Tmp} {ty : TypeId} (h : fn.results = #[.cell p ty, .tmp u, .tmp v]) (tmps : Array Value) (P : Program) (w : World) :
    (results fn tmps).run P w =
      ((asAddr (tmps.getD p undef)).run P w).andThen fun a w₁ => ((loadVar ty a).run P w₁).andThen fun x w₂ => .ok (.tuple #[x, tmps.getD u undef, tmps.getD v undef]) w₂ := by
  simp only [results, h]
  simp [Sem.run_bind, Result.andThen]
def RunsRet (n : Nat) (R : Nat → SI) (steps : Nat) (c : Cf) (w : World) (e : Ending) (w' : World) : Prop :=
  (∃ v d, e = .returned (.tuple #[v, .int .i64 (d : Nat), .int .i64 0]) ∧ Dn n (TR R) steps d c ∧ NowAt (itC (TR R) d c).f (itC (TR R) d c).s (itC (TR R) d c).h w' w.heap.size v) ∧ Below w.heap.size w w'
end Go.Proofs.Ytcbcbanknjhhhaa
