/-
  No cell of these rows narrows 'for every input' (looked for: loops, veiled, ifaces, maps, wideKeys, modest, calm, conditions, laid).
  DERIVED. THE GIVEN ROWS OF THIS SEAT. 2 by the template 'for every input the law returns true; each argument reads behind the call as it read before'; 0 by the template 'total and deterministic' (their statements: YtgfiamdodjcjmaaTotals.lean).
  GIVEN WITH THE SEED: the statements are not yours to turn. If you find one false, say at which input.
  Laid BY PROGRAM, IN A SANDBOX (cutbox-rows.mjs): the forced cells as the released guide's own fill.sh prints them over the translation 4dde2763d5cef695… (all of the seat's roots in one cut). By AI agents, Wed Nov 11 2026. No macro, syntax, notation, axiom, sorry.
-/
import Derived.Test.YtgfiamdodjcjmaaChecked
import GoSem.Claim
import GoSem.ClaimJoined
import GoSem.ClaimMapViews
import Derived.JoinedTies
import Derived.KernelRfl
namespace Go.Proofs.Ytgfiamdodjcjmaa
/- THE CELL 'sum', in the pinned program and in every row, IS THE sha256 OF THE DUMP (.gsa) THAT YtgfiamdodjcjmaaProg.lean LOADS. Nothing in Lean hashes anything: it is a label: what it is worth is what the hold of that sum in a sandbox is worth. -/
noncomputable def Try.pinned : Pinned := { name := "ytgfiamdodjcjmaa", sum := "4dde2763d5cef6951a40de1a753c5bfa244e337224a5fe4c116afe1c08d3362d", checked := Try.checked }
namespace Rows
def none {H : Type} : Left H := { results := [], args := [] }

/-- 'tapeworkskeep.CountSum': WHATEVER THE INPUT: true; the input reads as it did. -/
def countSumSpec : ChangeSpec := { name := "countSum", fn := fun _ => fun
  | [d1, d2, d3, d4] => { results := [.lit (.bool true)], args := [d1, d2, d3, d4] }
  | _ => none }
def countSumRow : OpenClaim := { program := "ytgfiamdodjcjmaa", sum := "4dde2763d5cef6951a40de1a753c5bfa244e337224a5fe4c116afe1c08d3362d", func := "tapeworks/tapeworkskeep.CountSum", spec := "countSum", unfollowed := true, recurses := true, apart := false }
def CountSumSaid : Prop := countSumRow.holds Try.pinned (OpenSpec.ofChange countSumSpec)

/-- ITS FALSE NEIGHBOUR: 'it returns false'. Refute it at one input. -/
def countSumWrong : ChangeSpec := { name := "countSum", fn := fun _ => fun
  | [d1, d2, d3, d4] => { results := [.lit (.bool false)], args := [d1, d2, d3, d4] }
  | _ => none }
def CountSumWrongFalsely : Prop := countSumRow.holds Try.pinned (OpenSpec.ofChange countSumWrong)

/-- 'tapeworkskeep.CountMove': WHATEVER THE INPUT: true; the input reads as it did. -/
def countMoveSpec : ChangeSpec := { name := "countMove", fn := fun _ => fun
  | [d1, d2] => { results := [.lit (.bool true)], args := [d1, d2] }
  | _ => none }
def countMoveRow : OpenClaim := { program := "ytgfiamdodjcjmaa", sum := "4dde2763d5cef6951a40de1a753c5bfa244e337224a5fe4c116afe1c08d3362d", func := "tapeworks/tapeworkskeep.CountMove", spec := "countMove", unfollowed := true, recurses := true, apart := false }
def CountMoveSaid : Prop := countMoveRow.holds Try.pinned (OpenSpec.ofChange countMoveSpec)

/-- ITS FALSE NEIGHBOUR: 'it returns false'. Refute it at one input. -/
def countMoveWrong : ChangeSpec := { name := "countMove", fn := fun _ => fun
  | [d1, d2] => { results := [.lit (.bool false)], args := [d1, d2] }
  | _ => none }
def CountMoveWrongFalsely : Prop := countMoveRow.holds Try.pinned (OpenSpec.ofChange countMoveWrong)

/- THE SECOND FORM. 'bulk': how many values and letters a reading holds, each counted each time it is reached (what is shared counts as often as it is met; a slice's spare places count too). A statement '..UptoSaid' is the law's where the arguments, and the package variables that the reading takes, are together of bulk at most 1048576: NARROWER than '..Said'. Prove '..Said' where nothing that the law and all that it calls make is longer than what came in: it says more and counts as full. Else prove '..UptoSaid'. A law counts once. -/
mutual
def uptoBulk {H : Type} : DataW H → Nat
  | .lit (.string bytes) => bytes.length + 1
  | .lit _ => 1
  | .nil => 1
  | .ptr d => uptoBulk d + 1
  | .slice elems spare => uptoBulkAll elems + uptoBulkAll spare + 1
  | .agg parts => uptoBulkAll parts + 1
  | .iface _ d => uptoBulk d + 1
  | .map entries => uptoBulkEntries entries + 1
  | .held _ => 1
def uptoBulkAll {H : Type} : List (DataW H) → Nat
  | [] => 0
  | d :: r => uptoBulk d + uptoBulkAll r
def uptoBulkEntries {H : Type} : List (Lit × DataW H) → Nat
  | [] => 0
  | x :: r => uptoBulkEntry x + uptoBulkEntries r
def uptoBulkEntry {H : Type} : Lit × DataW H → Nat
  | (.string bytes, d) => bytes.length + uptoBulk d + 1
  | (_, d) => uptoBulk d + 1
 end
def uptoSmall : (H : Type) → List (DataW H) → Bool := fun _ ds => decide (uptoBulkAll ds ≤ 1048576)
def OpenSpec.upto (s : _root_.Go.ChangeSpec) : _root_.Go.OpenSpec := { _root_.Go.OpenSpec.ofChange s with cond := some uptoSmall }

/-- 'tapeworkskeep.CountSum', WHERE WHAT IT READS IS OF BULK AT MOST 1048576: true; the input reads as it did. -/
def countSumUptoRow : OpenClaim := { program := "ytgfiamdodjcjmaa", sum := "4dde2763d5cef6951a40de1a753c5bfa244e337224a5fe4c116afe1c08d3362d", func := "tapeworks/tapeworkskeep.CountSum", spec := "countSum", unfollowed := true, recurses := true, apart := false, narrowed := true }
def CountSumUptoSaid : Prop := countSumUptoRow.holds Try.pinned (OpenSpec.upto countSumSpec)

/-- 'tapeworkskeep.CountMove', WHERE WHAT IT READS IS OF BULK AT MOST 1048576: true; the input reads as it did. -/
def countMoveUptoRow : OpenClaim := { program := "ytgfiamdodjcjmaa", sum := "4dde2763d5cef6951a40de1a753c5bfa244e337224a5fe4c116afe1c08d3362d", func := "tapeworks/tapeworkskeep.CountMove", spec := "countMove", unfollowed := true, recurses := true, apart := false, narrowed := true }
def CountMoveUptoSaid : Prop := countMoveUptoRow.holds Try.pinned (OpenSpec.upto countMoveSpec)

end Rows
end Go.Proofs.Ytgfiamdodjcjmaa
