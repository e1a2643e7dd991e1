/-
  No cell of these rows narrows 'for every input' (looked for: loops, veiled, ifaces, maps, wideKeys, modest, calm, conditions, laid).
  DERIVED. THE GIVEN ROWS OF THIS SEAT. 3 by the template 'for every input the law returns true; each argument reads behind the call as it read before'; 0 by the template 'total and deterministic' (their statements: YtkedkgmcdhmjiaaTotals.lean).
  GIVEN WITH THE SEED: the statements are not yours to turn. If you find one false, say at which input.
  Laid BY PROGRAM, IN A SANDBOX (cutbox-rows.mjs): the forced cells as the released guide's own fill.sh prints them over the translation 372158ecdefa0aa6… (all of the seat's roots in one cut). By AI agents, Wed Nov 11 2026. No macro, syntax, notation, axiom, sorry.
-/
import Derived.Test.YtkedkgmcdhmjiaaChecked
import GoSem.Claim
import GoSem.ClaimJoined
import GoSem.ClaimMapViews
import Derived.JoinedTies
import Derived.KernelRfl
namespace Go.Proofs.Ytkedkgmcdhmjiaa
/- THE CELL 'sum', in the pinned program and in every row, IS THE sha256 OF THE DUMP (.gsa) THAT YtkedkgmcdhmjiaaProg.lean LOADS. Nothing in Lean hashes anything: it is a label: what it is worth is what the hold of that sum in a sandbox is worth. -/
noncomputable def Try.pinned : Pinned := { name := "ytkedkgmcdhmjiaa", sum := "372158ecdefa0aa69a07de9d4176aa5554a67c5ada55e6a6c8d9fbd897bc2cd1", checked := Try.checked }
namespace Rows
def none {H : Type} : Left H := { results := [], args := [] }

/-- 'tapeworkskeep.HardTurn': WHATEVER THE INPUT: true; the input reads as it did. -/
def hardTurnSpec : ChangeSpec := { name := "hardTurn", fn := fun _ => fun
  | [d1, d2, d3] => { results := [.lit (.bool true)], args := [d1, d2, d3] }
  | _ => none }
def hardTurnRow : OpenClaim := { program := "ytkedkgmcdhmjiaa", sum := "372158ecdefa0aa69a07de9d4176aa5554a67c5ada55e6a6c8d9fbd897bc2cd1", func := "tapeworks/tapeworkskeep.HardTurn", spec := "hardTurn", unfollowed := true, recurses := true, apart := false }
def HardTurnSaid : Prop := hardTurnRow.holds Try.pinned (OpenSpec.ofChange hardTurnSpec)

/-- ITS FALSE NEIGHBOUR: 'it returns false'. Refute it at one input. -/
def hardTurnWrong : ChangeSpec := { name := "hardTurn", fn := fun _ => fun
  | [d1, d2, d3] => { results := [.lit (.bool false)], args := [d1, d2, d3] }
  | _ => none }
def HardTurnWrongFalsely : Prop := hardTurnRow.holds Try.pinned (OpenSpec.ofChange hardTurnWrong)

/-- 'tapeworkskeep.HardSum': WHATEVER THE INPUT: true; the input reads as it did. -/
def hardSumSpec : ChangeSpec := { name := "hardSum", fn := fun _ => fun
  | [d1, d2] => { results := [.lit (.bool true)], args := [d1, d2] }
  | _ => none }
def hardSumRow : OpenClaim := { program := "ytkedkgmcdhmjiaa", sum := "372158ecdefa0aa69a07de9d4176aa5554a67c5ada55e6a6c8d9fbd897bc2cd1", func := "tapeworks/tapeworkskeep.HardSum", spec := "hardSum", unfollowed := true, recurses := true, apart := false }
def HardSumSaid : Prop := hardSumRow.holds Try.pinned (OpenSpec.ofChange hardSumSpec)

/-- ITS FALSE NEIGHBOUR: 'it returns false'. Refute it at one input. -/
def hardSumWrong : ChangeSpec := { name := "hardSum", fn := fun _ => fun
  | [d1, d2] => { results := [.lit (.bool false)], args := [d1, d2] }
  | _ => none }
def HardSumWrongFalsely : Prop := hardSumRow.holds Try.pinned (OpenSpec.ofChange hardSumWrong)

/-- 'tapeworkskeep.HardDot': WHATEVER THE INPUT: true; the input reads as it did. -/
def hardDotSpec : ChangeSpec := { name := "hardDot", fn := fun _ => fun
  | [d1, d2] => { results := [.lit (.bool true)], args := [d1, d2] }
  | _ => none }
def hardDotRow : OpenClaim := { program := "ytkedkgmcdhmjiaa", sum := "372158ecdefa0aa69a07de9d4176aa5554a67c5ada55e6a6c8d9fbd897bc2cd1", func := "tapeworks/tapeworkskeep.HardDot", spec := "hardDot", unfollowed := true, recurses := true, apart := false }
def HardDotSaid : Prop := hardDotRow.holds Try.pinned (OpenSpec.ofChange hardDotSpec)

/-- ITS FALSE NEIGHBOUR: 'it returns false'. Refute it at one input. -/
def hardDotWrong : ChangeSpec := { name := "hardDot", fn := fun _ => fun
  | [d1, d2] => { results := [.lit (.bool false)], args := [d1, d2] }
  | _ => none }
def HardDotWrongFalsely : Prop := hardDotRow.holds Try.pinned (OpenSpec.ofChange hardDotWrong)

/- THE SECOND FORM. 'bulk': how many values and letters a reading holds, each counted each time it is reached (what is shared counts as often as it is met; a slice's spare places count too). A statement '..UptoSaid' is the law's where the arguments, and the package variables that the reading takes, are together of bulk at most 1048576: NARROWER than '..Said'. Prove '..Said' where nothing that the law and all that it calls make is longer than what came in: it says more and counts as full. Else prove '..UptoSaid'. A law counts once. -/
mutual
def uptoBulk {H : Type} : DataW H → Nat
  | .lit (.string bytes) => bytes.length + 1
  | .lit _ => 1
  | .nil => 1
  | .ptr d => uptoBulk d + 1
  | .slice elems spare => uptoBulkAll elems + uptoBulkAll spare + 1
  | .agg parts => uptoBulkAll parts + 1
  | .iface _ d => uptoBulk d + 1
  | .map entries => uptoBulkEntries entries + 1
  | .held _ => 1
def uptoBulkAll {H : Type} : List (DataW H) → Nat
  | [] => 0
  | d :: r => uptoBulk d + uptoBulkAll r
def uptoBulkEntries {H : Type} : List (Lit × DataW H) → Nat
  | [] => 0
  | x :: r => uptoBulkEntry x + uptoBulkEntries r
def uptoBulkEntry {H : Type} : Lit × DataW H → Nat
  | (.string bytes, d) => bytes.length + uptoBulk d + 1
  | (_, d) => uptoBulk d + 1
 end
def uptoSmall : (H : Type) → List (DataW H) → Bool := fun _ ds => decide (uptoBulkAll ds ≤ 1048576)
def OpenSpec.upto (s : _root_.Go.ChangeSpec) : _root_.Go.OpenSpec := { _root_.Go.OpenSpec.ofChange s with cond := some uptoSmall }

/-- 'tapeworkskeep.HardTurn', WHERE WHAT IT READS IS OF BULK AT MOST 1048576: true; the input reads as it did. -/
def hardTurnUptoRow : OpenClaim := { program := "ytkedkgmcdhmjiaa", sum := "372158ecdefa0aa69a07de9d4176aa5554a67c5ada55e6a6c8d9fbd897bc2cd1", func := "tapeworks/tapeworkskeep.HardTurn", spec := "hardTurn", unfollowed := true, recurses := true, apart := false, narrowed := true }
def HardTurnUptoSaid : Prop := hardTurnUptoRow.holds Try.pinned (OpenSpec.upto hardTurnSpec)

/-- 'tapeworkskeep.HardSum', WHERE WHAT IT READS IS OF BULK AT MOST 1048576: true; the input reads as it did. -/
def hardSumUptoRow : OpenClaim := { program := "ytkedkgmcdhmjiaa", sum := "372158ecdefa0aa69a07de9d4176aa5554a67c5ada55e6a6c8d9fbd897bc2cd1", func := "tapeworks/tapeworkskeep.HardSum", spec := "hardSum", unfollowed := true, recurses := true, apart := false, narrowed := true }
def HardSumUptoSaid : Prop := hardSumUptoRow.holds Try.pinned (OpenSpec.upto hardSumSpec)

/-- 'tapeworkskeep.HardDot', WHERE WHAT IT READS IS OF BULK AT MOST 1048576: true; the input reads as it did. -/
def hardDotUptoRow : OpenClaim := { program := "ytkedkgmcdhmjiaa", sum := "372158ecdefa0aa69a07de9d4176aa5554a67c5ada55e6a6c8d9fbd897bc2cd1", func := "tapeworks/tapeworkskeep.HardDot", spec := "hardDot", unfollowed := true, recurses := true, apart := false, narrowed := true }
def HardDotUptoSaid : Prop := hardDotUptoRow.holds Try.pinned (OpenSpec.upto hardDotSpec)

end Rows
end Go.Proofs.Ytkedkgmcdhmjiaa
