/-
  No cell of these rows narrows 'for every input' (looked for: loops, veiled, ifaces, maps, wideKeys, modest, calm, conditions, laid).
  DERIVED. THE GIVEN ROWS OF THIS SEAT. 3 by the template 'for every input the law returns true; each argument reads behind the call as it read before'; 0 by the template 'total and deterministic' (their statements: YtnkgdcaojfoanaaTotals.lean).
  GIVEN WITH THE SEED: the statements are not yours to turn. If you find one false, say at which input.
  Laid BY PROGRAM, IN A SANDBOX (cutbox-rows.mjs): the forced cells as the released guide's own fill.sh prints them over the translation 5d2671c438a12840… (all of the seat's roots in one cut). By AI agents, Wed Nov 11 2026. No macro, syntax, notation, axiom, sorry.
-/
import Derived.Test.YtnkgdcaojfoanaaChecked
import GoSem.Claim
import GoSem.ClaimJoined
import GoSem.ClaimMapViews
import Derived.JoinedTies
import Derived.KernelRfl
namespace Go.Proofs.Ytnkgdcaojfoanaa
/- THE CELL 'sum', in the pinned program and in every row, IS THE sha256 OF THE DUMP (.gsa) THAT YtnkgdcaojfoanaaProg.lean LOADS. Nothing in Lean hashes anything: it is a label: what it is worth is what the hold of that sum in a sandbox is worth. -/
noncomputable def Try.pinned : Pinned := { name := "ytnkgdcaojfoanaa", sum := "5d2671c438a128400cd56d2a9afac8e085b448cdce8752b3f906d8d89769cfd6", checked := Try.checked }
namespace Rows
def none {H : Type} : Left H := { results := [], args := [] }

/-- 'tapeworkskeep.HalfWay': WHATEVER THE INPUT: true; the input reads as it did. -/
def halfWaySpec : ChangeSpec := { name := "halfWay", fn := fun _ => fun
  | [d1, d2, d3] => { results := [.lit (.bool true)], args := [d1, d2, d3] }
  | _ => none }
def halfWayRow : OpenClaim := { program := "ytnkgdcaojfoanaa", sum := "5d2671c438a128400cd56d2a9afac8e085b448cdce8752b3f906d8d89769cfd6", func := "tapeworks/tapeworkskeep.HalfWay", spec := "halfWay", unfollowed := true, recurses := true, apart := false }
def HalfWaySaid : Prop := halfWayRow.holds Try.pinned (OpenSpec.ofChange halfWaySpec)

/-- ITS FALSE NEIGHBOUR: 'it returns false'. Refute it at one input. -/
def halfWayWrong : ChangeSpec := { name := "halfWay", fn := fun _ => fun
  | [d1, d2, d3] => { results := [.lit (.bool false)], args := [d1, d2, d3] }
  | _ => none }
def HalfWayWrongFalsely : Prop := halfWayRow.holds Try.pinned (OpenSpec.ofChange halfWayWrong)

/-- 'tapeworkskeep.HalfCount': WHATEVER THE INPUT: true; the input reads as it did. -/
def halfCountSpec : ChangeSpec := { name := "halfCount", fn := fun _ => fun
  | [d1, d2, d3] => { results := [.lit (.bool true)], args := [d1, d2, d3] }
  | _ => none }
def halfCountRow : OpenClaim := { program := "ytnkgdcaojfoanaa", sum := "5d2671c438a128400cd56d2a9afac8e085b448cdce8752b3f906d8d89769cfd6", func := "tapeworks/tapeworkskeep.HalfCount", spec := "halfCount", unfollowed := true, recurses := true, apart := false }
def HalfCountSaid : Prop := halfCountRow.holds Try.pinned (OpenSpec.ofChange halfCountSpec)

/-- ITS FALSE NEIGHBOUR: 'it returns false'. Refute it at one input. -/
def halfCountWrong : ChangeSpec := { name := "halfCount", fn := fun _ => fun
  | [d1, d2, d3] => { results := [.lit (.bool false)], args := [d1, d2, d3] }
  | _ => none }
def HalfCountWrongFalsely : Prop := halfCountRow.holds Try.pinned (OpenSpec.ofChange halfCountWrong)

/-- 'tapeworkskeep.HalfCan': WHATEVER THE INPUT: true; the input reads as it did. -/
def halfCanSpec : ChangeSpec := { name := "halfCan", fn := fun _ => fun
  | [d1, d2, d3, d4] => { results := [.lit (.bool true)], args := [d1, d2, d3, d4] }
  | _ => none }
def halfCanRow : OpenClaim := { program := "ytnkgdcaojfoanaa", sum := "5d2671c438a128400cd56d2a9afac8e085b448cdce8752b3f906d8d89769cfd6", func := "tapeworks/tapeworkskeep.HalfCan", spec := "halfCan", unfollowed := true, recurses := true, apart := false }
def HalfCanSaid : Prop := halfCanRow.holds Try.pinned (OpenSpec.ofChange halfCanSpec)

/-- ITS FALSE NEIGHBOUR: 'it returns false'. Refute it at one input. -/
def halfCanWrong : ChangeSpec := { name := "halfCan", fn := fun _ => fun
  | [d1, d2, d3, d4] => { results := [.lit (.bool false)], args := [d1, d2, d3, d4] }
  | _ => none }
def HalfCanWrongFalsely : Prop := halfCanRow.holds Try.pinned (OpenSpec.ofChange halfCanWrong)

/- THE SECOND FORM. 'bulk': how many values and letters a reading holds, each counted each time it is reached (what is shared counts as often as it is met; a slice's spare places count too). A statement '..UptoSaid' is the law's where the arguments, and the package variables that the reading takes, are together of bulk at most 1048576: NARROWER than '..Said'. Prove '..Said' where nothing that the law and all that it calls make is longer than what came in: it says more and counts as full. Else prove '..UptoSaid'. A law counts once. -/
mutual
def uptoBulk {H : Type} : DataW H → Nat
  | .lit (.string bytes) => bytes.length + 1
  | .lit _ => 1
  | .nil => 1
  | .ptr d => uptoBulk d + 1
  | .slice elems spare => uptoBulkAll elems + uptoBulkAll spare + 1
  | .agg parts => uptoBulkAll parts + 1
  | .iface _ d => uptoBulk d + 1
  | .map entries => uptoBulkEntries entries + 1
  | .held _ => 1
def uptoBulkAll {H : Type} : List (DataW H) → Nat
  | [] => 0
  | d :: r => uptoBulk d + uptoBulkAll r
def uptoBulkEntries {H : Type} : List (Lit × DataW H) → Nat
  | [] => 0
  | x :: r => uptoBulkEntry x + uptoBulkEntries r
def uptoBulkEntry {H : Type} : Lit × DataW H → Nat
  | (.string bytes, d) => bytes.length + uptoBulk d + 1
  | (_, d) => uptoBulk d + 1
 end
def uptoSmall : (H : Type) → List (DataW H) → Bool := fun _ ds => decide (uptoBulkAll ds ≤ 1048576)
def OpenSpec.upto (s : _root_.Go.ChangeSpec) : _root_.Go.OpenSpec := { _root_.Go.OpenSpec.ofChange s with cond := some uptoSmall }

/-- 'tapeworkskeep.HalfWay', WHERE WHAT IT READS IS OF BULK AT MOST 1048576: true; the input reads as it did. -/
def halfWayUptoRow : OpenClaim := { program := "ytnkgdcaojfoanaa", sum := "5d2671c438a128400cd56d2a9afac8e085b448cdce8752b3f906d8d89769cfd6", func := "tapeworks/tapeworkskeep.HalfWay", spec := "halfWay", unfollowed := true, recurses := true, apart := false, narrowed := true }
def HalfWayUptoSaid : Prop := halfWayUptoRow.holds Try.pinned (OpenSpec.upto halfWaySpec)

/-- 'tapeworkskeep.HalfCount', WHERE WHAT IT READS IS OF BULK AT MOST 1048576: true; the input reads as it did. -/
def halfCountUptoRow : OpenClaim := { program := "ytnkgdcaojfoanaa", sum := "5d2671c438a128400cd56d2a9afac8e085b448cdce8752b3f906d8d89769cfd6", func := "tapeworks/tapeworkskeep.HalfCount", spec := "halfCount", unfollowed := true, recurses := true, apart := false, narrowed := true }
def HalfCountUptoSaid : Prop := halfCountUptoRow.holds Try.pinned (OpenSpec.upto halfCountSpec)

/-- 'tapeworkskeep.HalfCan', WHERE WHAT IT READS IS OF BULK AT MOST 1048576: true; the input reads as it did. -/
def halfCanUptoRow : OpenClaim := { program := "ytnkgdcaojfoanaa", sum := "5d2671c438a128400cd56d2a9afac8e085b448cdce8752b3f906d8d89769cfd6", func := "tapeworks/tapeworkskeep.HalfCan", spec := "halfCan", unfollowed := true, recurses := true, apart := false, narrowed := true }
def HalfCanUptoSaid : Prop := halfCanUptoRow.holds Try.pinned (OpenSpec.upto halfCanSpec)

end Rows
end Go.Proofs.Ytnkgdcaojfoanaa
