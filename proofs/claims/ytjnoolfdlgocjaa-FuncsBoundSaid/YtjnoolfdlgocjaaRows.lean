/-
  No cell of these rows narrows 'for every input' (looked for: loops, veiled, ifaces, maps, wideKeys, modest, calm, conditions, laid).
  DERIVED. THE GIVEN ROWS OF THIS SEAT. 3 by the template 'for every input the law returns true; each argument reads behind the call as it read before'; 0 by the template 'total and deterministic' (their statements: YtjnoolfdlgocjaaTotals.lean).
  GIVEN WITH THE SEED: the statements are not yours to turn. If you find one false, say at which input.
  Laid BY PROGRAM, IN A SANDBOX (cutbox-rows.mjs): the forced cells as the released guide's own fill.sh prints them over the translation 98c6da3237e58a94… (all of the seat's roots in one cut). By AI agents, Wed Nov 11 2026. No macro, syntax, notation, axiom, sorry.
-/
import Derived.Test.YtjnoolfdlgocjaaChecked
import GoSem.Claim
import GoSem.ClaimJoined
import GoSem.ClaimMapViews
import Derived.JoinedTies
import Derived.KernelRfl
namespace Go.Proofs.Ytjnoolfdlgocjaa
/- THE CELL 'sum', in the pinned program and in every row, IS THE sha256 OF THE DUMP (.gsa) THAT YtjnoolfdlgocjaaProg.lean LOADS. Nothing in Lean hashes anything: it is a label: what it is worth is what the hold of that sum in a sandbox is worth. -/
noncomputable def Try.pinned : Pinned := { name := "ytjnoolfdlgocjaa", sum := "98c6da3237e58a940392f98182cefb5a9e611ddc67415f7a7bd87061e982fe58", checked := Try.checked }
namespace Rows
def none {H : Type} : Left H := { results := [], args := [] }

/-- 'tapeworkskeep.FuncsAck': WHATEVER THE INPUT: true; the input reads as it did. -/
def funcsAckSpec : ChangeSpec := { name := "funcsAck", fn := fun _ => fun
  | [d1, d2] => { results := [.lit (.bool true)], args := [d1, d2] }
  | _ => none }
def funcsAckRow : OpenClaim := { program := "ytjnoolfdlgocjaa", sum := "98c6da3237e58a940392f98182cefb5a9e611ddc67415f7a7bd87061e982fe58", func := "tapeworks/tapeworkskeep.FuncsAck", spec := "funcsAck", recurses := true, apart := false }
def FuncsAckSaid : Prop := funcsAckRow.holds Try.pinned (OpenSpec.ofChange funcsAckSpec)

/-- ITS FALSE NEIGHBOUR: 'it returns false'. Refute it at one input. -/
def funcsAckWrong : ChangeSpec := { name := "funcsAck", fn := fun _ => fun
  | [d1, d2] => { results := [.lit (.bool false)], args := [d1, d2] }
  | _ => none }
def FuncsAckWrongFalsely : Prop := funcsAckRow.holds Try.pinned (OpenSpec.ofChange funcsAckWrong)

/-- 'tapeworkskeep.FuncsSum': WHATEVER THE INPUT: true; the input reads as it did. -/
def funcsSumSpec : ChangeSpec := { name := "funcsSum", fn := fun _ => fun
  | [d1, d2] => { results := [.lit (.bool true)], args := [d1, d2] }
  | _ => none }
def funcsSumRow : OpenClaim := { program := "ytjnoolfdlgocjaa", sum := "98c6da3237e58a940392f98182cefb5a9e611ddc67415f7a7bd87061e982fe58", func := "tapeworks/tapeworkskeep.FuncsSum", spec := "funcsSum", unfollowed := true, recurses := true, apart := false }
def FuncsSumSaid : Prop := funcsSumRow.holds Try.pinned (OpenSpec.ofChange funcsSumSpec)

/-- ITS FALSE NEIGHBOUR: 'it returns false'. Refute it at one input. -/
def funcsSumWrong : ChangeSpec := { name := "funcsSum", fn := fun _ => fun
  | [d1, d2] => { results := [.lit (.bool false)], args := [d1, d2] }
  | _ => none }
def FuncsSumWrongFalsely : Prop := funcsSumRow.holds Try.pinned (OpenSpec.ofChange funcsSumWrong)

/-- 'tapeworkskeep.FuncsBound': WHATEVER THE INPUT: true; the input reads as it did. -/
def funcsBoundSpec : ChangeSpec := { name := "funcsBound", fn := fun _ => fun
  | [d1, d2] => { results := [.lit (.bool true)], args := [d1, d2] }
  | _ => none }
def funcsBoundRow : OpenClaim := { program := "ytjnoolfdlgocjaa", sum := "98c6da3237e58a940392f98182cefb5a9e611ddc67415f7a7bd87061e982fe58", func := "tapeworks/tapeworkskeep.FuncsBound", spec := "funcsBound", unfollowed := true, recurses := true, apart := false }
def FuncsBoundSaid : Prop := funcsBoundRow.holds Try.pinned (OpenSpec.ofChange funcsBoundSpec)

/-- ITS FALSE NEIGHBOUR: 'it returns false'. Refute it at one input. -/
def funcsBoundWrong : ChangeSpec := { name := "funcsBound", fn := fun _ => fun
  | [d1, d2] => { results := [.lit (.bool false)], args := [d1, d2] }
  | _ => none }
def FuncsBoundWrongFalsely : Prop := funcsBoundRow.holds Try.pinned (OpenSpec.ofChange funcsBoundWrong)

/- THE SECOND FORM. 'bulk': how many values and letters a reading holds, each counted each time it is reached (what is shared counts as often as it is met; a slice's spare places count too). A statement '..UptoSaid' is the law's where the arguments, and the package variables that the reading takes, are together of bulk at most 1048576: NARROWER than '..Said'. Prove '..Said' where nothing that the law and all that it calls make is longer than what came in: it says more and counts as full. Else prove '..UptoSaid'. A law counts once. -/
mutual
def uptoBulk {H : Type} : DataW H → Nat
  | .lit (.string bytes) => bytes.length + 1
  | .lit _ => 1
  | .nil => 1
  | .ptr d => uptoBulk d + 1
  | .slice elems spare => uptoBulkAll elems + uptoBulkAll spare + 1
  | .agg parts => uptoBulkAll parts + 1
  | .iface _ d => uptoBulk d + 1
  | .map entries => uptoBulkEntries entries + 1
  | .held _ => 1
def uptoBulkAll {H : Type} : List (DataW H) → Nat
  | [] => 0
  | d :: r => uptoBulk d + uptoBulkAll r
def uptoBulkEntries {H : Type} : List (Lit × DataW H) → Nat
  | [] => 0
  | x :: r => uptoBulkEntry x + uptoBulkEntries r
def uptoBulkEntry {H : Type} : Lit × DataW H → Nat
  | (.string bytes, d) => bytes.length + uptoBulk d + 1
  | (_, d) => uptoBulk d + 1
 end
def uptoSmall : (H : Type) → List (DataW H) → Bool := fun _ ds => decide (uptoBulkAll ds ≤ 1048576)
def OpenSpec.upto (s : _root_.Go.ChangeSpec) : _root_.Go.OpenSpec := { _root_.Go.OpenSpec.ofChange s with cond := some uptoSmall }

/-- 'tapeworkskeep.FuncsAck', WHERE WHAT IT READS IS OF BULK AT MOST 1048576: true; the input reads as it did. -/
def funcsAckUptoRow : OpenClaim := { program := "ytjnoolfdlgocjaa", sum := "98c6da3237e58a940392f98182cefb5a9e611ddc67415f7a7bd87061e982fe58", func := "tapeworks/tapeworkskeep.FuncsAck", spec := "funcsAck", recurses := true, apart := false, narrowed := true }
def FuncsAckUptoSaid : Prop := funcsAckUptoRow.holds Try.pinned (OpenSpec.upto funcsAckSpec)

/-- 'tapeworkskeep.FuncsSum', WHERE WHAT IT READS IS OF BULK AT MOST 1048576: true; the input reads as it did. -/
def funcsSumUptoRow : OpenClaim := { program := "ytjnoolfdlgocjaa", sum := "98c6da3237e58a940392f98182cefb5a9e611ddc67415f7a7bd87061e982fe58", func := "tapeworks/tapeworkskeep.FuncsSum", spec := "funcsSum", unfollowed := true, recurses := true, apart := false, narrowed := true }
def FuncsSumUptoSaid : Prop := funcsSumUptoRow.holds Try.pinned (OpenSpec.upto funcsSumSpec)

/-- 'tapeworkskeep.FuncsBound', WHERE WHAT IT READS IS OF BULK AT MOST 1048576: true; the input reads as it did. -/
def funcsBoundUptoRow : OpenClaim := { program := "ytjnoolfdlgocjaa", sum := "98c6da3237e58a940392f98182cefb5a9e611ddc67415f7a7bd87061e982fe58", func := "tapeworks/tapeworkskeep.FuncsBound", spec := "funcsBound", unfollowed := true, recurses := true, apart := false, narrowed := true }
def FuncsBoundUptoSaid : Prop := funcsBoundUptoRow.holds Try.pinned (OpenSpec.upto funcsBoundSpec)

end Rows
end Go.Proofs.Ytjnoolfdlgocjaa
