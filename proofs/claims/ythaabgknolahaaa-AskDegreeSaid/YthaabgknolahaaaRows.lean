/-
  No cell of these rows narrows 'for every input' (looked for: loops, veiled, ifaces, maps, wideKeys, modest, calm, conditions, laid).
  DERIVED. THE GIVEN ROWS OF THIS SEAT. 3 by the template 'for every input the law returns true; each argument reads behind the call as it read before'; 0 by the template 'total and deterministic' (their statements: YthaabgknolahaaaTotals.lean).
  GIVEN WITH THE SEED: the statements are not yours to turn. If you find one false, say at which input.
  Laid BY PROGRAM, IN A SANDBOX (cutbox-rows.mjs): the forced cells as the released guide's own fill.sh prints them over the translation a27b06d4ce9510e1… (all of the seat's roots in one cut). By AI agents, Wed Nov 11 2026. No macro, syntax, notation, axiom, sorry.
-/
import Derived.Test.YthaabgknolahaaaChecked
import GoSem.Claim
import GoSem.ClaimJoined
import GoSem.ClaimMapViews
import Derived.JoinedTies
import Derived.KernelRfl
namespace Go.Proofs.Ythaabgknolahaaa
/- THE CELL 'sum', in the pinned program and in every row, IS THE sha256 OF THE DUMP (.gsa) THAT YthaabgknolahaaaProg.lean LOADS. Nothing in Lean hashes anything: it is a label: what it is worth is what the hold of that sum in a sandbox is worth. -/
noncomputable def Try.pinned : Pinned := { name := "ythaabgknolahaaa", sum := "a27b06d4ce9510e1be213db4510e5a85be04cbcd3d30a7bc4c4c9520dddfb609", checked := Try.checked }
namespace Rows
def none {H : Type} : Left H := { results := [], args := [] }

/-- 'tapeworkskeep.AskChain': WHATEVER THE INPUT: true; the input reads as it did. -/
def askChainSpec : ChangeSpec := { name := "askChain", fn := fun _ => fun
  | [d1, d2] => { results := [.lit (.bool true)], args := [d1, d2] }
  | _ => none }
def askChainRow : OpenClaim := { program := "ythaabgknolahaaa", sum := "a27b06d4ce9510e1be213db4510e5a85be04cbcd3d30a7bc4c4c9520dddfb609", func := "tapeworks/tapeworkskeep.AskChain", spec := "askChain", recurses := true, apart := false }
def AskChainSaid : Prop := askChainRow.holds Try.pinned (OpenSpec.ofChange askChainSpec)

/-- ITS FALSE NEIGHBOUR: 'it returns false'. Refute it at one input. -/
def askChainWrong : ChangeSpec := { name := "askChain", fn := fun _ => fun
  | [d1, d2] => { results := [.lit (.bool false)], args := [d1, d2] }
  | _ => none }
def AskChainWrongFalsely : Prop := askChainRow.holds Try.pinned (OpenSpec.ofChange askChainWrong)

/-- 'tapeworkskeep.AskDegree': WHATEVER THE INPUT: true; the input reads as it did. -/
def askDegreeSpec : ChangeSpec := { name := "askDegree", fn := fun _ => fun
  | [d1, d2] => { results := [.lit (.bool true)], args := [d1, d2] }
  | _ => none }
def askDegreeRow : OpenClaim := { program := "ythaabgknolahaaa", sum := "a27b06d4ce9510e1be213db4510e5a85be04cbcd3d30a7bc4c4c9520dddfb609", func := "tapeworks/tapeworkskeep.AskDegree", spec := "askDegree", recurses := true, apart := false }
def AskDegreeSaid : Prop := askDegreeRow.holds Try.pinned (OpenSpec.ofChange askDegreeSpec)

/-- ITS FALSE NEIGHBOUR: 'it returns false'. Refute it at one input. -/
def askDegreeWrong : ChangeSpec := { name := "askDegree", fn := fun _ => fun
  | [d1, d2] => { results := [.lit (.bool false)], args := [d1, d2] }
  | _ => none }
def AskDegreeWrongFalsely : Prop := askDegreeRow.holds Try.pinned (OpenSpec.ofChange askDegreeWrong)

/-- 'tapeworkskeep.AskWalk': WHATEVER THE INPUT: true; the input reads as it did. -/
def askWalkSpec : ChangeSpec := { name := "askWalk", fn := fun _ => fun
  | [d1, d2, d3] => { results := [.lit (.bool true)], args := [d1, d2, d3] }
  | _ => none }
def askWalkRow : OpenClaim := { program := "ythaabgknolahaaa", sum := "a27b06d4ce9510e1be213db4510e5a85be04cbcd3d30a7bc4c4c9520dddfb609", func := "tapeworks/tapeworkskeep.AskWalk", spec := "askWalk", recurses := true, apart := false }
def AskWalkSaid : Prop := askWalkRow.holds Try.pinned (OpenSpec.ofChange askWalkSpec)

/-- ITS FALSE NEIGHBOUR: 'it returns false'. Refute it at one input. -/
def askWalkWrong : ChangeSpec := { name := "askWalk", fn := fun _ => fun
  | [d1, d2, d3] => { results := [.lit (.bool false)], args := [d1, d2, d3] }
  | _ => none }
def AskWalkWrongFalsely : Prop := askWalkRow.holds Try.pinned (OpenSpec.ofChange askWalkWrong)

/- THE SECOND FORM. 'bulk': how many values and letters a reading holds, each counted each time it is reached (what is shared counts as often as it is met; a slice's spare places count too). A statement '..UptoSaid' is the law's where the arguments, and the package variables that the reading takes, are together of bulk at most 1048576: NARROWER than '..Said'. Prove '..Said' where nothing that the law and all that it calls make is longer than what came in: it says more and counts as full. Else prove '..UptoSaid'. A law counts once. -/
mutual
def uptoBulk {H : Type} : DataW H → Nat
  | .lit (.string bytes) => bytes.length + 1
  | .lit _ => 1
  | .nil => 1
  | .ptr d => uptoBulk d + 1
  | .slice elems spare => uptoBulkAll elems + uptoBulkAll spare + 1
  | .agg parts => uptoBulkAll parts + 1
  | .iface _ d => uptoBulk d + 1
  | .map entries => uptoBulkEntries entries + 1
  | .held _ => 1
def uptoBulkAll {H : Type} : List (DataW H) → Nat
  | [] => 0
  | d :: r => uptoBulk d + uptoBulkAll r
def uptoBulkEntries {H : Type} : List (Lit × DataW H) → Nat
  | [] => 0
  | x :: r => uptoBulkEntry x + uptoBulkEntries r
def uptoBulkEntry {H : Type} : Lit × DataW H → Nat
  | (.string bytes, d) => bytes.length + uptoBulk d + 1
  | (_, d) => uptoBulk d + 1
 end
def uptoSmall : (H : Type) → List (DataW H) → Bool := fun _ ds => decide (uptoBulkAll ds ≤ 1048576)
def OpenSpec.upto (s : _root_.Go.ChangeSpec) : _root_.Go.OpenSpec := { _root_.Go.OpenSpec.ofChange s with cond := some uptoSmall }

/-- 'tapeworkskeep.AskChain', WHERE WHAT IT READS IS OF BULK AT MOST 1048576: true; the input reads as it did. -/
def askChainUptoRow : OpenClaim := { program := "ythaabgknolahaaa", sum := "a27b06d4ce9510e1be213db4510e5a85be04cbcd3d30a7bc4c4c9520dddfb609", func := "tapeworks/tapeworkskeep.AskChain", spec := "askChain", recurses := true, apart := false, narrowed := true }
def AskChainUptoSaid : Prop := askChainUptoRow.holds Try.pinned (OpenSpec.upto askChainSpec)

/-- 'tapeworkskeep.AskDegree', WHERE WHAT IT READS IS OF BULK AT MOST 1048576: true; the input reads as it did. -/
def askDegreeUptoRow : OpenClaim := { program := "ythaabgknolahaaa", sum := "a27b06d4ce9510e1be213db4510e5a85be04cbcd3d30a7bc4c4c9520dddfb609", func := "tapeworks/tapeworkskeep.AskDegree", spec := "askDegree", recurses := true, apart := false, narrowed := true }
def AskDegreeUptoSaid : Prop := askDegreeUptoRow.holds Try.pinned (OpenSpec.upto askDegreeSpec)

/-- 'tapeworkskeep.AskWalk', WHERE WHAT IT READS IS OF BULK AT MOST 1048576: true; the input reads as it did. -/
def askWalkUptoRow : OpenClaim := { program := "ythaabgknolahaaa", sum := "a27b06d4ce9510e1be213db4510e5a85be04cbcd3d30a7bc4c4c9520dddfb609", func := "tapeworks/tapeworkskeep.AskWalk", spec := "askWalk", recurses := true, apart := false, narrowed := true }
def AskWalkUptoSaid : Prop := askWalkUptoRow.holds Try.pinned (OpenSpec.upto askWalkSpec)

end Rows
end Go.Proofs.Ythaabgknolahaaa
