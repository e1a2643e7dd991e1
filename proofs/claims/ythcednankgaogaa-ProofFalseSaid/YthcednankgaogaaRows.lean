/-
  No cell of these rows narrows 'for every input' (looked for: loops, veiled, ifaces, maps, wideKeys, modest, calm, conditions, laid).
  DERIVED. THE GIVEN ROWS OF THIS SEAT. 3 by the template 'for every input the law returns true; each argument reads behind the call as it read before'; 0 by the template 'total and deterministic' (their statements: YthcednankgaogaaTotals.lean).
  GIVEN WITH THE SEED: the statements are not yours to turn. If you find one false, say at which input.
  Laid BY PROGRAM, IN A SANDBOX (cutbox-rows.mjs): the forced cells as the released guide's own fill.sh prints them over the translation ea4bd1e59ac397d9… (all of the seat's roots in one cut). By AI agents, Wed Nov 11 2026. No macro, syntax, notation, axiom, sorry.
-/
import Derived.Test.YthcednankgaogaaChecked
import GoSem.Claim
import GoSem.ClaimJoined
import GoSem.ClaimMapViews
import Derived.JoinedTies
import Derived.KernelRfl
namespace Go.Proofs.Ythcednankgaogaa
/- THE CELL 'sum', in the pinned program and in every row, IS THE sha256 OF THE DUMP (.gsa) THAT YthcednankgaogaaProg.lean LOADS. Nothing in Lean hashes anything: it is a label: what it is worth is what the hold of that sum in a sandbox is worth. -/
noncomputable def Try.pinned : Pinned := { name := "ythcednankgaogaa", sum := "ea4bd1e59ac397d9be2626b1bef8bec3ad33ddf274404b38074010fdc5a80dac", checked := Try.checked }
namespace Rows
def none {H : Type} : Left H := { results := [], args := [] }

/-- 'tapeworkskeep.ProofWord': WHATEVER THE INPUT: true; the input reads as it did. -/
def proofWordSpec : ChangeSpec := { name := "proofWord", fn := fun _ => fun
  | [d1, d2, d3, d4, d5] => { results := [.lit (.bool true)], args := [d1, d2, d3, d4, d5] }
  | _ => none }
def proofWordRow : OpenClaim := { program := "ythcednankgaogaa", sum := "ea4bd1e59ac397d9be2626b1bef8bec3ad33ddf274404b38074010fdc5a80dac", func := "tapeworks/tapeworkskeep.ProofWord", spec := "proofWord", unfollowed := true, recurses := true, apart := false }
def ProofWordSaid : Prop := proofWordRow.holds Try.pinned (OpenSpec.ofChange proofWordSpec)

/-- ITS FALSE NEIGHBOUR: 'it returns false'. Refute it at one input. -/
def proofWordWrong : ChangeSpec := { name := "proofWord", fn := fun _ => fun
  | [d1, d2, d3, d4, d5] => { results := [.lit (.bool false)], args := [d1, d2, d3, d4, d5] }
  | _ => none }
def ProofWordWrongFalsely : Prop := proofWordRow.holds Try.pinned (OpenSpec.ofChange proofWordWrong)

/-- 'tapeworkskeep.ProofFalse': WHATEVER THE INPUT: true; the input reads as it did. -/
def proofFalseSpec : ChangeSpec := { name := "proofFalse", fn := fun _ => fun
  | [d1, d2, d3, d4] => { results := [.lit (.bool true)], args := [d1, d2, d3, d4] }
  | _ => none }
def proofFalseRow : OpenClaim := { program := "ythcednankgaogaa", sum := "ea4bd1e59ac397d9be2626b1bef8bec3ad33ddf274404b38074010fdc5a80dac", func := "tapeworks/tapeworkskeep.ProofFalse", spec := "proofFalse", unfollowed := true, recurses := true, apart := false }
def ProofFalseSaid : Prop := proofFalseRow.holds Try.pinned (OpenSpec.ofChange proofFalseSpec)

/-- ITS FALSE NEIGHBOUR: 'it returns false'. Refute it at one input. -/
def proofFalseWrong : ChangeSpec := { name := "proofFalse", fn := fun _ => fun
  | [d1, d2, d3, d4] => { results := [.lit (.bool false)], args := [d1, d2, d3, d4] }
  | _ => none }
def ProofFalseWrongFalsely : Prop := proofFalseRow.holds Try.pinned (OpenSpec.ofChange proofFalseWrong)

/-- 'tapeworkskeep.ProofTrue': WHATEVER THE INPUT: true; the input reads as it did. -/
def proofTrueSpec : ChangeSpec := { name := "proofTrue", fn := fun _ => fun
  | [d1, d2, d3] => { results := [.lit (.bool true)], args := [d1, d2, d3] }
  | _ => none }
def proofTrueRow : OpenClaim := { program := "ythcednankgaogaa", sum := "ea4bd1e59ac397d9be2626b1bef8bec3ad33ddf274404b38074010fdc5a80dac", func := "tapeworks/tapeworkskeep.ProofTrue", spec := "proofTrue", unfollowed := true, recurses := true, apart := false }
def ProofTrueSaid : Prop := proofTrueRow.holds Try.pinned (OpenSpec.ofChange proofTrueSpec)

/-- ITS FALSE NEIGHBOUR: 'it returns false'. Refute it at one input. -/
def proofTrueWrong : ChangeSpec := { name := "proofTrue", fn := fun _ => fun
  | [d1, d2, d3] => { results := [.lit (.bool false)], args := [d1, d2, d3] }
  | _ => none }
def ProofTrueWrongFalsely : Prop := proofTrueRow.holds Try.pinned (OpenSpec.ofChange proofTrueWrong)

/- THE SECOND FORM. 'bulk': how many values and letters a reading holds, each counted each time it is reached (what is shared counts as often as it is met; a slice's spare places count too). A statement '..UptoSaid' is the law's where the arguments, and the package variables that the reading takes, are together of bulk at most 1048576: NARROWER than '..Said'. Prove '..Said' where nothing that the law and all that it calls make is longer than what came in: it says more and counts as full. Else prove '..UptoSaid'. A law counts once. -/
mutual
def uptoBulk {H : Type} : DataW H → Nat
  | .lit (.string bytes) => bytes.length + 1
  | .lit _ => 1
  | .nil => 1
  | .ptr d => uptoBulk d + 1
  | .slice elems spare => uptoBulkAll elems + uptoBulkAll spare + 1
  | .agg parts => uptoBulkAll parts + 1
  | .iface _ d => uptoBulk d + 1
  | .map entries => uptoBulkEntries entries + 1
  | .held _ => 1
def uptoBulkAll {H : Type} : List (DataW H) → Nat
  | [] => 0
  | d :: r => uptoBulk d + uptoBulkAll r
def uptoBulkEntries {H : Type} : List (Lit × DataW H) → Nat
  | [] => 0
  | x :: r => uptoBulkEntry x + uptoBulkEntries r
def uptoBulkEntry {H : Type} : Lit × DataW H → Nat
  | (.string bytes, d) => bytes.length + uptoBulk d + 1
  | (_, d) => uptoBulk d + 1
 end
def uptoSmall : (H : Type) → List (DataW H) → Bool := fun _ ds => decide (uptoBulkAll ds ≤ 1048576)
def OpenSpec.upto (s : _root_.Go.ChangeSpec) : _root_.Go.OpenSpec := { _root_.Go.OpenSpec.ofChange s with cond := some uptoSmall }

/-- 'tapeworkskeep.ProofWord', WHERE WHAT IT READS IS OF BULK AT MOST 1048576: true; the input reads as it did. -/
def proofWordUptoRow : OpenClaim := { program := "ythcednankgaogaa", sum := "ea4bd1e59ac397d9be2626b1bef8bec3ad33ddf274404b38074010fdc5a80dac", func := "tapeworks/tapeworkskeep.ProofWord", spec := "proofWord", unfollowed := true, recurses := true, apart := false, narrowed := true }
def ProofWordUptoSaid : Prop := proofWordUptoRow.holds Try.pinned (OpenSpec.upto proofWordSpec)

/-- 'tapeworkskeep.ProofFalse', WHERE WHAT IT READS IS OF BULK AT MOST 1048576: true; the input reads as it did. -/
def proofFalseUptoRow : OpenClaim := { program := "ythcednankgaogaa", sum := "ea4bd1e59ac397d9be2626b1bef8bec3ad33ddf274404b38074010fdc5a80dac", func := "tapeworks/tapeworkskeep.ProofFalse", spec := "proofFalse", unfollowed := true, recurses := true, apart := false, narrowed := true }
def ProofFalseUptoSaid : Prop := proofFalseUptoRow.holds Try.pinned (OpenSpec.upto proofFalseSpec)

/-- 'tapeworkskeep.ProofTrue', WHERE WHAT IT READS IS OF BULK AT MOST 1048576: true; the input reads as it did. -/
def proofTrueUptoRow : OpenClaim := { program := "ythcednankgaogaa", sum := "ea4bd1e59ac397d9be2626b1bef8bec3ad33ddf274404b38074010fdc5a80dac", func := "tapeworks/tapeworkskeep.ProofTrue", spec := "proofTrue", unfollowed := true, recurses := true, apart := false, narrowed := true }
def ProofTrueUptoSaid : Prop := proofTrueUptoRow.holds Try.pinned (OpenSpec.upto proofTrueSpec)

end Rows
end Go.Proofs.Ythcednankgaogaa
