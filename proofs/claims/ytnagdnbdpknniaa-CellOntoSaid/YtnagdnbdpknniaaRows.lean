/-
  No cell of these rows narrows 'for every input' (looked for: loops, veiled, ifaces, maps, wideKeys, modest, calm, conditions, laid).
  DERIVED. THE GIVEN ROWS OF THIS SEAT. 4 by the template 'for every input the law returns true; each argument reads behind the call as it read before'; 0 by the template 'total and deterministic' (their statements: YtnagdnbdpknniaaTotals.lean).
  GIVEN WITH THE SEED: the statements are not yours to turn. If you find one false, say at which input.
  Laid BY PROGRAM, IN A SANDBOX (cutbox-rows.mjs): the forced cells as the released guide's own fill.sh prints them over the translation 51824ce4f381084c… (all of the seat's roots in one cut). By AI agents, Wed Nov 11 2026. No macro, syntax, notation, axiom, sorry.
-/
import Derived.Test.YtnagdnbdpknniaaChecked
import GoSem.Claim
import GoSem.ClaimJoined
import GoSem.ClaimMapViews
import Derived.JoinedTies
import Derived.KernelRfl
namespace Go.Proofs.Ytnagdnbdpknniaa
/- THE CELL 'sum', in the pinned program and in every row, IS THE sha256 OF THE DUMP (.gsa) THAT YtnagdnbdpknniaaProg.lean LOADS. Nothing in Lean hashes anything: it is a label: what it is worth is what the hold of that sum in a sandbox is worth. -/
noncomputable def Try.pinned : Pinned := { name := "ytnagdnbdpknniaa", sum := "51824ce4f381084c9fd73795f19e1ef5a5c9f1903fb8b3ee1e36f0de2814aebf", checked := Try.checked }
namespace Rows
def none {H : Type} : Left H := { results := [], args := [] }

/-- 'tapeworkskeep.CellShift': WHATEVER THE INPUT: true; the input reads as it did. -/
def cellShiftSpec : ChangeSpec := { name := "cellShift", fn := fun _ => fun
  | [d1, d2, d3] => { results := [.lit (.bool true)], args := [d1, d2, d3] }
  | _ => none }
def cellShiftRow : OpenClaim := { program := "ytnagdnbdpknniaa", sum := "51824ce4f381084c9fd73795f19e1ef5a5c9f1903fb8b3ee1e36f0de2814aebf", func := "tapeworks/tapeworkskeep.CellShift", spec := "cellShift", apart := false }
def CellShiftSaid : Prop := cellShiftRow.holds Try.pinned (OpenSpec.ofChange cellShiftSpec)

/-- ITS FALSE NEIGHBOUR: 'it returns false'. Refute it at one input. -/
def cellShiftWrong : ChangeSpec := { name := "cellShift", fn := fun _ => fun
  | [d1, d2, d3] => { results := [.lit (.bool false)], args := [d1, d2, d3] }
  | _ => none }
def CellShiftWrongFalsely : Prop := cellShiftRow.holds Try.pinned (OpenSpec.ofChange cellShiftWrong)

/-- 'tapeworkskeep.CellSum': WHATEVER THE INPUT: true; the input reads as it did. -/
def cellSumSpec : ChangeSpec := { name := "cellSum", fn := fun _ => fun
  | [d1, d2] => { results := [.lit (.bool true)], args := [d1, d2] }
  | _ => none }
def cellSumRow : OpenClaim := { program := "ytnagdnbdpknniaa", sum := "51824ce4f381084c9fd73795f19e1ef5a5c9f1903fb8b3ee1e36f0de2814aebf", func := "tapeworks/tapeworkskeep.CellSum", spec := "cellSum", apart := false }
def CellSumSaid : Prop := cellSumRow.holds Try.pinned (OpenSpec.ofChange cellSumSpec)

/-- ITS FALSE NEIGHBOUR: 'it returns false'. Refute it at one input. -/
def cellSumWrong : ChangeSpec := { name := "cellSum", fn := fun _ => fun
  | [d1, d2] => { results := [.lit (.bool false)], args := [d1, d2] }
  | _ => none }
def CellSumWrongFalsely : Prop := cellSumRow.holds Try.pinned (OpenSpec.ofChange cellSumWrong)

/-- 'tapeworkskeep.CellOrphan': WHATEVER THE INPUT: true; the input reads as it did. -/
def cellOrphanSpec : ChangeSpec := { name := "cellOrphan", fn := fun _ => fun
  | [d1, d2] => { results := [.lit (.bool true)], args := [d1, d2] }
  | _ => none }
def cellOrphanRow : OpenClaim := { program := "ytnagdnbdpknniaa", sum := "51824ce4f381084c9fd73795f19e1ef5a5c9f1903fb8b3ee1e36f0de2814aebf", func := "tapeworks/tapeworkskeep.CellOrphan", spec := "cellOrphan", apart := false }
def CellOrphanSaid : Prop := cellOrphanRow.holds Try.pinned (OpenSpec.ofChange cellOrphanSpec)

/-- ITS FALSE NEIGHBOUR: 'it returns false'. Refute it at one input. -/
def cellOrphanWrong : ChangeSpec := { name := "cellOrphan", fn := fun _ => fun
  | [d1, d2] => { results := [.lit (.bool false)], args := [d1, d2] }
  | _ => none }
def CellOrphanWrongFalsely : Prop := cellOrphanRow.holds Try.pinned (OpenSpec.ofChange cellOrphanWrong)

/-- 'tapeworkskeep.CellOnto': WHATEVER THE INPUT: true; the input reads as it did. -/
def cellOntoSpec : ChangeSpec := { name := "cellOnto", fn := fun _ => fun
  | [d1, d2] => { results := [.lit (.bool true)], args := [d1, d2] }
  | _ => none }
def cellOntoRow : OpenClaim := { program := "ytnagdnbdpknniaa", sum := "51824ce4f381084c9fd73795f19e1ef5a5c9f1903fb8b3ee1e36f0de2814aebf", func := "tapeworks/tapeworkskeep.CellOnto", spec := "cellOnto", unfollowed := true, recurses := true, apart := false }
def CellOntoSaid : Prop := cellOntoRow.holds Try.pinned (OpenSpec.ofChange cellOntoSpec)

/-- ITS FALSE NEIGHBOUR: 'it returns false'. Refute it at one input. -/
def cellOntoWrong : ChangeSpec := { name := "cellOnto", fn := fun _ => fun
  | [d1, d2] => { results := [.lit (.bool false)], args := [d1, d2] }
  | _ => none }
def CellOntoWrongFalsely : Prop := cellOntoRow.holds Try.pinned (OpenSpec.ofChange cellOntoWrong)

/- THE SECOND FORM. 'bulk': how many values and letters a reading holds, each counted each time it is reached (what is shared counts as often as it is met; a slice's spare places count too). A statement '..UptoSaid' is the law's where the arguments, and the package variables that the reading takes, are together of bulk at most 1048576: NARROWER than '..Said'. Prove '..Said' where nothing that the law and all that it calls make is longer than what came in: it says more and counts as full. Else prove '..UptoSaid'. A law counts once. -/
mutual
def uptoBulk {H : Type} : DataW H → Nat
  | .lit (.string bytes) => bytes.length + 1
  | .lit _ => 1
  | .nil => 1
  | .ptr d => uptoBulk d + 1
  | .slice elems spare => uptoBulkAll elems + uptoBulkAll spare + 1
  | .agg parts => uptoBulkAll parts + 1
  | .iface _ d => uptoBulk d + 1
  | .map entries => uptoBulkEntries entries + 1
  | .held _ => 1
def uptoBulkAll {H : Type} : List (DataW H) → Nat
  | [] => 0
  | d :: r => uptoBulk d + uptoBulkAll r
def uptoBulkEntries {H : Type} : List (Lit × DataW H) → Nat
  | [] => 0
  | x :: r => uptoBulkEntry x + uptoBulkEntries r
def uptoBulkEntry {H : Type} : Lit × DataW H → Nat
  | (.string bytes, d) => bytes.length + uptoBulk d + 1
  | (_, d) => uptoBulk d + 1
 end
def uptoSmall : (H : Type) → List (DataW H) → Bool := fun _ ds => decide (uptoBulkAll ds ≤ 1048576)
def OpenSpec.upto (s : _root_.Go.ChangeSpec) : _root_.Go.OpenSpec := { _root_.Go.OpenSpec.ofChange s with cond := some uptoSmall }

/-- 'tapeworkskeep.CellShift', WHERE WHAT IT READS IS OF BULK AT MOST 1048576: true; the input reads as it did. -/
def cellShiftUptoRow : OpenClaim := { program := "ytnagdnbdpknniaa", sum := "51824ce4f381084c9fd73795f19e1ef5a5c9f1903fb8b3ee1e36f0de2814aebf", func := "tapeworks/tapeworkskeep.CellShift", spec := "cellShift", apart := false, narrowed := true }
def CellShiftUptoSaid : Prop := cellShiftUptoRow.holds Try.pinned (OpenSpec.upto cellShiftSpec)

/-- 'tapeworkskeep.CellSum', WHERE WHAT IT READS IS OF BULK AT MOST 1048576: true; the input reads as it did. -/
def cellSumUptoRow : OpenClaim := { program := "ytnagdnbdpknniaa", sum := "51824ce4f381084c9fd73795f19e1ef5a5c9f1903fb8b3ee1e36f0de2814aebf", func := "tapeworks/tapeworkskeep.CellSum", spec := "cellSum", apart := false, narrowed := true }
def CellSumUptoSaid : Prop := cellSumUptoRow.holds Try.pinned (OpenSpec.upto cellSumSpec)

/-- 'tapeworkskeep.CellOrphan', WHERE WHAT IT READS IS OF BULK AT MOST 1048576: true; the input reads as it did. -/
def cellOrphanUptoRow : OpenClaim := { program := "ytnagdnbdpknniaa", sum := "51824ce4f381084c9fd73795f19e1ef5a5c9f1903fb8b3ee1e36f0de2814aebf", func := "tapeworks/tapeworkskeep.CellOrphan", spec := "cellOrphan", apart := false, narrowed := true }
def CellOrphanUptoSaid : Prop := cellOrphanUptoRow.holds Try.pinned (OpenSpec.upto cellOrphanSpec)

/-- 'tapeworkskeep.CellOnto', WHERE WHAT IT READS IS OF BULK AT MOST 1048576: true; the input reads as it did. -/
def cellOntoUptoRow : OpenClaim := { program := "ytnagdnbdpknniaa", sum := "51824ce4f381084c9fd73795f19e1ef5a5c9f1903fb8b3ee1e36f0de2814aebf", func := "tapeworks/tapeworkskeep.CellOnto", spec := "cellOnto", unfollowed := true, recurses := true, apart := false, narrowed := true }
def CellOntoUptoSaid : Prop := cellOntoUptoRow.holds Try.pinned (OpenSpec.upto cellOntoSpec)

end Rows
end Go.Proofs.Ytnagdnbdpknniaa
