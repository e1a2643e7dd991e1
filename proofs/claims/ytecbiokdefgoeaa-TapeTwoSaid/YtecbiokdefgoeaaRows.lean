/-
  No cell of these rows narrows 'for every input' (looked for: loops, veiled, ifaces, maps, wideKeys, modest, calm, conditions, laid).
  DERIVED. THE GIVEN ROWS OF THIS SEAT. 3 by the template 'for every input the law returns true; each argument reads behind the call as it read before'; 0 by the template 'total and deterministic' (their statements: YtecbiokdefgoeaaTotals.lean).
  GIVEN WITH THE SEED: the statements are not yours to turn. If you find one false, say at which input.
  Laid BY PROGRAM, IN A SANDBOX (cutbox-rows.mjs): the forced cells as the released guide's own fill.sh prints them over the translation 58ddb6ad5fd7b2b6… (all of the seat's roots in one cut). By AI agents, Wed Nov 11 2026. No macro, syntax, notation, axiom, sorry.
-/
import Derived.Test.YtecbiokdefgoeaaChecked
import GoSem.Claim
import GoSem.ClaimJoined
import GoSem.ClaimMapViews
import Derived.JoinedTies
import Derived.KernelRfl
namespace Go.Proofs.Ytecbiokdefgoeaa
/- THE CELL 'sum', in the pinned program and in every row, IS THE sha256 OF THE DUMP (.gsa) THAT YtecbiokdefgoeaaProg.lean LOADS. Nothing in Lean hashes anything: it is a label: what it is worth is what the hold of that sum in a sandbox is worth. -/
noncomputable def Try.pinned : Pinned := { name := "ytecbiokdefgoeaa", sum := "58ddb6ad5fd7b2b66e1ccee443d687d889ea3fce859a1dd69ae7e4adef7d8a05", checked := Try.checked }
namespace Rows
def none {H : Type} : Left H := { results := [], args := [] }

/-- 'tapeworkskeep.TapeStill': WHATEVER THE INPUT: true; the input reads as it did. -/
def tapeStillSpec : ChangeSpec := { name := "tapeStill", fn := fun _ => fun
  | [d1, d2, d3] => { results := [.lit (.bool true)], args := [d1, d2, d3] }
  | _ => none }
def tapeStillRow : OpenClaim := { program := "ytecbiokdefgoeaa", sum := "58ddb6ad5fd7b2b66e1ccee443d687d889ea3fce859a1dd69ae7e4adef7d8a05", func := "tapeworks/tapeworkskeep.TapeStill", spec := "tapeStill", unfollowed := true, recurses := true, apart := false }
def TapeStillSaid : Prop := tapeStillRow.holds Try.pinned (OpenSpec.ofChange tapeStillSpec)

/-- ITS FALSE NEIGHBOUR: 'it returns false'. Refute it at one input. -/
def tapeStillWrong : ChangeSpec := { name := "tapeStill", fn := fun _ => fun
  | [d1, d2, d3] => { results := [.lit (.bool false)], args := [d1, d2, d3] }
  | _ => none }
def TapeStillWrongFalsely : Prop := tapeStillRow.holds Try.pinned (OpenSpec.ofChange tapeStillWrong)

/-- 'tapeworkskeep.TapeMoved': WHATEVER THE INPUT: true; the input reads as it did. -/
def tapeMovedSpec : ChangeSpec := { name := "tapeMoved", fn := fun _ => fun
  | [d1, d2, d3, d4] => { results := [.lit (.bool true)], args := [d1, d2, d3, d4] }
  | _ => none }
def tapeMovedRow : OpenClaim := { program := "ytecbiokdefgoeaa", sum := "58ddb6ad5fd7b2b66e1ccee443d687d889ea3fce859a1dd69ae7e4adef7d8a05", func := "tapeworks/tapeworkskeep.TapeMoved", spec := "tapeMoved", unfollowed := true, recurses := true, apart := false }
def TapeMovedSaid : Prop := tapeMovedRow.holds Try.pinned (OpenSpec.ofChange tapeMovedSpec)

/-- ITS FALSE NEIGHBOUR: 'it returns false'. Refute it at one input. -/
def tapeMovedWrong : ChangeSpec := { name := "tapeMoved", fn := fun _ => fun
  | [d1, d2, d3, d4] => { results := [.lit (.bool false)], args := [d1, d2, d3, d4] }
  | _ => none }
def TapeMovedWrongFalsely : Prop := tapeMovedRow.holds Try.pinned (OpenSpec.ofChange tapeMovedWrong)

/-- 'tapeworkskeep.TapeTwo': WHATEVER THE INPUT: true; the input reads as it did. -/
def tapeTwoSpec : ChangeSpec := { name := "tapeTwo", fn := fun _ => fun
  | [d1, d2, d3, d4] => { results := [.lit (.bool true)], args := [d1, d2, d3, d4] }
  | _ => none }
def tapeTwoRow : OpenClaim := { program := "ytecbiokdefgoeaa", sum := "58ddb6ad5fd7b2b66e1ccee443d687d889ea3fce859a1dd69ae7e4adef7d8a05", func := "tapeworks/tapeworkskeep.TapeTwo", spec := "tapeTwo", unfollowed := true, recurses := true, apart := false }
def TapeTwoSaid : Prop := tapeTwoRow.holds Try.pinned (OpenSpec.ofChange tapeTwoSpec)

/-- ITS FALSE NEIGHBOUR: 'it returns false'. Refute it at one input. -/
def tapeTwoWrong : ChangeSpec := { name := "tapeTwo", fn := fun _ => fun
  | [d1, d2, d3, d4] => { results := [.lit (.bool false)], args := [d1, d2, d3, d4] }
  | _ => none }
def TapeTwoWrongFalsely : Prop := tapeTwoRow.holds Try.pinned (OpenSpec.ofChange tapeTwoWrong)

/- THE SECOND FORM. 'bulk': how many values and letters a reading holds, each counted each time it is reached (what is shared counts as often as it is met; a slice's spare places count too). A statement '..UptoSaid' is the law's where the arguments, and the package variables that the reading takes, are together of bulk at most 1048576: NARROWER than '..Said'. Prove '..Said' where nothing that the law and all that it calls make is longer than what came in: it says more and counts as full. Else prove '..UptoSaid'. A law counts once. -/
mutual
def uptoBulk {H : Type} : DataW H → Nat
  | .lit (.string bytes) => bytes.length + 1
  | .lit _ => 1
  | .nil => 1
  | .ptr d => uptoBulk d + 1
  | .slice elems spare => uptoBulkAll elems + uptoBulkAll spare + 1
  | .agg parts => uptoBulkAll parts + 1
  | .iface _ d => uptoBulk d + 1
  | .map entries => uptoBulkEntries entries + 1
  | .held _ => 1
def uptoBulkAll {H : Type} : List (DataW H) → Nat
  | [] => 0
  | d :: r => uptoBulk d + uptoBulkAll r
def uptoBulkEntries {H : Type} : List (Lit × DataW H) → Nat
  | [] => 0
  | x :: r => uptoBulkEntry x + uptoBulkEntries r
def uptoBulkEntry {H : Type} : Lit × DataW H → Nat
  | (.string bytes, d) => bytes.length + uptoBulk d + 1
  | (_, d) => uptoBulk d + 1
 end
def uptoSmall : (H : Type) → List (DataW H) → Bool := fun _ ds => decide (uptoBulkAll ds ≤ 1048576)
def OpenSpec.upto (s : _root_.Go.ChangeSpec) : _root_.Go.OpenSpec := { _root_.Go.OpenSpec.ofChange s with cond := some uptoSmall }

/-- 'tapeworkskeep.TapeStill', WHERE WHAT IT READS IS OF BULK AT MOST 1048576: true; the input reads as it did. -/
def tapeStillUptoRow : OpenClaim := { program := "ytecbiokdefgoeaa", sum := "58ddb6ad5fd7b2b66e1ccee443d687d889ea3fce859a1dd69ae7e4adef7d8a05", func := "tapeworks/tapeworkskeep.TapeStill", spec := "tapeStill", unfollowed := true, recurses := true, apart := false, narrowed := true }
def TapeStillUptoSaid : Prop := tapeStillUptoRow.holds Try.pinned (OpenSpec.upto tapeStillSpec)

/-- 'tapeworkskeep.TapeMoved', WHERE WHAT IT READS IS OF BULK AT MOST 1048576: true; the input reads as it did. -/
def tapeMovedUptoRow : OpenClaim := { program := "ytecbiokdefgoeaa", sum := "58ddb6ad5fd7b2b66e1ccee443d687d889ea3fce859a1dd69ae7e4adef7d8a05", func := "tapeworks/tapeworkskeep.TapeMoved", spec := "tapeMoved", unfollowed := true, recurses := true, apart := false, narrowed := true }
def TapeMovedUptoSaid : Prop := tapeMovedUptoRow.holds Try.pinned (OpenSpec.upto tapeMovedSpec)

/-- 'tapeworkskeep.TapeTwo', WHERE WHAT IT READS IS OF BULK AT MOST 1048576: true; the input reads as it did. -/
def tapeTwoUptoRow : OpenClaim := { program := "ytecbiokdefgoeaa", sum := "58ddb6ad5fd7b2b66e1ccee443d687d889ea3fce859a1dd69ae7e4adef7d8a05", func := "tapeworks/tapeworkskeep.TapeTwo", spec := "tapeTwo", unfollowed := true, recurses := true, apart := false, narrowed := true }
def TapeTwoUptoSaid : Prop := tapeTwoUptoRow.holds Try.pinned (OpenSpec.upto tapeTwoSpec)

end Rows
end Go.Proofs.Ytecbiokdefgoeaa
