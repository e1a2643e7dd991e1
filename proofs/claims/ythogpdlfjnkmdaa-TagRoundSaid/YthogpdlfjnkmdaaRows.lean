/-
  No cell of these rows narrows 'for every input' (looked for: loops, veiled, ifaces, maps, wideKeys, modest, calm, conditions, laid).
  DERIVED. THE GIVEN ROWS OF THIS SEAT. 2 by the template 'for every input the law returns true; each argument reads behind the call as it read before'; 0 by the template 'total and deterministic' (their statements: YthogpdlfjnkmdaaTotals.lean).
  GIVEN WITH THE SEED: the statements are not yours to turn. If you find one false, say at which input.
  Laid BY PROGRAM, IN A SANDBOX (cutbox-rows.mjs): the forced cells as the released guide's own fill.sh prints them over the translation 25beb5d68b97bad3… (all of the seat's roots in one cut). By AI agents, Wed Nov 11 2026. No macro, syntax, notation, axiom, sorry.
-/
import Derived.Test.YthogpdlfjnkmdaaChecked
import GoSem.Claim
import GoSem.ClaimJoined
import GoSem.ClaimMapViews
import Derived.JoinedTies
import Derived.KernelRfl
namespace Go.Proofs.Ythogpdlfjnkmdaa
/- THE CELL 'sum', in the pinned program and in every row, IS THE sha256 OF THE DUMP (.gsa) THAT YthogpdlfjnkmdaaProg.lean LOADS. Nothing in Lean hashes anything: it is a label: what it is worth is what the hold of that sum in a sandbox is worth. -/
noncomputable def Try.pinned : Pinned := { name := "ythogpdlfjnkmdaa", sum := "25beb5d68b97bad313b4cde27681d9b3d923927c5e0596dec11c32ddcfab5dec", checked := Try.checked }
namespace Rows
def none {H : Type} : Left H := { results := [], args := [] }

/-- 'tapeworkskeep.TagTwo': WHATEVER THE INPUT: true; the input reads as it did. -/
def tagTwoSpec : ChangeSpec := { name := "tagTwo", fn := fun _ => fun
  | [d1, d2, d3, d4, d5] => { results := [.lit (.bool true)], args := [d1, d2, d3, d4, d5] }
  | _ => none }
def tagTwoRow : OpenClaim := { program := "ythogpdlfjnkmdaa", sum := "25beb5d68b97bad313b4cde27681d9b3d923927c5e0596dec11c32ddcfab5dec", func := "tapeworks/tapeworkskeep.TagTwo", spec := "tagTwo", unfollowed := true, recurses := true, apart := false }
def TagTwoSaid : Prop := tagTwoRow.holds Try.pinned (OpenSpec.ofChange tagTwoSpec)

/-- ITS FALSE NEIGHBOUR: 'it returns false'. Refute it at one input. -/
def tagTwoWrong : ChangeSpec := { name := "tagTwo", fn := fun _ => fun
  | [d1, d2, d3, d4, d5] => { results := [.lit (.bool false)], args := [d1, d2, d3, d4, d5] }
  | _ => none }
def TagTwoWrongFalsely : Prop := tagTwoRow.holds Try.pinned (OpenSpec.ofChange tagTwoWrong)

/-- 'tapeworkskeep.TagRound': WHATEVER THE INPUT: true; the input reads as it did. -/
def tagRoundSpec : ChangeSpec := { name := "tagRound", fn := fun _ => fun
  | [d1, d2, d3] => { results := [.lit (.bool true)], args := [d1, d2, d3] }
  | _ => none }
def tagRoundRow : OpenClaim := { program := "ythogpdlfjnkmdaa", sum := "25beb5d68b97bad313b4cde27681d9b3d923927c5e0596dec11c32ddcfab5dec", func := "tapeworks/tapeworkskeep.TagRound", spec := "tagRound", unfollowed := true, recurses := true, apart := false }
def TagRoundSaid : Prop := tagRoundRow.holds Try.pinned (OpenSpec.ofChange tagRoundSpec)

/-- ITS FALSE NEIGHBOUR: 'it returns false'. Refute it at one input. -/
def tagRoundWrong : ChangeSpec := { name := "tagRound", fn := fun _ => fun
  | [d1, d2, d3] => { results := [.lit (.bool false)], args := [d1, d2, d3] }
  | _ => none }
def TagRoundWrongFalsely : Prop := tagRoundRow.holds Try.pinned (OpenSpec.ofChange tagRoundWrong)

/- THE SECOND FORM. 'bulk': how many values and letters a reading holds, each counted each time it is reached (what is shared counts as often as it is met; a slice's spare places count too). A statement '..UptoSaid' is the law's where the arguments, and the package variables that the reading takes, are together of bulk at most 1048576: NARROWER than '..Said'. Prove '..Said' where nothing that the law and all that it calls make is longer than what came in: it says more and counts as full. Else prove '..UptoSaid'. A law counts once. -/
mutual
def uptoBulk {H : Type} : DataW H → Nat
  | .lit (.string bytes) => bytes.length + 1
  | .lit _ => 1
  | .nil => 1
  | .ptr d => uptoBulk d + 1
  | .slice elems spare => uptoBulkAll elems + uptoBulkAll spare + 1
  | .agg parts => uptoBulkAll parts + 1
  | .iface _ d => uptoBulk d + 1
  | .map entries => uptoBulkEntries entries + 1
  | .held _ => 1
def uptoBulkAll {H : Type} : List (DataW H) → Nat
  | [] => 0
  | d :: r => uptoBulk d + uptoBulkAll r
def uptoBulkEntries {H : Type} : List (Lit × DataW H) → Nat
  | [] => 0
  | x :: r => uptoBulkEntry x + uptoBulkEntries r
def uptoBulkEntry {H : Type} : Lit × DataW H → Nat
  | (.string bytes, d) => bytes.length + uptoBulk d + 1
  | (_, d) => uptoBulk d + 1
 end
def uptoSmall : (H : Type) → List (DataW H) → Bool := fun _ ds => decide (uptoBulkAll ds ≤ 1048576)
def OpenSpec.upto (s : _root_.Go.ChangeSpec) : _root_.Go.OpenSpec := { _root_.Go.OpenSpec.ofChange s with cond := some uptoSmall }

/-- 'tapeworkskeep.TagTwo', WHERE WHAT IT READS IS OF BULK AT MOST 1048576: true; the input reads as it did. -/
def tagTwoUptoRow : OpenClaim := { program := "ythogpdlfjnkmdaa", sum := "25beb5d68b97bad313b4cde27681d9b3d923927c5e0596dec11c32ddcfab5dec", func := "tapeworks/tapeworkskeep.TagTwo", spec := "tagTwo", unfollowed := true, recurses := true, apart := false, narrowed := true }
def TagTwoUptoSaid : Prop := tagTwoUptoRow.holds Try.pinned (OpenSpec.upto tagTwoSpec)

/-- 'tapeworkskeep.TagRound', WHERE WHAT IT READS IS OF BULK AT MOST 1048576: true; the input reads as it did. -/
def tagRoundUptoRow : OpenClaim := { program := "ythogpdlfjnkmdaa", sum := "25beb5d68b97bad313b4cde27681d9b3d923927c5e0596dec11c32ddcfab5dec", func := "tapeworks/tapeworkskeep.TagRound", spec := "tagRound", unfollowed := true, recurses := true, apart := false, narrowed := true }
def TagRoundUptoSaid : Prop := tagRoundUptoRow.holds Try.pinned (OpenSpec.upto tagRoundSpec)

end Rows
end Go.Proofs.Ythogpdlfjnkmdaa
