/-
  No cell of these rows narrows 'for every input' (looked for: loops, veiled, ifaces, maps, wideKeys, modest, calm, conditions, laid).
  DERIVED. THE GIVEN ROWS OF THIS SEAT. 3 by the template 'for every input the law returns true; each argument reads behind the call as it read before'; 0 by the template 'total and deterministic' (their statements: YtmhicimjoidonaaTotals.lean).
  GIVEN WITH THE SEED: the statements are not yours to turn. If you find one false, say at which input.
  Laid BY PROGRAM, IN A SANDBOX (cutbox-rows.mjs): the forced cells as the released guide's own fill.sh prints them over the translation 7c2b09c65110a29c… (all of the seat's roots in one cut). By AI agents, Wed Nov 11 2026. No macro, syntax, notation, axiom, sorry.
-/
import Derived.Test.YtmhicimjoidonaaChecked
import GoSem.Claim
import GoSem.ClaimJoined
import GoSem.ClaimMapViews
import Derived.JoinedTies
import Derived.KernelRfl
namespace Go.Proofs.Ytmhicimjoidonaa
/- THE CELL 'sum', in the pinned program and in every row, IS THE sha256 OF THE DUMP (.gsa) THAT YtmhicimjoidonaaProg.lean LOADS. Nothing in Lean hashes anything: it is a label: what it is worth is what the hold of that sum in a sandbox is worth. -/
noncomputable def Try.pinned : Pinned := { name := "ytmhicimjoidonaa", sum := "7c2b09c65110a29cc692a81e15017bdc2ce0bd4efb75566a3979b5ab4817e9fd", checked := Try.checked }
namespace Rows
def none {H : Type} : Left H := { results := [], args := [] }

/-- 'tapeworkskeep.WideGroup': WHATEVER THE INPUT: true; the input reads as it did. -/
def wideGroupSpec : ChangeSpec := { name := "wideGroup", fn := fun _ => fun
  | [d1, d2, d3] => { results := [.lit (.bool true)], args := [d1, d2, d3] }
  | _ => none }
def wideGroupRow : OpenClaim := { program := "ytmhicimjoidonaa", sum := "7c2b09c65110a29cc692a81e15017bdc2ce0bd4efb75566a3979b5ab4817e9fd", func := "tapeworks/tapeworkskeep.WideGroup", spec := "wideGroup", apart := false }
def WideGroupSaid : Prop := wideGroupRow.holds Try.pinned (OpenSpec.ofChange wideGroupSpec)

/-- ITS FALSE NEIGHBOUR: 'it returns false'. Refute it at one input. -/
def wideGroupWrong : ChangeSpec := { name := "wideGroup", fn := fun _ => fun
  | [d1, d2, d3] => { results := [.lit (.bool false)], args := [d1, d2, d3] }
  | _ => none }
def WideGroupWrongFalsely : Prop := wideGroupRow.holds Try.pinned (OpenSpec.ofChange wideGroupWrong)

/-- 'tapeworkskeep.WideBoth': WHATEVER THE INPUT: true; the input reads as it did. -/
def wideBothSpec : ChangeSpec := { name := "wideBoth", fn := fun _ => fun
  | [d1, d2, d3, d4] => { results := [.lit (.bool true)], args := [d1, d2, d3, d4] }
  | _ => none }
def wideBothRow : OpenClaim := { program := "ytmhicimjoidonaa", sum := "7c2b09c65110a29cc692a81e15017bdc2ce0bd4efb75566a3979b5ab4817e9fd", func := "tapeworks/tapeworkskeep.WideBoth", spec := "wideBoth", apart := false }
def WideBothSaid : Prop := wideBothRow.holds Try.pinned (OpenSpec.ofChange wideBothSpec)

/-- ITS FALSE NEIGHBOUR: 'it returns false'. Refute it at one input. -/
def wideBothWrong : ChangeSpec := { name := "wideBoth", fn := fun _ => fun
  | [d1, d2, d3, d4] => { results := [.lit (.bool false)], args := [d1, d2, d3, d4] }
  | _ => none }
def WideBothWrongFalsely : Prop := wideBothRow.holds Try.pinned (OpenSpec.ofChange wideBothWrong)

/-- 'tapeworkskeep.WideCircuit': WHATEVER THE INPUT: true; the input reads as it did. -/
def wideCircuitSpec : ChangeSpec := { name := "wideCircuit", fn := fun _ => fun
  | [d1, d2, d3] => { results := [.lit (.bool true)], args := [d1, d2, d3] }
  | _ => none }
def wideCircuitRow : OpenClaim := { program := "ytmhicimjoidonaa", sum := "7c2b09c65110a29cc692a81e15017bdc2ce0bd4efb75566a3979b5ab4817e9fd", func := "tapeworks/tapeworkskeep.WideCircuit", spec := "wideCircuit", unfollowed := true, recurses := true, apart := false }
def WideCircuitSaid : Prop := wideCircuitRow.holds Try.pinned (OpenSpec.ofChange wideCircuitSpec)

/-- ITS FALSE NEIGHBOUR: 'it returns false'. Refute it at one input. -/
def wideCircuitWrong : ChangeSpec := { name := "wideCircuit", fn := fun _ => fun
  | [d1, d2, d3] => { results := [.lit (.bool false)], args := [d1, d2, d3] }
  | _ => none }
def WideCircuitWrongFalsely : Prop := wideCircuitRow.holds Try.pinned (OpenSpec.ofChange wideCircuitWrong)

/- THE SECOND FORM. 'bulk': how many values and letters a reading holds, each counted each time it is reached (what is shared counts as often as it is met; a slice's spare places count too). A statement '..UptoSaid' is the law's where the arguments, and the package variables that the reading takes, are together of bulk at most 1048576: NARROWER than '..Said'. Prove '..Said' where nothing that the law and all that it calls make is longer than what came in: it says more and counts as full. Else prove '..UptoSaid'. A law counts once. -/
mutual
def uptoBulk {H : Type} : DataW H → Nat
  | .lit (.string bytes) => bytes.length + 1
  | .lit _ => 1
  | .nil => 1
  | .ptr d => uptoBulk d + 1
  | .slice elems spare => uptoBulkAll elems + uptoBulkAll spare + 1
  | .agg parts => uptoBulkAll parts + 1
  | .iface _ d => uptoBulk d + 1
  | .map entries => uptoBulkEntries entries + 1
  | .held _ => 1
def uptoBulkAll {H : Type} : List (DataW H) → Nat
  | [] => 0
  | d :: r => uptoBulk d + uptoBulkAll r
def uptoBulkEntries {H : Type} : List (Lit × DataW H) → Nat
  | [] => 0
  | x :: r => uptoBulkEntry x + uptoBulkEntries r
def uptoBulkEntry {H : Type} : Lit × DataW H → Nat
  | (.string bytes, d) => bytes.length + uptoBulk d + 1
  | (_, d) => uptoBulk d + 1
 end
def uptoSmall : (H : Type) → List (DataW H) → Bool := fun _ ds => decide (uptoBulkAll ds ≤ 1048576)
def OpenSpec.upto (s : _root_.Go.ChangeSpec) : _root_.Go.OpenSpec := { _root_.Go.OpenSpec.ofChange s with cond := some uptoSmall }

/-- 'tapeworkskeep.WideGroup', WHERE WHAT IT READS IS OF BULK AT MOST 1048576: true; the input reads as it did. -/
def wideGroupUptoRow : OpenClaim := { program := "ytmhicimjoidonaa", sum := "7c2b09c65110a29cc692a81e15017bdc2ce0bd4efb75566a3979b5ab4817e9fd", func := "tapeworks/tapeworkskeep.WideGroup", spec := "wideGroup", apart := false, narrowed := true }
def WideGroupUptoSaid : Prop := wideGroupUptoRow.holds Try.pinned (OpenSpec.upto wideGroupSpec)

/-- 'tapeworkskeep.WideBoth', WHERE WHAT IT READS IS OF BULK AT MOST 1048576: true; the input reads as it did. -/
def wideBothUptoRow : OpenClaim := { program := "ytmhicimjoidonaa", sum := "7c2b09c65110a29cc692a81e15017bdc2ce0bd4efb75566a3979b5ab4817e9fd", func := "tapeworks/tapeworkskeep.WideBoth", spec := "wideBoth", apart := false, narrowed := true }
def WideBothUptoSaid : Prop := wideBothUptoRow.holds Try.pinned (OpenSpec.upto wideBothSpec)

/-- 'tapeworkskeep.WideCircuit', WHERE WHAT IT READS IS OF BULK AT MOST 1048576: true; the input reads as it did. -/
def wideCircuitUptoRow : OpenClaim := { program := "ytmhicimjoidonaa", sum := "7c2b09c65110a29cc692a81e15017bdc2ce0bd4efb75566a3979b5ab4817e9fd", func := "tapeworks/tapeworkskeep.WideCircuit", spec := "wideCircuit", unfollowed := true, recurses := true, apart := false, narrowed := true }
def WideCircuitUptoSaid : Prop := wideCircuitUptoRow.holds Try.pinned (OpenSpec.upto wideCircuitSpec)

end Rows
end Go.Proofs.Ytmhicimjoidonaa
