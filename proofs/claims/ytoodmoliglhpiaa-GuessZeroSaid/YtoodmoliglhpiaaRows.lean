/-
  No cell of these rows narrows 'for every input' (looked for: loops, veiled, ifaces, maps, wideKeys, modest, calm, conditions, laid).
  DERIVED. THE GIVEN ROWS OF THIS SEAT. 3 by the template 'for every input the law returns true; each argument reads behind the call as it read before'; 0 by the template 'total and deterministic' (their statements: YtoodmoliglhpiaaTotals.lean).
  GIVEN WITH THE SEED: the statements are not yours to turn. If you find one false, say at which input.
  Laid BY PROGRAM, IN A SANDBOX (cutbox-rows.mjs): the forced cells as the released guide's own fill.sh prints them over the translation 8128daa08a24df17… (all of the seat's roots in one cut). By AI agents, Wed Nov 11 2026. No macro, syntax, notation, axiom, sorry.
-/
import Derived.Test.YtoodmoliglhpiaaChecked
import GoSem.Claim
import GoSem.ClaimJoined
import GoSem.ClaimMapViews
import Derived.JoinedTies
import Derived.KernelRfl
namespace Go.Proofs.Ytoodmoliglhpiaa
/- THE CELL 'sum', in the pinned program and in every row, IS THE sha256 OF THE DUMP (.gsa) THAT YtoodmoliglhpiaaProg.lean LOADS. Nothing in Lean hashes anything: it is a label: what it is worth is what the hold of that sum in a sandbox is worth. -/
noncomputable def Try.pinned : Pinned := { name := "ytoodmoliglhpiaa", sum := "8128daa08a24df173df9c76e0c7f098734199a04e4452d2475c1f5c4de83283c", checked := Try.checked }
namespace Rows
def none {H : Type} : Left H := { results := [], args := [] }

/-- 'tapeworkskeep.GuessZero': WHATEVER THE INPUT: true; the input reads as it did. -/
def guessZeroSpec : ChangeSpec := { name := "guessZero", fn := fun _ => fun
  | [d1, d2] => { results := [.lit (.bool true)], args := [d1, d2] }
  | _ => none }
def guessZeroRow : OpenClaim := { program := "ytoodmoliglhpiaa", sum := "8128daa08a24df173df9c76e0c7f098734199a04e4452d2475c1f5c4de83283c", func := "tapeworks/tapeworkskeep.GuessZero", spec := "guessZero", unfollowed := true, recurses := true, plainKeys := false, apart := false }
def GuessZeroSaid : Prop := guessZeroRow.holds Try.pinned (OpenSpec.ofChange guessZeroSpec)

/-- ITS FALSE NEIGHBOUR: 'it returns false'. Refute it at one input. -/
def guessZeroWrong : ChangeSpec := { name := "guessZero", fn := fun _ => fun
  | [d1, d2] => { results := [.lit (.bool false)], args := [d1, d2] }
  | _ => none }
def GuessZeroWrongFalsely : Prop := guessZeroRow.holds Try.pinned (OpenSpec.ofChange guessZeroWrong)

/-- 'tapeworkskeep.GuessLinear': WHATEVER THE INPUT: true; the input reads as it did. -/
def guessLinearSpec : ChangeSpec := { name := "guessLinear", fn := fun _ => fun
  | [d1, d2] => { results := [.lit (.bool true)], args := [d1, d2] }
  | _ => none }
def guessLinearRow : OpenClaim := { program := "ytoodmoliglhpiaa", sum := "8128daa08a24df173df9c76e0c7f098734199a04e4452d2475c1f5c4de83283c", func := "tapeworks/tapeworkskeep.GuessLinear", spec := "guessLinear", plainKeys := false, apart := false }
def GuessLinearSaid : Prop := guessLinearRow.holds Try.pinned (OpenSpec.ofChange guessLinearSpec)

/-- ITS FALSE NEIGHBOUR: 'it returns false'. Refute it at one input. -/
def guessLinearWrong : ChangeSpec := { name := "guessLinear", fn := fun _ => fun
  | [d1, d2] => { results := [.lit (.bool false)], args := [d1, d2] }
  | _ => none }
def GuessLinearWrongFalsely : Prop := guessLinearRow.holds Try.pinned (OpenSpec.ofChange guessLinearWrong)

/-- 'tapeworkskeep.GuessFreivalds': WHATEVER THE INPUT: true; the input reads as it did. -/
def guessFreivaldsSpec : ChangeSpec := { name := "guessFreivalds", fn := fun _ => fun
  | [d1, d2, d3] => { results := [.lit (.bool true)], args := [d1, d2, d3] }
  | _ => none }
def guessFreivaldsRow : OpenClaim := { program := "ytoodmoliglhpiaa", sum := "8128daa08a24df173df9c76e0c7f098734199a04e4452d2475c1f5c4de83283c", func := "tapeworks/tapeworkskeep.GuessFreivalds", spec := "guessFreivalds", unfollowed := true, recurses := true, plainKeys := false, apart := false }
def GuessFreivaldsSaid : Prop := guessFreivaldsRow.holds Try.pinned (OpenSpec.ofChange guessFreivaldsSpec)

/-- ITS FALSE NEIGHBOUR: 'it returns false'. Refute it at one input. -/
def guessFreivaldsWrong : ChangeSpec := { name := "guessFreivalds", fn := fun _ => fun
  | [d1, d2, d3] => { results := [.lit (.bool false)], args := [d1, d2, d3] }
  | _ => none }
def GuessFreivaldsWrongFalsely : Prop := guessFreivaldsRow.holds Try.pinned (OpenSpec.ofChange guessFreivaldsWrong)

/- THE SECOND FORM. 'bulk': how many values and letters a reading holds, each counted each time it is reached (what is shared counts as often as it is met; a slice's spare places count too). A statement '..UptoSaid' is the law's where the arguments, and the package variables that the reading takes, are together of bulk at most 1048576: NARROWER than '..Said'. Prove '..Said' where nothing that the law and all that it calls make is longer than what came in: it says more and counts as full. Else prove '..UptoSaid'. A law counts once. -/
mutual
def uptoBulk {H : Type} : DataW H → Nat
  | .lit (.string bytes) => bytes.length + 1
  | .lit _ => 1
  | .nil => 1
  | .ptr d => uptoBulk d + 1
  | .slice elems spare => uptoBulkAll elems + uptoBulkAll spare + 1
  | .agg parts => uptoBulkAll parts + 1
  | .iface _ d => uptoBulk d + 1
  | .map entries => uptoBulkEntries entries + 1
  | .held _ => 1
def uptoBulkAll {H : Type} : List (DataW H) → Nat
  | [] => 0
  | d :: r => uptoBulk d + uptoBulkAll r
def uptoBulkEntries {H : Type} : List (Lit × DataW H) → Nat
  | [] => 0
  | x :: r => uptoBulkEntry x + uptoBulkEntries r
def uptoBulkEntry {H : Type} : Lit × DataW H → Nat
  | (.string bytes, d) => bytes.length + uptoBulk d + 1
  | (_, d) => uptoBulk d + 1
 end
def uptoSmall : (H : Type) → List (DataW H) → Bool := fun _ ds => decide (uptoBulkAll ds ≤ 1048576)
def OpenSpec.upto (s : _root_.Go.ChangeSpec) : _root_.Go.OpenSpec := { _root_.Go.OpenSpec.ofChange s with cond := some uptoSmall }

/-- 'tapeworkskeep.GuessZero', WHERE WHAT IT READS IS OF BULK AT MOST 1048576: true; the input reads as it did. -/
def guessZeroUptoRow : OpenClaim := { program := "ytoodmoliglhpiaa", sum := "8128daa08a24df173df9c76e0c7f098734199a04e4452d2475c1f5c4de83283c", func := "tapeworks/tapeworkskeep.GuessZero", spec := "guessZero", unfollowed := true, recurses := true, plainKeys := false, apart := false, narrowed := true }
def GuessZeroUptoSaid : Prop := guessZeroUptoRow.holds Try.pinned (OpenSpec.upto guessZeroSpec)

/-- 'tapeworkskeep.GuessLinear', WHERE WHAT IT READS IS OF BULK AT MOST 1048576: true; the input reads as it did. -/
def guessLinearUptoRow : OpenClaim := { program := "ytoodmoliglhpiaa", sum := "8128daa08a24df173df9c76e0c7f098734199a04e4452d2475c1f5c4de83283c", func := "tapeworks/tapeworkskeep.GuessLinear", spec := "guessLinear", plainKeys := false, apart := false, narrowed := true }
def GuessLinearUptoSaid : Prop := guessLinearUptoRow.holds Try.pinned (OpenSpec.upto guessLinearSpec)

/-- 'tapeworkskeep.GuessFreivalds', WHERE WHAT IT READS IS OF BULK AT MOST 1048576: true; the input reads as it did. -/
def guessFreivaldsUptoRow : OpenClaim := { program := "ytoodmoliglhpiaa", sum := "8128daa08a24df173df9c76e0c7f098734199a04e4452d2475c1f5c4de83283c", func := "tapeworks/tapeworkskeep.GuessFreivalds", spec := "guessFreivalds", unfollowed := true, recurses := true, plainKeys := false, apart := false, narrowed := true }
def GuessFreivaldsUptoSaid : Prop := guessFreivaldsUptoRow.holds Try.pinned (OpenSpec.upto guessFreivaldsSpec)

end Rows
end Go.Proofs.Ytoodmoliglhpiaa
