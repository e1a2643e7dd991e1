/-
  No cell of these rows narrows 'for every input' (looked for: loops, veiled, ifaces, maps, wideKeys, modest, calm, conditions, laid).
  DERIVED. THE GIVEN ROWS OF THIS SEAT. 4 by the template 'for every input the law returns true; each argument reads behind the call as it read before'; 0 by the template 'total and deterministic' (their statements: YtenlnkcmabphfaaTotals.lean).
  GIVEN WITH THE SEED: the statements are not yours to turn. If you find one false, say at which input.
  Laid BY PROGRAM, IN A SANDBOX (cutbox-rows.mjs): the forced cells as the released guide's own fill.sh prints them over the translation 3d14d653fa341262… (all of the seat's roots in one cut). By AI agents, Wed Nov 11 2026. No macro, syntax, notation, axiom, sorry.
-/
import Derived.Test.YtenlnkcmabphfaaChecked
import GoSem.Claim
import GoSem.ClaimJoined
import GoSem.ClaimMapViews
import Derived.JoinedTies
import Derived.KernelRfl
namespace Go.Proofs.Ytenlnkcmabphfaa
/- THE CELL 'sum', in the pinned program and in every row, IS THE sha256 OF THE DUMP (.gsa) THAT YtenlnkcmabphfaaProg.lean LOADS. Nothing in Lean hashes anything: it is a label: what it is worth is what the hold of that sum in a sandbox is worth. -/
noncomputable def Try.pinned : Pinned := { name := "ytenlnkcmabphfaa", sum := "3d14d653fa341262609f2da1f97d1df176f6e9ebe191a40acfd30c476578a9e6", checked := Try.checked }
namespace Rows
def none {H : Type} : Left H := { results := [], args := [] }

/-- 'tapeworkskeep.PairsMost': WHATEVER THE INPUT: true; the input reads as it did. -/
def pairsMostSpec : ChangeSpec := { name := "pairsMost", fn := fun _ => fun
  | [d1, d2, d3, d4] => { results := [.lit (.bool true)], args := [d1, d2, d3, d4] }
  | _ => none }
def pairsMostRow : OpenClaim := { program := "ytenlnkcmabphfaa", sum := "3d14d653fa341262609f2da1f97d1df176f6e9ebe191a40acfd30c476578a9e6", func := "tapeworks/tapeworkskeep.PairsMost", spec := "pairsMost", unfollowed := true, recurses := true, apart := false }
def PairsMostSaid : Prop := pairsMostRow.holds Try.pinned (OpenSpec.ofChange pairsMostSpec)

/-- ITS FALSE NEIGHBOUR: 'it returns false'. Refute it at one input. -/
def pairsMostWrong : ChangeSpec := { name := "pairsMost", fn := fun _ => fun
  | [d1, d2, d3, d4] => { results := [.lit (.bool false)], args := [d1, d2, d3, d4] }
  | _ => none }
def PairsMostWrongFalsely : Prop := pairsMostRow.holds Try.pinned (OpenSpec.ofChange pairsMostWrong)

/-- 'tapeworkskeep.PairsTurn': WHATEVER THE INPUT: true; the input reads as it did. -/
def pairsTurnSpec : ChangeSpec := { name := "pairsTurn", fn := fun _ => fun
  | [d1, d2, d3] => { results := [.lit (.bool true)], args := [d1, d2, d3] }
  | _ => none }
def pairsTurnRow : OpenClaim := { program := "ytenlnkcmabphfaa", sum := "3d14d653fa341262609f2da1f97d1df176f6e9ebe191a40acfd30c476578a9e6", func := "tapeworks/tapeworkskeep.PairsTurn", spec := "pairsTurn", unfollowed := true, recurses := true, apart := false }
def PairsTurnSaid : Prop := pairsTurnRow.holds Try.pinned (OpenSpec.ofChange pairsTurnSpec)

/-- ITS FALSE NEIGHBOUR: 'it returns false'. Refute it at one input. -/
def pairsTurnWrong : ChangeSpec := { name := "pairsTurn", fn := fun _ => fun
  | [d1, d2, d3] => { results := [.lit (.bool false)], args := [d1, d2, d3] }
  | _ => none }
def PairsTurnWrongFalsely : Prop := pairsTurnRow.holds Try.pinned (OpenSpec.ofChange pairsTurnWrong)

/-- 'tapeworkskeep.PairsRow': WHATEVER THE INPUT: true; the input reads as it did. -/
def pairsRowSpec : ChangeSpec := { name := "pairsRow", fn := fun _ => fun
  | [d1, d2, d3] => { results := [.lit (.bool true)], args := [d1, d2, d3] }
  | _ => none }
def pairsRowRow : OpenClaim := { program := "ytenlnkcmabphfaa", sum := "3d14d653fa341262609f2da1f97d1df176f6e9ebe191a40acfd30c476578a9e6", func := "tapeworks/tapeworkskeep.PairsRow", spec := "pairsRow", unfollowed := true, recurses := true, apart := false }
def PairsRowSaid : Prop := pairsRowRow.holds Try.pinned (OpenSpec.ofChange pairsRowSpec)

/-- ITS FALSE NEIGHBOUR: 'it returns false'. Refute it at one input. -/
def pairsRowWrong : ChangeSpec := { name := "pairsRow", fn := fun _ => fun
  | [d1, d2, d3] => { results := [.lit (.bool false)], args := [d1, d2, d3] }
  | _ => none }
def PairsRowWrongFalsely : Prop := pairsRowRow.holds Try.pinned (OpenSpec.ofChange pairsRowWrong)

/-- 'tapeworkskeep.PairsParity': WHATEVER THE INPUT: true; the input reads as it did. -/
def pairsParitySpec : ChangeSpec := { name := "pairsParity", fn := fun _ => fun
  | [d] => { results := [.lit (.bool true)], args := [d] }
  | _ => none }
def pairsParityRow : OpenClaim := { program := "ytenlnkcmabphfaa", sum := "3d14d653fa341262609f2da1f97d1df176f6e9ebe191a40acfd30c476578a9e6", func := "tapeworks/tapeworkskeep.PairsParity", spec := "pairsParity", unfollowed := true, recurses := true, apart := false }
def PairsParitySaid : Prop := pairsParityRow.holds Try.pinned (OpenSpec.ofChange pairsParitySpec)

/-- ITS FALSE NEIGHBOUR: 'it returns false'. Refute it at one input. -/
def pairsParityWrong : ChangeSpec := { name := "pairsParity", fn := fun _ => fun
  | [d] => { results := [.lit (.bool false)], args := [d] }
  | _ => none }
def PairsParityWrongFalsely : Prop := pairsParityRow.holds Try.pinned (OpenSpec.ofChange pairsParityWrong)

/- THE SECOND FORM. 'bulk': how many values and letters a reading holds, each counted each time it is reached (what is shared counts as often as it is met; a slice's spare places count too). A statement '..UptoSaid' is the law's where the arguments, and the package variables that the reading takes, are together of bulk at most 1048576: NARROWER than '..Said'. Prove '..Said' where nothing that the law and all that it calls make is longer than what came in: it says more and counts as full. Else prove '..UptoSaid'. A law counts once. -/
mutual
def uptoBulk {H : Type} : DataW H → Nat
  | .lit (.string bytes) => bytes.length + 1
  | .lit _ => 1
  | .nil => 1
  | .ptr d => uptoBulk d + 1
  | .slice elems spare => uptoBulkAll elems + uptoBulkAll spare + 1
  | .agg parts => uptoBulkAll parts + 1
  | .iface _ d => uptoBulk d + 1
  | .map entries => uptoBulkEntries entries + 1
  | .held _ => 1
def uptoBulkAll {H : Type} : List (DataW H) → Nat
  | [] => 0
  | d :: r => uptoBulk d + uptoBulkAll r
def uptoBulkEntries {H : Type} : List (Lit × DataW H) → Nat
  | [] => 0
  | x :: r => uptoBulkEntry x + uptoBulkEntries r
def uptoBulkEntry {H : Type} : Lit × DataW H → Nat
  | (.string bytes, d) => bytes.length + uptoBulk d + 1
  | (_, d) => uptoBulk d + 1
 end
def uptoSmall : (H : Type) → List (DataW H) → Bool := fun _ ds => decide (uptoBulkAll ds ≤ 1048576)
def OpenSpec.upto (s : _root_.Go.ChangeSpec) : _root_.Go.OpenSpec := { _root_.Go.OpenSpec.ofChange s with cond := some uptoSmall }

/-- 'tapeworkskeep.PairsMost', WHERE WHAT IT READS IS OF BULK AT MOST 1048576: true; the input reads as it did. -/
def pairsMostUptoRow : OpenClaim := { program := "ytenlnkcmabphfaa", sum := "3d14d653fa341262609f2da1f97d1df176f6e9ebe191a40acfd30c476578a9e6", func := "tapeworks/tapeworkskeep.PairsMost", spec := "pairsMost", unfollowed := true, recurses := true, apart := false, narrowed := true }
def PairsMostUptoSaid : Prop := pairsMostUptoRow.holds Try.pinned (OpenSpec.upto pairsMostSpec)

/-- 'tapeworkskeep.PairsTurn', WHERE WHAT IT READS IS OF BULK AT MOST 1048576: true; the input reads as it did. -/
def pairsTurnUptoRow : OpenClaim := { program := "ytenlnkcmabphfaa", sum := "3d14d653fa341262609f2da1f97d1df176f6e9ebe191a40acfd30c476578a9e6", func := "tapeworks/tapeworkskeep.PairsTurn", spec := "pairsTurn", unfollowed := true, recurses := true, apart := false, narrowed := true }
def PairsTurnUptoSaid : Prop := pairsTurnUptoRow.holds Try.pinned (OpenSpec.upto pairsTurnSpec)

/-- 'tapeworkskeep.PairsRow', WHERE WHAT IT READS IS OF BULK AT MOST 1048576: true; the input reads as it did. -/
def pairsRowUptoRow : OpenClaim := { program := "ytenlnkcmabphfaa", sum := "3d14d653fa341262609f2da1f97d1df176f6e9ebe191a40acfd30c476578a9e6", func := "tapeworks/tapeworkskeep.PairsRow", spec := "pairsRow", unfollowed := true, recurses := true, apart := false, narrowed := true }
def PairsRowUptoSaid : Prop := pairsRowUptoRow.holds Try.pinned (OpenSpec.upto pairsRowSpec)

/-- 'tapeworkskeep.PairsParity', WHERE WHAT IT READS IS OF BULK AT MOST 1048576: true; the input reads as it did. -/
def pairsParityUptoRow : OpenClaim := { program := "ytenlnkcmabphfaa", sum := "3d14d653fa341262609f2da1f97d1df176f6e9ebe191a40acfd30c476578a9e6", func := "tapeworks/tapeworkskeep.PairsParity", spec := "pairsParity", unfollowed := true, recurses := true, apart := false, narrowed := true }
def PairsParityUptoSaid : Prop := pairsParityUptoRow.holds Try.pinned (OpenSpec.upto pairsParitySpec)

end Rows
end Go.Proofs.Ytenlnkcmabphfaa
