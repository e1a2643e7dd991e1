/-
  No cell of these rows narrows 'for every input' (looked for: loops, veiled, ifaces, maps, wideKeys, modest, calm, conditions, laid).
  DERIVED. THE GIVEN ROWS OF THIS SEAT. 2 by the template 'for every input the law returns true; each argument reads behind the call as it read before'; 0 by the template 'total and deterministic' (their statements: YtgbcdoonginodaaTotals.lean).
  GIVEN WITH THE SEED: the statements are not yours to turn. If you find one false, say at which input.
  Laid BY PROGRAM, IN A SANDBOX (cutbox-rows.mjs): the forced cells as the released guide's own fill.sh prints them over the translation 9506a4d5a05e6364… (all of the seat's roots in one cut). By AI agents, Wed Nov 11 2026. No macro, syntax, notation, axiom, sorry.
-/
import Derived.Test.YtgbcdoonginodaaChecked
import GoSem.Claim
import GoSem.ClaimJoined
import GoSem.ClaimMapViews
import Derived.JoinedTies
import Derived.KernelRfl
namespace Go.Proofs.Ytgbcdoonginodaa
/- THE CELL 'sum', in the pinned program and in every row, IS THE sha256 OF THE DUMP (.gsa) THAT YtgbcdoonginodaaProg.lean LOADS. Nothing in Lean hashes anything: it is a label: what it is worth is what the hold of that sum in a sandbox is worth. -/
noncomputable def Try.pinned : Pinned := { name := "ytgbcdoonginodaa", sum := "9506a4d5a05e63644f0508a418e0dcd6e8f126c8063228eae59a2a242faede01", checked := Try.checked }
namespace Rows
def none {H : Type} : Left H := { results := [], args := [] }

/-- 'tapeworkskeep.NameMore': WHATEVER THE INPUT: true; the input reads as it did. -/
def nameMoreSpec : ChangeSpec := { name := "nameMore", fn := fun _ => fun
  | [d1, d2, d3] => { results := [.lit (.bool true)], args := [d1, d2, d3] }
  | _ => none }
def nameMoreRow : OpenClaim := { program := "ytgbcdoonginodaa", sum := "9506a4d5a05e63644f0508a418e0dcd6e8f126c8063228eae59a2a242faede01", func := "tapeworks/tapeworkskeep.NameMore", spec := "nameMore", unfollowed := true, recurses := true, apart := false }
def NameMoreSaid : Prop := nameMoreRow.holds Try.pinned (OpenSpec.ofChange nameMoreSpec)

/-- ITS FALSE NEIGHBOUR: 'it returns false'. Refute it at one input. -/
def nameMoreWrong : ChangeSpec := { name := "nameMore", fn := fun _ => fun
  | [d1, d2, d3] => { results := [.lit (.bool false)], args := [d1, d2, d3] }
  | _ => none }
def NameMoreWrongFalsely : Prop := nameMoreRow.holds Try.pinned (OpenSpec.ofChange nameMoreWrong)

/-- 'tapeworkskeep.NameSame': WHATEVER THE INPUT: true; the input reads as it did. -/
def nameSameSpec : ChangeSpec := { name := "nameSame", fn := fun _ => fun
  | [d1, d2] => { results := [.lit (.bool true)], args := [d1, d2] }
  | _ => none }
def nameSameRow : OpenClaim := { program := "ytgbcdoonginodaa", sum := "9506a4d5a05e63644f0508a418e0dcd6e8f126c8063228eae59a2a242faede01", func := "tapeworks/tapeworkskeep.NameSame", spec := "nameSame", unfollowed := true, recurses := true, apart := false }
def NameSameSaid : Prop := nameSameRow.holds Try.pinned (OpenSpec.ofChange nameSameSpec)

/-- ITS FALSE NEIGHBOUR: 'it returns false'. Refute it at one input. -/
def nameSameWrong : ChangeSpec := { name := "nameSame", fn := fun _ => fun
  | [d1, d2] => { results := [.lit (.bool false)], args := [d1, d2] }
  | _ => none }
def NameSameWrongFalsely : Prop := nameSameRow.holds Try.pinned (OpenSpec.ofChange nameSameWrong)

/- THE SECOND FORM. 'bulk': how many values and letters a reading holds, each counted each time it is reached (what is shared counts as often as it is met; a slice's spare places count too). A statement '..UptoSaid' is the law's where the arguments, and the package variables that the reading takes, are together of bulk at most 1048576: NARROWER than '..Said'. Prove '..Said' where nothing that the law and all that it calls make is longer than what came in: it says more and counts as full. Else prove '..UptoSaid'. A law counts once. -/
mutual
def uptoBulk {H : Type} : DataW H → Nat
  | .lit (.string bytes) => bytes.length + 1
  | .lit _ => 1
  | .nil => 1
  | .ptr d => uptoBulk d + 1
  | .slice elems spare => uptoBulkAll elems + uptoBulkAll spare + 1
  | .agg parts => uptoBulkAll parts + 1
  | .iface _ d => uptoBulk d + 1
  | .map entries => uptoBulkEntries entries + 1
  | .held _ => 1
def uptoBulkAll {H : Type} : List (DataW H) → Nat
  | [] => 0
  | d :: r => uptoBulk d + uptoBulkAll r
def uptoBulkEntries {H : Type} : List (Lit × DataW H) → Nat
  | [] => 0
  | x :: r => uptoBulkEntry x + uptoBulkEntries r
def uptoBulkEntry {H : Type} : Lit × DataW H → Nat
  | (.string bytes, d) => bytes.length + uptoBulk d + 1
  | (_, d) => uptoBulk d + 1
 end
def uptoSmall : (H : Type) → List (DataW H) → Bool := fun _ ds => decide (uptoBulkAll ds ≤ 1048576)
def OpenSpec.upto (s : _root_.Go.ChangeSpec) : _root_.Go.OpenSpec := { _root_.Go.OpenSpec.ofChange s with cond := some uptoSmall }

/-- 'tapeworkskeep.NameMore', WHERE WHAT IT READS IS OF BULK AT MOST 1048576: true; the input reads as it did. -/
def nameMoreUptoRow : OpenClaim := { program := "ytgbcdoonginodaa", sum := "9506a4d5a05e63644f0508a418e0dcd6e8f126c8063228eae59a2a242faede01", func := "tapeworks/tapeworkskeep.NameMore", spec := "nameMore", unfollowed := true, recurses := true, apart := false, narrowed := true }
def NameMoreUptoSaid : Prop := nameMoreUptoRow.holds Try.pinned (OpenSpec.upto nameMoreSpec)

/-- 'tapeworkskeep.NameSame', WHERE WHAT IT READS IS OF BULK AT MOST 1048576: true; the input reads as it did. -/
def nameSameUptoRow : OpenClaim := { program := "ytgbcdoonginodaa", sum := "9506a4d5a05e63644f0508a418e0dcd6e8f126c8063228eae59a2a242faede01", func := "tapeworks/tapeworkskeep.NameSame", spec := "nameSame", unfollowed := true, recurses := true, apart := false, narrowed := true }
def NameSameUptoSaid : Prop := nameSameUptoRow.holds Try.pinned (OpenSpec.upto nameSameSpec)

end Rows
end Go.Proofs.Ytgbcdoonginodaa
