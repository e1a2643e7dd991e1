/-
  No cell of these rows narrows 'for every input' (looked for: loops, veiled, ifaces, maps, wideKeys, modest, calm, conditions, laid).
  DERIVED. THE GIVEN ROWS OF THIS SEAT. 3 by the template 'for every input the law returns true; each argument reads behind the call as it read before'; 0 by the template 'total and deterministic' (their statements: YtmbemikhbcjfmaaTotals.lean).
  GIVEN WITH THE SEED: the statements are not yours to turn. If you find one false, say at which input.
  Laid BY PROGRAM, IN A SANDBOX (cutbox-rows.mjs): the forced cells as the released guide's own fill.sh prints them over the translation 080354e5635bf398… (all of the seat's roots in one cut). By AI agents, Wed Nov 11 2026. No macro, syntax, notation, axiom, sorry.
-/
import Derived.Test.YtmbemikhbcjfmaaChecked
import GoSem.Claim
import GoSem.ClaimJoined
import GoSem.ClaimMapViews
import Derived.JoinedTies
import Derived.KernelRfl
namespace Go.Proofs.Ytmbemikhbcjfmaa
/- THE CELL 'sum', in the pinned program and in every row, IS THE sha256 OF THE DUMP (.gsa) THAT YtmbemikhbcjfmaaProg.lean LOADS. Nothing in Lean hashes anything: it is a label: what it is worth is what the hold of that sum in a sandbox is worth. -/
noncomputable def Try.pinned : Pinned := { name := "ytmbemikhbcjfmaa", sum := "080354e5635bf3981b08fd8d35f800a3c6fedd227af5c82e177c4ee39f51a69b", checked := Try.checked }
namespace Rows
def none {H : Type} : Left H := { results := [], args := [] }

/-- 'tapeworkskeep.CombVar': WHATEVER THE INPUT: true; the input reads as it did. -/
def combVarSpec : ChangeSpec := { name := "combVar", fn := fun _ => fun
  | [d1, d2, d3] => { results := [.lit (.bool true)], args := [d1, d2, d3] }
  | _ => none }
def combVarRow : OpenClaim := { program := "ytmbemikhbcjfmaa", sum := "080354e5635bf3981b08fd8d35f800a3c6fedd227af5c82e177c4ee39f51a69b", func := "tapeworks/tapeworkskeep.CombVar", spec := "combVar", recurses := true, apart := false }
def CombVarSaid : Prop := combVarRow.holds Try.pinned (OpenSpec.ofChange combVarSpec)

/-- ITS FALSE NEIGHBOUR: 'it returns false'. Refute it at one input. -/
def combVarWrong : ChangeSpec := { name := "combVar", fn := fun _ => fun
  | [d1, d2, d3] => { results := [.lit (.bool false)], args := [d1, d2, d3] }
  | _ => none }
def CombVarWrongFalsely : Prop := combVarRow.holds Try.pinned (OpenSpec.ofChange combVarWrong)

/-- 'tapeworkskeep.CombSelf': WHATEVER THE INPUT: true; the input reads as it did. -/
def combSelfSpec : ChangeSpec := { name := "combSelf", fn := fun _ => fun
  | [d] => { results := [.lit (.bool true)], args := [d] }
  | _ => none }
def combSelfRow : OpenClaim := { program := "ytmbemikhbcjfmaa", sum := "080354e5635bf3981b08fd8d35f800a3c6fedd227af5c82e177c4ee39f51a69b", func := "tapeworks/tapeworkskeep.CombSelf", spec := "combSelf", recurses := true, apart := false }
def CombSelfSaid : Prop := combSelfRow.holds Try.pinned (OpenSpec.ofChange combSelfSpec)

/-- ITS FALSE NEIGHBOUR: 'it returns false'. Refute it at one input. -/
def combSelfWrong : ChangeSpec := { name := "combSelf", fn := fun _ => fun
  | [d] => { results := [.lit (.bool false)], args := [d] }
  | _ => none }
def CombSelfWrongFalsely : Prop := combSelfRow.holds Try.pinned (OpenSpec.ofChange combSelfWrong)

/-- 'tapeworkskeep.CombOut': WHATEVER THE INPUT: true; the input reads as it did. -/
def combOutSpec : ChangeSpec := { name := "combOut", fn := fun _ => fun
  | [d1, d2, d3] => { results := [.lit (.bool true)], args := [d1, d2, d3] }
  | _ => none }
def combOutRow : OpenClaim := { program := "ytmbemikhbcjfmaa", sum := "080354e5635bf3981b08fd8d35f800a3c6fedd227af5c82e177c4ee39f51a69b", func := "tapeworks/tapeworkskeep.CombOut", spec := "combOut", recurses := true, apart := false }
def CombOutSaid : Prop := combOutRow.holds Try.pinned (OpenSpec.ofChange combOutSpec)

/-- ITS FALSE NEIGHBOUR: 'it returns false'. Refute it at one input. -/
def combOutWrong : ChangeSpec := { name := "combOut", fn := fun _ => fun
  | [d1, d2, d3] => { results := [.lit (.bool false)], args := [d1, d2, d3] }
  | _ => none }
def CombOutWrongFalsely : Prop := combOutRow.holds Try.pinned (OpenSpec.ofChange combOutWrong)

/- THE SECOND FORM. 'bulk': how many values and letters a reading holds, each counted each time it is reached (what is shared counts as often as it is met; a slice's spare places count too). A statement '..UptoSaid' is the law's where the arguments, and the package variables that the reading takes, are together of bulk at most 1048576: NARROWER than '..Said'. Prove '..Said' where nothing that the law and all that it calls make is longer than what came in: it says more and counts as full. Else prove '..UptoSaid'. A law counts once. -/
mutual
def uptoBulk {H : Type} : DataW H → Nat
  | .lit (.string bytes) => bytes.length + 1
  | .lit _ => 1
  | .nil => 1
  | .ptr d => uptoBulk d + 1
  | .slice elems spare => uptoBulkAll elems + uptoBulkAll spare + 1
  | .agg parts => uptoBulkAll parts + 1
  | .iface _ d => uptoBulk d + 1
  | .map entries => uptoBulkEntries entries + 1
  | .held _ => 1
def uptoBulkAll {H : Type} : List (DataW H) → Nat
  | [] => 0
  | d :: r => uptoBulk d + uptoBulkAll r
def uptoBulkEntries {H : Type} : List (Lit × DataW H) → Nat
  | [] => 0
  | x :: r => uptoBulkEntry x + uptoBulkEntries r
def uptoBulkEntry {H : Type} : Lit × DataW H → Nat
  | (.string bytes, d) => bytes.length + uptoBulk d + 1
  | (_, d) => uptoBulk d + 1
 end
def uptoSmall : (H : Type) → List (DataW H) → Bool := fun _ ds => decide (uptoBulkAll ds ≤ 1048576)
def OpenSpec.upto (s : _root_.Go.ChangeSpec) : _root_.Go.OpenSpec := { _root_.Go.OpenSpec.ofChange s with cond := some uptoSmall }

/-- 'tapeworkskeep.CombVar', WHERE WHAT IT READS IS OF BULK AT MOST 1048576: true; the input reads as it did. -/
def combVarUptoRow : OpenClaim := { program := "ytmbemikhbcjfmaa", sum := "080354e5635bf3981b08fd8d35f800a3c6fedd227af5c82e177c4ee39f51a69b", func := "tapeworks/tapeworkskeep.CombVar", spec := "combVar", recurses := true, apart := false, narrowed := true }
def CombVarUptoSaid : Prop := combVarUptoRow.holds Try.pinned (OpenSpec.upto combVarSpec)

/-- 'tapeworkskeep.CombSelf', WHERE WHAT IT READS IS OF BULK AT MOST 1048576: true; the input reads as it did. -/
def combSelfUptoRow : OpenClaim := { program := "ytmbemikhbcjfmaa", sum := "080354e5635bf3981b08fd8d35f800a3c6fedd227af5c82e177c4ee39f51a69b", func := "tapeworks/tapeworkskeep.CombSelf", spec := "combSelf", recurses := true, apart := false, narrowed := true }
def CombSelfUptoSaid : Prop := combSelfUptoRow.holds Try.pinned (OpenSpec.upto combSelfSpec)

/-- 'tapeworkskeep.CombOut', WHERE WHAT IT READS IS OF BULK AT MOST 1048576: true; the input reads as it did. -/
def combOutUptoRow : OpenClaim := { program := "ytmbemikhbcjfmaa", sum := "080354e5635bf3981b08fd8d35f800a3c6fedd227af5c82e177c4ee39f51a69b", func := "tapeworks/tapeworkskeep.CombOut", spec := "combOut", recurses := true, apart := false, narrowed := true }
def CombOutUptoSaid : Prop := combOutUptoRow.holds Try.pinned (OpenSpec.upto combOutSpec)

end Rows
end Go.Proofs.Ytmbemikhbcjfmaa
