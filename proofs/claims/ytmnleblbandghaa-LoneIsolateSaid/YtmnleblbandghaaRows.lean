/-
  No cell of these rows narrows 'for every input' (looked for: loops, veiled, ifaces, maps, wideKeys, modest, calm, conditions, laid).
  DERIVED. THE GIVEN ROWS OF THIS SEAT. 4 by the template 'for every input the law returns true; each argument reads behind the call as it read before'; 0 by the template 'total and deterministic' (their statements: YtmnleblbandghaaTotals.lean).
  GIVEN WITH THE SEED: the statements are not yours to turn. If you find one false, say at which input.
  Laid BY PROGRAM, IN A SANDBOX (cutbox-rows.mjs): the forced cells as the released guide's own fill.sh prints them over the translation a95c7a96090eff5c… (all of the seat's roots in one cut). By AI agents, Wed Nov 11 2026. No macro, syntax, notation, axiom, sorry.
-/
import Derived.Test.YtmnleblbandghaaChecked
import GoSem.Claim
import GoSem.ClaimJoined
import GoSem.ClaimMapViews
import Derived.JoinedTies
import Derived.KernelRfl
namespace Go.Proofs.Ytmnleblbandghaa
/- THE CELL 'sum', in the pinned program and in every row, IS THE sha256 OF THE DUMP (.gsa) THAT YtmnleblbandghaaProg.lean LOADS. Nothing in Lean hashes anything: it is a label: what it is worth is what the hold of that sum in a sandbox is worth. -/
noncomputable def Try.pinned : Pinned := { name := "ytmnleblbandghaa", sum := "a95c7a96090eff5ca8d5f89c36ad42f826f61ff9712cfab0cccdfc07b351dfa2", checked := Try.checked }
namespace Rows
def none {H : Type} : Left H := { results := [], args := [] }

/-- 'tapeworkskeep.LoneSieve': WHATEVER THE INPUT: true; the input reads as it did. -/
def loneSieveSpec : ChangeSpec := { name := "loneSieve", fn := fun _ => fun
  | [d1, d2, d3, d4] => { results := [.lit (.bool true)], args := [d1, d2, d3, d4] }
  | _ => none }
def loneSieveRow : OpenClaim := { program := "ytmnleblbandghaa", sum := "a95c7a96090eff5ca8d5f89c36ad42f826f61ff9712cfab0cccdfc07b351dfa2", func := "tapeworks/tapeworkskeep.LoneSieve", spec := "loneSieve", unfollowed := true, recurses := true, apart := false }
def LoneSieveSaid : Prop := loneSieveRow.holds Try.pinned (OpenSpec.ofChange loneSieveSpec)

/-- ITS FALSE NEIGHBOUR: 'it returns false'. Refute it at one input. -/
def loneSieveWrong : ChangeSpec := { name := "loneSieve", fn := fun _ => fun
  | [d1, d2, d3, d4] => { results := [.lit (.bool false)], args := [d1, d2, d3, d4] }
  | _ => none }
def LoneSieveWrongFalsely : Prop := loneSieveRow.holds Try.pinned (OpenSpec.ofChange loneSieveWrong)

/-- 'tapeworkskeep.LoneLight': WHATEVER THE INPUT: true; the input reads as it did. -/
def loneLightSpec : ChangeSpec := { name := "loneLight", fn := fun _ => fun
  | [d1, d2, d3, d4] => { results := [.lit (.bool true)], args := [d1, d2, d3, d4] }
  | _ => none }
def loneLightRow : OpenClaim := { program := "ytmnleblbandghaa", sum := "a95c7a96090eff5ca8d5f89c36ad42f826f61ff9712cfab0cccdfc07b351dfa2", func := "tapeworks/tapeworkskeep.LoneLight", spec := "loneLight", unfollowed := true, recurses := true, apart := false }
def LoneLightSaid : Prop := loneLightRow.holds Try.pinned (OpenSpec.ofChange loneLightSpec)

/-- ITS FALSE NEIGHBOUR: 'it returns false'. Refute it at one input. -/
def loneLightWrong : ChangeSpec := { name := "loneLight", fn := fun _ => fun
  | [d1, d2, d3, d4] => { results := [.lit (.bool false)], args := [d1, d2, d3, d4] }
  | _ => none }
def LoneLightWrongFalsely : Prop := loneLightRow.holds Try.pinned (OpenSpec.ofChange loneLightWrong)

/-- 'tapeworkskeep.LoneLucky': WHATEVER THE INPUT: true; the input reads as it did. -/
def loneLuckySpec : ChangeSpec := { name := "loneLucky", fn := fun _ => fun
  | [d1, d2, d3] => { results := [.lit (.bool true)], args := [d1, d2, d3] }
  | _ => none }
def loneLuckyRow : OpenClaim := { program := "ytmnleblbandghaa", sum := "a95c7a96090eff5ca8d5f89c36ad42f826f61ff9712cfab0cccdfc07b351dfa2", func := "tapeworks/tapeworkskeep.LoneLucky", spec := "loneLucky", unfollowed := true, recurses := true, apart := false }
def LoneLuckySaid : Prop := loneLuckyRow.holds Try.pinned (OpenSpec.ofChange loneLuckySpec)

/-- ITS FALSE NEIGHBOUR: 'it returns false'. Refute it at one input. -/
def loneLuckyWrong : ChangeSpec := { name := "loneLucky", fn := fun _ => fun
  | [d1, d2, d3] => { results := [.lit (.bool false)], args := [d1, d2, d3] }
  | _ => none }
def LoneLuckyWrongFalsely : Prop := loneLuckyRow.holds Try.pinned (OpenSpec.ofChange loneLuckyWrong)

/-- 'tapeworkskeep.LoneIsolate': WHATEVER THE INPUT: true; the input reads as it did. -/
def loneIsolateSpec : ChangeSpec := { name := "loneIsolate", fn := fun _ => fun
  | [d1, d2, d3] => { results := [.lit (.bool true)], args := [d1, d2, d3] }
  | _ => none }
def loneIsolateRow : OpenClaim := { program := "ytmnleblbandghaa", sum := "a95c7a96090eff5ca8d5f89c36ad42f826f61ff9712cfab0cccdfc07b351dfa2", func := "tapeworks/tapeworkskeep.LoneIsolate", spec := "loneIsolate", unfollowed := true, recurses := true, apart := false }
def LoneIsolateSaid : Prop := loneIsolateRow.holds Try.pinned (OpenSpec.ofChange loneIsolateSpec)

/-- ITS FALSE NEIGHBOUR: 'it returns false'. Refute it at one input. -/
def loneIsolateWrong : ChangeSpec := { name := "loneIsolate", fn := fun _ => fun
  | [d1, d2, d3] => { results := [.lit (.bool false)], args := [d1, d2, d3] }
  | _ => none }
def LoneIsolateWrongFalsely : Prop := loneIsolateRow.holds Try.pinned (OpenSpec.ofChange loneIsolateWrong)

/- THE SECOND FORM. 'bulk': how many values and letters a reading holds, each counted each time it is reached (what is shared counts as often as it is met; a slice's spare places count too). A statement '..UptoSaid' is the law's where the arguments, and the package variables that the reading takes, are together of bulk at most 1048576: NARROWER than '..Said'. Prove '..Said' where nothing that the law and all that it calls make is longer than what came in: it says more and counts as full. Else prove '..UptoSaid'. A law counts once. -/
mutual
def uptoBulk {H : Type} : DataW H → Nat
  | .lit (.string bytes) => bytes.length + 1
  | .lit _ => 1
  | .nil => 1
  | .ptr d => uptoBulk d + 1
  | .slice elems spare => uptoBulkAll elems + uptoBulkAll spare + 1
  | .agg parts => uptoBulkAll parts + 1
  | .iface _ d => uptoBulk d + 1
  | .map entries => uptoBulkEntries entries + 1
  | .held _ => 1
def uptoBulkAll {H : Type} : List (DataW H) → Nat
  | [] => 0
  | d :: r => uptoBulk d + uptoBulkAll r
def uptoBulkEntries {H : Type} : List (Lit × DataW H) → Nat
  | [] => 0
  | x :: r => uptoBulkEntry x + uptoBulkEntries r
def uptoBulkEntry {H : Type} : Lit × DataW H → Nat
  | (.string bytes, d) => bytes.length + uptoBulk d + 1
  | (_, d) => uptoBulk d + 1
 end
def uptoSmall : (H : Type) → List (DataW H) → Bool := fun _ ds => decide (uptoBulkAll ds ≤ 1048576)
def OpenSpec.upto (s : _root_.Go.ChangeSpec) : _root_.Go.OpenSpec := { _root_.Go.OpenSpec.ofChange s with cond := some uptoSmall }

/-- 'tapeworkskeep.LoneSieve', WHERE WHAT IT READS IS OF BULK AT MOST 1048576: true; the input reads as it did. -/
def loneSieveUptoRow : OpenClaim := { program := "ytmnleblbandghaa", sum := "a95c7a96090eff5ca8d5f89c36ad42f826f61ff9712cfab0cccdfc07b351dfa2", func := "tapeworks/tapeworkskeep.LoneSieve", spec := "loneSieve", unfollowed := true, recurses := true, apart := false, narrowed := true }
def LoneSieveUptoSaid : Prop := loneSieveUptoRow.holds Try.pinned (OpenSpec.upto loneSieveSpec)

/-- 'tapeworkskeep.LoneLight', WHERE WHAT IT READS IS OF BULK AT MOST 1048576: true; the input reads as it did. -/
def loneLightUptoRow : OpenClaim := { program := "ytmnleblbandghaa", sum := "a95c7a96090eff5ca8d5f89c36ad42f826f61ff9712cfab0cccdfc07b351dfa2", func := "tapeworks/tapeworkskeep.LoneLight", spec := "loneLight", unfollowed := true, recurses := true, apart := false, narrowed := true }
def LoneLightUptoSaid : Prop := loneLightUptoRow.holds Try.pinned (OpenSpec.upto loneLightSpec)

/-- 'tapeworkskeep.LoneLucky', WHERE WHAT IT READS IS OF BULK AT MOST 1048576: true; the input reads as it did. -/
def loneLuckyUptoRow : OpenClaim := { program := "ytmnleblbandghaa", sum := "a95c7a96090eff5ca8d5f89c36ad42f826f61ff9712cfab0cccdfc07b351dfa2", func := "tapeworks/tapeworkskeep.LoneLucky", spec := "loneLucky", unfollowed := true, recurses := true, apart := false, narrowed := true }
def LoneLuckyUptoSaid : Prop := loneLuckyUptoRow.holds Try.pinned (OpenSpec.upto loneLuckySpec)

/-- 'tapeworkskeep.LoneIsolate', WHERE WHAT IT READS IS OF BULK AT MOST 1048576: true; the input reads as it did. -/
def loneIsolateUptoRow : OpenClaim := { program := "ytmnleblbandghaa", sum := "a95c7a96090eff5ca8d5f89c36ad42f826f61ff9712cfab0cccdfc07b351dfa2", func := "tapeworks/tapeworkskeep.LoneIsolate", spec := "loneIsolate", unfollowed := true, recurses := true, apart := false, narrowed := true }
def LoneIsolateUptoSaid : Prop := loneIsolateUptoRow.holds Try.pinned (OpenSpec.upto loneIsolateSpec)

end Rows
end Go.Proofs.Ytmnleblbandghaa
