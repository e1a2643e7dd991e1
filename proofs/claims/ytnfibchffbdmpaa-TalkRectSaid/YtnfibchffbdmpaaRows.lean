/-
  No cell of these rows narrows 'for every input' (looked for: loops, veiled, ifaces, maps, wideKeys, modest, calm, conditions, laid).
  DERIVED. THE GIVEN ROWS OF THIS SEAT. 3 by the template 'for every input the law returns true; each argument reads behind the call as it read before'; 0 by the template 'total and deterministic' (their statements: YtnfibchffbdmpaaTotals.lean).
  GIVEN WITH THE SEED: the statements are not yours to turn. If you find one false, say at which input.
  Laid BY PROGRAM, IN A SANDBOX (cutbox-rows.mjs): the forced cells as the released guide's own fill.sh prints them over the translation b139db78dc00434e… (all of the seat's roots in one cut). By AI agents, Wed Nov 11 2026. No macro, syntax, notation, axiom, sorry.
-/
import Derived.Test.YtnfibchffbdmpaaChecked
import GoSem.Claim
import GoSem.ClaimJoined
import GoSem.ClaimMapViews
import Derived.JoinedTies
import Derived.KernelRfl
namespace Go.Proofs.Ytnfibchffbdmpaa
/- THE CELL 'sum', in the pinned program and in every row, IS THE sha256 OF THE DUMP (.gsa) THAT YtnfibchffbdmpaaProg.lean LOADS. Nothing in Lean hashes anything: it is a label: what it is worth is what the hold of that sum in a sandbox is worth. -/
noncomputable def Try.pinned : Pinned := { name := "ytnfibchffbdmpaa", sum := "b139db78dc00434e97eaed735aa8a3e01079d0c70ba90dc9664c122047801514", checked := Try.checked }
namespace Rows
def none {H : Type} : Left H := { results := [], args := [] }

/-- 'tapeworkskeep.TalkTurn': WHATEVER THE INPUT: true; the input reads as it did. -/
def talkTurnSpec : ChangeSpec := { name := "talkTurn", fn := fun _ => fun
  | [d] => { results := [.lit (.bool true)], args := [d] }
  | _ => none }
def talkTurnRow : OpenClaim := { program := "ytnfibchffbdmpaa", sum := "b139db78dc00434e97eaed735aa8a3e01079d0c70ba90dc9664c122047801514", func := "tapeworks/tapeworkskeep.TalkTurn", spec := "talkTurn", unfollowed := true, recurses := true, plainKeys := false, apart := false }
def TalkTurnSaid : Prop := talkTurnRow.holds Try.pinned (OpenSpec.ofChange talkTurnSpec)

/-- ITS FALSE NEIGHBOUR: 'it returns false'. Refute it at one input. -/
def talkTurnWrong : ChangeSpec := { name := "talkTurn", fn := fun _ => fun
  | [d] => { results := [.lit (.bool false)], args := [d] }
  | _ => none }
def TalkTurnWrongFalsely : Prop := talkTurnRow.holds Try.pinned (OpenSpec.ofChange talkTurnWrong)

/-- 'tapeworkskeep.TalkYao': WHATEVER THE INPUT: true; the input reads as it did. -/
def talkYaoSpec : ChangeSpec := { name := "talkYao", fn := fun _ => fun
  | [d] => { results := [.lit (.bool true)], args := [d] }
  | _ => none }
def talkYaoRow : OpenClaim := { program := "ytnfibchffbdmpaa", sum := "b139db78dc00434e97eaed735aa8a3e01079d0c70ba90dc9664c122047801514", func := "tapeworks/tapeworkskeep.TalkYao", spec := "talkYao", unfollowed := true, recurses := true, plainKeys := false, apart := false }
def TalkYaoSaid : Prop := talkYaoRow.holds Try.pinned (OpenSpec.ofChange talkYaoSpec)

/-- ITS FALSE NEIGHBOUR: 'it returns false'. Refute it at one input. -/
def talkYaoWrong : ChangeSpec := { name := "talkYao", fn := fun _ => fun
  | [d] => { results := [.lit (.bool false)], args := [d] }
  | _ => none }
def TalkYaoWrongFalsely : Prop := talkYaoRow.holds Try.pinned (OpenSpec.ofChange talkYaoWrong)

/-- 'tapeworkskeep.TalkRect': WHATEVER THE INPUT: true; the input reads as it did. -/
def talkRectSpec : ChangeSpec := { name := "talkRect", fn := fun _ => fun
  | [d] => { results := [.lit (.bool true)], args := [d] }
  | _ => none }
def talkRectRow : OpenClaim := { program := "ytnfibchffbdmpaa", sum := "b139db78dc00434e97eaed735aa8a3e01079d0c70ba90dc9664c122047801514", func := "tapeworks/tapeworkskeep.TalkRect", spec := "talkRect", unfollowed := true, recurses := true, plainKeys := false, apart := false }
def TalkRectSaid : Prop := talkRectRow.holds Try.pinned (OpenSpec.ofChange talkRectSpec)

/-- ITS FALSE NEIGHBOUR: 'it returns false'. Refute it at one input. -/
def talkRectWrong : ChangeSpec := { name := "talkRect", fn := fun _ => fun
  | [d] => { results := [.lit (.bool false)], args := [d] }
  | _ => none }
def TalkRectWrongFalsely : Prop := talkRectRow.holds Try.pinned (OpenSpec.ofChange talkRectWrong)

/- THE SECOND FORM. 'bulk': how many values and letters a reading holds, each counted each time it is reached (what is shared counts as often as it is met; a slice's spare places count too). A statement '..UptoSaid' is the law's where the arguments, and the package variables that the reading takes, are together of bulk at most 1048576: NARROWER than '..Said'. Prove '..Said' where nothing that the law and all that it calls make is longer than what came in: it says more and counts as full. Else prove '..UptoSaid'. A law counts once. -/
mutual
def uptoBulk {H : Type} : DataW H → Nat
  | .lit (.string bytes) => bytes.length + 1
  | .lit _ => 1
  | .nil => 1
  | .ptr d => uptoBulk d + 1
  | .slice elems spare => uptoBulkAll elems + uptoBulkAll spare + 1
  | .agg parts => uptoBulkAll parts + 1
  | .iface _ d => uptoBulk d + 1
  | .map entries => uptoBulkEntries entries + 1
  | .held _ => 1
def uptoBulkAll {H : Type} : List (DataW H) → Nat
  | [] => 0
  | d :: r => uptoBulk d + uptoBulkAll r
def uptoBulkEntries {H : Type} : List (Lit × DataW H) → Nat
  | [] => 0
  | x :: r => uptoBulkEntry x + uptoBulkEntries r
def uptoBulkEntry {H : Type} : Lit × DataW H → Nat
  | (.string bytes, d) => bytes.length + uptoBulk d + 1
  | (_, d) => uptoBulk d + 1
 end
def uptoSmall : (H : Type) → List (DataW H) → Bool := fun _ ds => decide (uptoBulkAll ds ≤ 1048576)
def OpenSpec.upto (s : _root_.Go.ChangeSpec) : _root_.Go.OpenSpec := { _root_.Go.OpenSpec.ofChange s with cond := some uptoSmall }

/-- 'tapeworkskeep.TalkTurn', WHERE WHAT IT READS IS OF BULK AT MOST 1048576: true; the input reads as it did. -/
def talkTurnUptoRow : OpenClaim := { program := "ytnfibchffbdmpaa", sum := "b139db78dc00434e97eaed735aa8a3e01079d0c70ba90dc9664c122047801514", func := "tapeworks/tapeworkskeep.TalkTurn", spec := "talkTurn", unfollowed := true, recurses := true, plainKeys := false, apart := false, narrowed := true }
def TalkTurnUptoSaid : Prop := talkTurnUptoRow.holds Try.pinned (OpenSpec.upto talkTurnSpec)

/-- 'tapeworkskeep.TalkYao', WHERE WHAT IT READS IS OF BULK AT MOST 1048576: true; the input reads as it did. -/
def talkYaoUptoRow : OpenClaim := { program := "ytnfibchffbdmpaa", sum := "b139db78dc00434e97eaed735aa8a3e01079d0c70ba90dc9664c122047801514", func := "tapeworks/tapeworkskeep.TalkYao", spec := "talkYao", unfollowed := true, recurses := true, plainKeys := false, apart := false, narrowed := true }
def TalkYaoUptoSaid : Prop := talkYaoUptoRow.holds Try.pinned (OpenSpec.upto talkYaoSpec)

/-- 'tapeworkskeep.TalkRect', WHERE WHAT IT READS IS OF BULK AT MOST 1048576: true; the input reads as it did. -/
def talkRectUptoRow : OpenClaim := { program := "ytnfibchffbdmpaa", sum := "b139db78dc00434e97eaed735aa8a3e01079d0c70ba90dc9664c122047801514", func := "tapeworks/tapeworkskeep.TalkRect", spec := "talkRect", unfollowed := true, recurses := true, plainKeys := false, apart := false, narrowed := true }
def TalkRectUptoSaid : Prop := talkRectUptoRow.holds Try.pinned (OpenSpec.upto talkRectSpec)

end Rows
end Go.Proofs.Ytnfibchffbdmpaa
