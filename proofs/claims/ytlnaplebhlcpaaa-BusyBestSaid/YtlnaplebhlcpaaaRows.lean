/-
  No cell of these rows narrows 'for every input' (looked for: loops, veiled, ifaces, maps, wideKeys, modest, calm, conditions, laid).
  DERIVED. THE GIVEN ROWS OF THIS SEAT. 2 by the template 'for every input the law returns true; each argument reads behind the call as it read before'; 0 by the template 'total and deterministic' (their statements: YtlnaplebhlcpaaaTotals.lean).
  GIVEN WITH THE SEED: the statements are not yours to turn. If you find one false, say at which input.
  Laid BY PROGRAM, IN A SANDBOX (cutbox-rows.mjs): the forced cells as the released guide's own fill.sh prints them over the translation 83b13c6ddcfcd13f… (all of the seat's roots in one cut). By AI agents, Wed Nov 11 2026. No macro, syntax, notation, axiom, sorry.
-/
import Derived.Test.YtlnaplebhlcpaaaChecked
import GoSem.Claim
import GoSem.ClaimJoined
import GoSem.ClaimMapViews
import Derived.JoinedTies
import Derived.KernelRfl
namespace Go.Proofs.Ytlnaplebhlcpaaa
/- THE CELL 'sum', in the pinned program and in every row, IS THE sha256 OF THE DUMP (.gsa) THAT YtlnaplebhlcpaaaProg.lean LOADS. Nothing in Lean hashes anything: it is a label: what it is worth is what the hold of that sum in a sandbox is worth. -/
noncomputable def Try.pinned : Pinned := { name := "ytlnaplebhlcpaaa", sum := "83b13c6ddcfcd13fe73301287de5f6fb6f7639af692526da8df8b446107adb26", checked := Try.checked }
namespace Rows
def none {H : Type} : Left H := { results := [], args := [] }

/-- 'tapeworkskeep.BusyBack': WHATEVER THE INPUT: true; the input reads as it did. -/
def busyBackSpec : ChangeSpec := { name := "busyBack", fn := fun _ => fun
  | [d1, d2, d3] => { results := [.lit (.bool true)], args := [d1, d2, d3] }
  | _ => none }
def busyBackRow : OpenClaim := { program := "ytlnaplebhlcpaaa", sum := "83b13c6ddcfcd13fe73301287de5f6fb6f7639af692526da8df8b446107adb26", func := "tapeworks/tapeworkskeep.BusyBack", spec := "busyBack", unfollowed := true, recurses := true, apart := false }
def BusyBackSaid : Prop := busyBackRow.holds Try.pinned (OpenSpec.ofChange busyBackSpec)

/-- ITS FALSE NEIGHBOUR: 'it returns false'. Refute it at one input. -/
def busyBackWrong : ChangeSpec := { name := "busyBack", fn := fun _ => fun
  | [d1, d2, d3] => { results := [.lit (.bool false)], args := [d1, d2, d3] }
  | _ => none }
def BusyBackWrongFalsely : Prop := busyBackRow.holds Try.pinned (OpenSpec.ofChange busyBackWrong)

/-- 'tapeworkskeep.BusyBest': WHATEVER THE INPUT: true; the input reads as it did. -/
def busyBestSpec : ChangeSpec := { name := "busyBest", fn := fun _ => fun
  | [d] => { results := [.lit (.bool true)], args := [d] }
  | _ => none }
def busyBestRow : OpenClaim := { program := "ytlnaplebhlcpaaa", sum := "83b13c6ddcfcd13fe73301287de5f6fb6f7639af692526da8df8b446107adb26", func := "tapeworks/tapeworkskeep.BusyBest", spec := "busyBest", unfollowed := true, recurses := true, apart := false }
def BusyBestSaid : Prop := busyBestRow.holds Try.pinned (OpenSpec.ofChange busyBestSpec)

/-- ITS FALSE NEIGHBOUR: 'it returns false'. Refute it at one input. -/
def busyBestWrong : ChangeSpec := { name := "busyBest", fn := fun _ => fun
  | [d] => { results := [.lit (.bool false)], args := [d] }
  | _ => none }
def BusyBestWrongFalsely : Prop := busyBestRow.holds Try.pinned (OpenSpec.ofChange busyBestWrong)

/- THE SECOND FORM. 'bulk': how many values and letters a reading holds, each counted each time it is reached (what is shared counts as often as it is met; a slice's spare places count too). A statement '..UptoSaid' is the law's where the arguments, and the package variables that the reading takes, are together of bulk at most 1048576: NARROWER than '..Said'. Prove '..Said' where nothing that the law and all that it calls make is longer than what came in: it says more and counts as full. Else prove '..UptoSaid'. A law counts once. -/
mutual
def uptoBulk {H : Type} : DataW H → Nat
  | .lit (.string bytes) => bytes.length + 1
  | .lit _ => 1
  | .nil => 1
  | .ptr d => uptoBulk d + 1
  | .slice elems spare => uptoBulkAll elems + uptoBulkAll spare + 1
  | .agg parts => uptoBulkAll parts + 1
  | .iface _ d => uptoBulk d + 1
  | .map entries => uptoBulkEntries entries + 1
  | .held _ => 1
def uptoBulkAll {H : Type} : List (DataW H) → Nat
  | [] => 0
  | d :: r => uptoBulk d + uptoBulkAll r
def uptoBulkEntries {H : Type} : List (Lit × DataW H) → Nat
  | [] => 0
  | x :: r => uptoBulkEntry x + uptoBulkEntries r
def uptoBulkEntry {H : Type} : Lit × DataW H → Nat
  | (.string bytes, d) => bytes.length + uptoBulk d + 1
  | (_, d) => uptoBulk d + 1
 end
def uptoSmall : (H : Type) → List (DataW H) → Bool := fun _ ds => decide (uptoBulkAll ds ≤ 1048576)
def OpenSpec.upto (s : _root_.Go.ChangeSpec) : _root_.Go.OpenSpec := { _root_.Go.OpenSpec.ofChange s with cond := some uptoSmall }

/-- 'tapeworkskeep.BusyBack', WHERE WHAT IT READS IS OF BULK AT MOST 1048576: true; the input reads as it did. -/
def busyBackUptoRow : OpenClaim := { program := "ytlnaplebhlcpaaa", sum := "83b13c6ddcfcd13fe73301287de5f6fb6f7639af692526da8df8b446107adb26", func := "tapeworks/tapeworkskeep.BusyBack", spec := "busyBack", unfollowed := true, recurses := true, apart := false, narrowed := true }
def BusyBackUptoSaid : Prop := busyBackUptoRow.holds Try.pinned (OpenSpec.upto busyBackSpec)

/-- 'tapeworkskeep.BusyBest', WHERE WHAT IT READS IS OF BULK AT MOST 1048576: true; the input reads as it did. -/
def busyBestUptoRow : OpenClaim := { program := "ytlnaplebhlcpaaa", sum := "83b13c6ddcfcd13fe73301287de5f6fb6f7639af692526da8df8b446107adb26", func := "tapeworks/tapeworkskeep.BusyBest", spec := "busyBest", unfollowed := true, recurses := true, apart := false, narrowed := true }
def BusyBestUptoSaid : Prop := busyBestUptoRow.holds Try.pinned (OpenSpec.upto busyBestSpec)

end Rows
end Go.Proofs.Ytlnaplebhlcpaaa
