/-
  No cell of these rows narrows 'for every input' (looked for: loops, veiled, ifaces, maps, wideKeys, modest, calm, conditions, laid).
  DERIVED. THE GIVEN ROWS OF THIS SEAT. 4 by the template 'for every input the law returns true; each argument reads behind the call as it read before'; 0 by the template 'total and deterministic' (their statements: YtjaakdjkacnfkaaTotals.lean).
  GIVEN WITH THE SEED: the statements are not yours to turn. If you find one false, say at which input.
  Laid BY PROGRAM, IN A SANDBOX (cutbox-rows.mjs): the forced cells as the released guide's own fill.sh prints them over the translation dec201bd4eb69365… (all of the seat's roots in one cut). By AI agents, Wed Nov 11 2026. No macro, syntax, notation, axiom, sorry.
-/
import Derived.Test.YtjaakdjkacnfkaaChecked
import GoSem.Claim
import GoSem.ClaimJoined
import GoSem.ClaimMapViews
import Derived.JoinedTies
import Derived.KernelRfl
namespace Go.Proofs.Ytjaakdjkacnfkaa
/- THE CELL 'sum', in the pinned program and in every row, IS THE sha256 OF THE DUMP (.gsa) THAT YtjaakdjkacnfkaaProg.lean LOADS. Nothing in Lean hashes anything: it is a label: what it is worth is what the hold of that sum in a sandbox is worth. -/
noncomputable def Try.pinned : Pinned := { name := "ytjaakdjkacnfkaa", sum := "dec201bd4eb693651c185c365770b0f3aa1ac5fd5c76a4aee240a703298ce3fd", checked := Try.checked }
namespace Rows
def none {H : Type} : Left H := { results := [], args := [] }

/-- 'tapeworkskeep.WaveParseval': WHATEVER THE INPUT: true; the input reads as it did. -/
def waveParsevalSpec : ChangeSpec := { name := "waveParseval", fn := fun _ => fun
  | [d1, d2] => { results := [.lit (.bool true)], args := [d1, d2] }
  | _ => none }
def waveParsevalRow : OpenClaim := { program := "ytjaakdjkacnfkaa", sum := "dec201bd4eb693651c185c365770b0f3aa1ac5fd5c76a4aee240a703298ce3fd", func := "tapeworks/tapeworkskeep.WaveParseval", spec := "waveParseval", unfollowed := true, recurses := true, apart := false }
def WaveParsevalSaid : Prop := waveParsevalRow.holds Try.pinned (OpenSpec.ofChange waveParsevalSpec)

/-- ITS FALSE NEIGHBOUR: 'it returns false'. Refute it at one input. -/
def waveParsevalWrong : ChangeSpec := { name := "waveParseval", fn := fun _ => fun
  | [d1, d2] => { results := [.lit (.bool false)], args := [d1, d2] }
  | _ => none }
def WaveParsevalWrongFalsely : Prop := waveParsevalRow.holds Try.pinned (OpenSpec.ofChange waveParsevalWrong)

/-- 'tapeworkskeep.WaveBlur': WHATEVER THE INPUT: true; the input reads as it did. -/
def waveBlurSpec : ChangeSpec := { name := "waveBlur", fn := fun _ => fun
  | [d1, d2, d3] => { results := [.lit (.bool true)], args := [d1, d2, d3] }
  | _ => none }
def waveBlurRow : OpenClaim := { program := "ytjaakdjkacnfkaa", sum := "dec201bd4eb693651c185c365770b0f3aa1ac5fd5c76a4aee240a703298ce3fd", func := "tapeworks/tapeworkskeep.WaveBlur", spec := "waveBlur", unfollowed := true, recurses := true, apart := false }
def WaveBlurSaid : Prop := waveBlurRow.holds Try.pinned (OpenSpec.ofChange waveBlurSpec)

/-- ITS FALSE NEIGHBOUR: 'it returns false'. Refute it at one input. -/
def waveBlurWrong : ChangeSpec := { name := "waveBlur", fn := fun _ => fun
  | [d1, d2, d3] => { results := [.lit (.bool false)], args := [d1, d2, d3] }
  | _ => none }
def WaveBlurWrongFalsely : Prop := waveBlurRow.holds Try.pinned (OpenSpec.ofChange waveBlurWrong)

/-- 'tapeworkskeep.WaveBack': WHATEVER THE INPUT: true; the input reads as it did. -/
def waveBackSpec : ChangeSpec := { name := "waveBack", fn := fun _ => fun
  | [d1, d2] => { results := [.lit (.bool true)], args := [d1, d2] }
  | _ => none }
def waveBackRow : OpenClaim := { program := "ytjaakdjkacnfkaa", sum := "dec201bd4eb693651c185c365770b0f3aa1ac5fd5c76a4aee240a703298ce3fd", func := "tapeworks/tapeworkskeep.WaveBack", spec := "waveBack", unfollowed := true, recurses := true, apart := false }
def WaveBackSaid : Prop := waveBackRow.holds Try.pinned (OpenSpec.ofChange waveBackSpec)

/-- ITS FALSE NEIGHBOUR: 'it returns false'. Refute it at one input. -/
def waveBackWrong : ChangeSpec := { name := "waveBack", fn := fun _ => fun
  | [d1, d2] => { results := [.lit (.bool false)], args := [d1, d2] }
  | _ => none }
def WaveBackWrongFalsely : Prop := waveBackRow.holds Try.pinned (OpenSpec.ofChange waveBackWrong)

/-- 'tapeworkskeep.WaveSwaying': WHATEVER THE INPUT: true; the input reads as it did. -/
def waveSwayingSpec : ChangeSpec := { name := "waveSwaying", fn := fun _ => fun
  | [d1, d2] => { results := [.lit (.bool true)], args := [d1, d2] }
  | _ => none }
def waveSwayingRow : OpenClaim := { program := "ytjaakdjkacnfkaa", sum := "dec201bd4eb693651c185c365770b0f3aa1ac5fd5c76a4aee240a703298ce3fd", func := "tapeworks/tapeworkskeep.WaveSwaying", spec := "waveSwaying", unfollowed := true, recurses := true, apart := false }
def WaveSwayingSaid : Prop := waveSwayingRow.holds Try.pinned (OpenSpec.ofChange waveSwayingSpec)

/-- ITS FALSE NEIGHBOUR: 'it returns false'. Refute it at one input. -/
def waveSwayingWrong : ChangeSpec := { name := "waveSwaying", fn := fun _ => fun
  | [d1, d2] => { results := [.lit (.bool false)], args := [d1, d2] }
  | _ => none }
def WaveSwayingWrongFalsely : Prop := waveSwayingRow.holds Try.pinned (OpenSpec.ofChange waveSwayingWrong)

/- THE SECOND FORM. 'bulk': how many values and letters a reading holds, each counted each time it is reached (what is shared counts as often as it is met; a slice's spare places count too). A statement '..UptoSaid' is the law's where the arguments, and the package variables that the reading takes, are together of bulk at most 1048576: NARROWER than '..Said'. Prove '..Said' where nothing that the law and all that it calls make is longer than what came in: it says more and counts as full. Else prove '..UptoSaid'. A law counts once. -/
mutual
def uptoBulk {H : Type} : DataW H → Nat
  | .lit (.string bytes) => bytes.length + 1
  | .lit _ => 1
  | .nil => 1
  | .ptr d => uptoBulk d + 1
  | .slice elems spare => uptoBulkAll elems + uptoBulkAll spare + 1
  | .agg parts => uptoBulkAll parts + 1
  | .iface _ d => uptoBulk d + 1
  | .map entries => uptoBulkEntries entries + 1
  | .held _ => 1
def uptoBulkAll {H : Type} : List (DataW H) → Nat
  | [] => 0
  | d :: r => uptoBulk d + uptoBulkAll r
def uptoBulkEntries {H : Type} : List (Lit × DataW H) → Nat
  | [] => 0
  | x :: r => uptoBulkEntry x + uptoBulkEntries r
def uptoBulkEntry {H : Type} : Lit × DataW H → Nat
  | (.string bytes, d) => bytes.length + uptoBulk d + 1
  | (_, d) => uptoBulk d + 1
 end
def uptoSmall : (H : Type) → List (DataW H) → Bool := fun _ ds => decide (uptoBulkAll ds ≤ 1048576)
def OpenSpec.upto (s : _root_.Go.ChangeSpec) : _root_.Go.OpenSpec := { _root_.Go.OpenSpec.ofChange s with cond := some uptoSmall }

/-- 'tapeworkskeep.WaveParseval', WHERE WHAT IT READS IS OF BULK AT MOST 1048576: true; the input reads as it did. -/
def waveParsevalUptoRow : OpenClaim := { program := "ytjaakdjkacnfkaa", sum := "dec201bd4eb693651c185c365770b0f3aa1ac5fd5c76a4aee240a703298ce3fd", func := "tapeworks/tapeworkskeep.WaveParseval", spec := "waveParseval", unfollowed := true, recurses := true, apart := false, narrowed := true }
def WaveParsevalUptoSaid : Prop := waveParsevalUptoRow.holds Try.pinned (OpenSpec.upto waveParsevalSpec)

/-- 'tapeworkskeep.WaveBlur', WHERE WHAT IT READS IS OF BULK AT MOST 1048576: true; the input reads as it did. -/
def waveBlurUptoRow : OpenClaim := { program := "ytjaakdjkacnfkaa", sum := "dec201bd4eb693651c185c365770b0f3aa1ac5fd5c76a4aee240a703298ce3fd", func := "tapeworks/tapeworkskeep.WaveBlur", spec := "waveBlur", unfollowed := true, recurses := true, apart := false, narrowed := true }
def WaveBlurUptoSaid : Prop := waveBlurUptoRow.holds Try.pinned (OpenSpec.upto waveBlurSpec)

/-- 'tapeworkskeep.WaveBack', WHERE WHAT IT READS IS OF BULK AT MOST 1048576: true; the input reads as it did. -/
def waveBackUptoRow : OpenClaim := { program := "ytjaakdjkacnfkaa", sum := "dec201bd4eb693651c185c365770b0f3aa1ac5fd5c76a4aee240a703298ce3fd", func := "tapeworks/tapeworkskeep.WaveBack", spec := "waveBack", unfollowed := true, recurses := true, apart := false, narrowed := true }
def WaveBackUptoSaid : Prop := waveBackUptoRow.holds Try.pinned (OpenSpec.upto waveBackSpec)

/-- 'tapeworkskeep.WaveSwaying', WHERE WHAT IT READS IS OF BULK AT MOST 1048576: true; the input reads as it did. -/
def waveSwayingUptoRow : OpenClaim := { program := "ytjaakdjkacnfkaa", sum := "dec201bd4eb693651c185c365770b0f3aa1ac5fd5c76a4aee240a703298ce3fd", func := "tapeworks/tapeworkskeep.WaveSwaying", spec := "waveSwaying", unfollowed := true, recurses := true, apart := false, narrowed := true }
def WaveSwayingUptoSaid : Prop := waveSwayingUptoRow.holds Try.pinned (OpenSpec.upto waveSwayingSpec)

end Rows
end Go.Proofs.Ytjaakdjkacnfkaa
