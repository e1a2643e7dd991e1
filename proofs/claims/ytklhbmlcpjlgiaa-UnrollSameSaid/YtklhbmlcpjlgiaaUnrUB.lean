/- The builder with its signs and its places, and what step leaves. No condition. -/
import Derived.Test.YtklhbmlcpjlgiaaUnrEnd
import Derived.Test.YtklhbmlcpjlgiaaUnrSem
import Derived.Test.YtklhbmlcpjlgiaaHeldMore
import Derived.IntWalk
import Derived.BigQuiet
import Derived.Deep.RegionLaw
import Derived.Deep.DeepMust
import Derived.Deep.DeepCutAuto
namespace Go.Proofs.Ytklhbmlcpjlgiaa
open Go.ChangeShapes Go.WideShapes Go.ChangeAt Go.RowKit Go.Maps
set_option linter.unusedVariables false
set_option linter.unusedSimpArgs false
theorem EIu : Elem Try.prog 49 3 1 8 := Elem.of Try.underlying49 (by kernel_rfl : (Try.prog.info? 3).map (fun i => (i.zero, i.size, i.bytes)) = some (some (.int .i64 0), 1, 8)) rfl (by omega)
theorem make70 (K : Nat) (hK : K ≤ 1000) (W : World) : (Instr.makeSlice 70 (.int .i64 (K : Int)) (.int .i64 (K : Int))).run Try.prog W = .ok (.slice (some ⟨W.heap.size, 0, none⟩) K K) (W.alloc (.cells (madeCells #[.slice none 0 0] K) 50)) :=
  run_make_row' 70 50 (.slice none 0 0) 24 Try.underlying70 (by kernel_rfl) rfl .i64 .i64 K (by omega) (by omega) W
theorem make50 (K : Nat) (hK : K ≤ 1000) (W : World) : (Instr.makeSlice 50 (.int .i64 (K : Int)) (.int .i64 (K : Int))).run Try.prog W = .ok (.slice (some ⟨W.heap.size, 0, none⟩) K K) (W.alloc (.cells (madeCells #[.slice none 0 0] K) 49)) :=
  run_make_row' 50 49 (.slice none 0 0) 24 Try.underlying50 (by kernel_rfl) rfl .i64 .i64 K (by omega) (by omega) W
/-- the builder's cells behind the maker's -/
def rrU (st tc K sc ac : Nat) (T SA AA : Option Addr) (j : Nat) : Value := match j with | 2 => .int .i64 (st : Nat) | 3 => .int .i64 2 | 4 => .slice T st tc | 5 => .slice SA K sc | _ => .slice AA K ac
/-- the builder, its signs and its places -/
structure UB (w W : World) (bb n K st tc : Nat) (T : Option Addr) (F : Nat → Int) (SA AA : Option Addr) (sc ac : Nat) (RA : Nat → Option Addr) (Rc : Nat → Nat) (Sg : Nat → Int) (At : Nat → Nat → Int) : Prop where
  bs : BS W bb w.heap.size n K F (rrU st tc K sc ac T SA AA)
  sg : Own W w.heap.size 3 1 SA K sc K (fun c => .int .i64 (Sg c))
  at_ : Own W w.heap.size 49 1 AA K ac K (fun c => .slice (RA c) (st + 1) (Rc c))
  rw_ : ∀ c, c < K → Own W w.heap.size 3 1 (RA c) (st + 1) (Rc c) (st + 1) (fun q => .int .i64 (At c q))
  sv : ∀ c, c < K → -1 ≤ Sg c ∧ Sg c < n
  av : ∀ c, c < K → ∀ q, q ≤ st → -1 ≤ At c q ∧ At c q < n
  bel : Below w.heap.size w W
/-- what the signs and places say -/
def SemU (F : Nat → Int) (K st : Nat) (Sg : Nat → Int) (At : Nat → Nat → Int) (Hh Ss : Gs → Nat) (Fb : Gs → Nat → Prop) : Prop := ∀ g c, c < K → (vx F g (Sg c) = true ↔ Fb g c) ∧ ∀ q, q ≤ st → (vx F g (At c q) = true ↔ Hh g = c ∧ Ss g = q)
/-- what step leaves -/
def StR (w W : World) (bb n K st tc : Nat) (T : Option Addr) (F : Nat → Int) (tch tqh : Gs → Nat) (Fb' : Gs → Nat → Prop) (e : Ending) (w' : World) : Prop :=
  ∃ (n' : Nat) (F' : Nat → Int) (SA AA : Option Addr) (sc ac : Nat) (RA : Nat → Option Addr) (Rc : Nat → Nat) (Sg : Nat → Int) (At : Nat → Nat → Int), e = .returned (.tuple #[]) ∧ UB w w' bb n' K st tc T F' SA AA sc ac RA Rc Sg At ∧ n ≤ n' ∧ n' ≤ n + 600 ∧ (∀ q, q < 3 * n → F' q = F q) ∧ KeepG bb W w' ∧ SemU F' K st Sg At tch tqh Fb'
/-- what step does at time t -/
def StepU (w : World) (K st tc : Nat) (T : Option Addr) (R : Nat → SI) : Prop := ∀ (W : World) (bb n : Nat) (F : Nat → Int) (SA AA : Option Addr) (sc ac : Nat) (RA : Nat → Option Addr) (Rc : Nat → Nat) (Sg : Nat → Int) (At : Nat → Nat → Int) (t : Nat),
  UB w W bb n K st tc T F SA AA sc ac RA Rc Sg At → SemU F K st Sg At (hhU st R K t) (ssU st R K t) (fU st R K t) → n ≤ 5000 →
  Calls Try.prog 16 #[.pointer (some ⟨bb, 0, none⟩)] W (StR w W bb n K st tc T F (hhU st R K (t + 1)) (ssU st R K (t + 1)) (fU st R K (t + 1)))
end Go.Proofs.Ytklhbmlcpjlgiaa
