/- Words for cell.orphan's queue; slices.Clone over bools. No condition. -/
import Derived.Test.YtnagdnbdpknniaaCellSet
import Derived.Test.YtnagdnbdpknniaaApp
import Derived.Test.YtnagdnbdpknniaaGrow
import Derived.Deep.RegionHeld3
import Derived.Deep.RegionLaw
import Derived.ArgAppend
import Derived.Deep.LoopGhost
namespace Go.Proofs.Ytnagdnbdpknniaa
open CellM Go.ChangeShapes Go.WideShapes Go.ChangeAt Go.RowKit
set_option linter.unusedVariables false
theorem EQ2 : Elem Try.prog 46 45 2 32 := Elem.of Try.underlying46 (by kernel_rfl : (Try.prog.info? 45).map (fun i => (i.zero, i.size, i.bytes)) = some (some (.agg #[.int .i64 0, .slice none 0 0]), 2, 32)) rfl (by omega)
set_option maxRecDepth 100000 in
theorem cloneB_any (A : Option Addr) (m c : Nat) (f : Nat → Bool) (w : World) (h : Rd w A m (fun i => .bool (f i))) (hm : m ≤ 1000000000) :
    Calls Try.prog 19 #[.slice A m c] w fun e w' => ∃ A' c', e = .returned (.slice A' m c') ∧ Own w' w.heap.size 4 1 A' m c' m (fun i => .bool (f i)) ∧ Below w.heap.size w w' := by
  have hnil := fun (W : World) (a : Option Addr) (n c : Nat) => Lib.run_eql_slice_nil (P := Try.prog) W 22 4 a n c 0 0 Try.underlying22
  cases A with
  | none =>
    obtain rfl : m = 0 := by
      rcases Nat.eq_zero_or_pos m with h0 | h0
      · exact h0
      · obtain ⟨b, off, e, _⟩ := h h0; cases e
    go_enter Try.func19, Try.ntmps19
    go_wp2_with fail
    go_ret
    exact ⟨_, _, rfl, Own.nil _ _ _ _ _, Below.refl _ _⟩
  | some a =>
    go_enter Try.func19, Try.ntmps19
    go_wp2_with (at_builtin; refine wpList_app _ rfl (.tmp 5) (.tmp 6) 22 rfl EB rfl (Own.empty w w.heap.size 4 1 (fun _ => .bool false) (Nat.le_refl _)) rfl (l := m) (by omega) (h.alloc _) (fun _ _ => rfl) (by unfold maxLen; omega) (by omega) (by simp) m m (by omega) (by omega) ?_; intro A2 c2 w2 hown2 hg2 hat2 hbl2)
    go_ret
    exact ⟨_, _, rfl, hown2.congr (fun i hi => by rw [cat_ge (Nat.zero_le _), Nat.sub_zero]), ((Below.refl w.heap.size w).alloc (Nat.le_refl _) _).trans hbl2⟩
/-- a word that waits: its set, and what was said -/
structure WI where
  s : Nat
  A : Option Addr
  n : Nat
  c : Nat
  f : Nat → Bool
def WI.V (it : Nat → WI) (q : Nat) : Value := if q % 2 = 0 then .int .i64 (it (q / 2)).s else .slice (it (q / 2)).A (it (q / 2)).n (it (q / 2)).c
/-- the queue: a window of a row of the call's own -/
def Qu (w : World) (base : Nat) (A : Option Addr) (m c : Nat) (C : Nat → Value) : Prop := ∃ g o R, A = some ⟨g, o * 2, none⟩ ∧ base ≤ g ∧ w.rowIs g 45 ((o + c) * 2) R ∧ m ≤ c ∧ c ≤ maxLen ∧ ∀ q, q < m * 2 → R (o * 2 + q) = C q
/-- how many sets were seen -/
def cntS (seen : Nat → Bool) : Nat → Nat
  | 0 => 0
  | k + 1 => cntS seen k + if seen k then 1 else 0
theorem cntS_le (seen : Nat → Bool) : ∀ k, cntS seen k ≤ k
  | 0 => Nat.le_refl _
  | k + 1 => by have := cntS_le seen k; show _ + (if _ then 1 else 0) ≤ _; split <;> omega
def sawS (seen : Nat → Bool) (s : Nat) : Nat → Bool := fun i => if i = s then true else seen i
theorem cntS_saw {seen : Nat → Bool} {s : Nat} (hs : seen s = false) : ∀ k, cntS (sawS seen s) k = cntS seen k + if s < k then 1 else 0
  | 0 => rfl
  | k + 1 => by
    show cntS (sawS seen s) k + (if (if k = s then true else seen k) = true then 1 else 0) = cntS seen k + (if seen k then 1 else 0) + _
    rw [cntS_saw hs k]
    by_cases e : k = s
    · subst e; rw [if_pos rfl, if_pos rfl, hs]; simp
    · rw [if_neg e]
      by_cases h1 : s < k
      · rw [if_pos h1, if_pos (show s < k + 1 by omega)]; omega
      · rw [if_neg h1, if_neg (show ¬ s < k + 1 by omega)]; omega
structure Itm (r : Int) (w : World) (base cn : Nat) (x : WI) : Prop where
  own : Own w base 4 1 x.A x.n x.c x.n (fun i => .bool (x.f i))
  set : SF r x.f x.n = x.s
  pos : x.s ≠ 0
  lt : x.s < 16
  len : x.n < cn
structure Orp (r : Int) (w : World) (base gs : Nat) (A : Option Addr) (m c : Nat) (it : Nat → WI) (seen : Nat → Bool) : Prop where
  qu : 0 < m → Qu w base A m c (WI.V it)
  row : w.rowIs gs 43 16 (fun i => .bool (seen i))
  gsb : base ≤ gs
  good : ∀ i, i < m → Itm r w base (cntS seen 16) (it i)
  s15 : seen 15 = true
  cl : ∀ s, s < 16 → seen s = true → (∃ i, i < m ∧ (it i).s = s) ∨ ∀ b, nS r s b ≠ 0 ∧ seen (nS r s b) = true
theorem row16 (w : World) (t : TypeId) (cs : Array Value) (F : Nat → Value) (hs : cs.size = 16) (h : ∀ i, i < 16 → cs[i]? = some (F i)) : (w.alloc (.cells cs t)).rowIs w.heap.size t 16 F := by
  rw [← hs]
  exact World.rowIs_alloc w cs t F fun i hi => by rw [h i (by omega)]
def OrpRet (r : Int) (w : World) (e : Ending) (w' : World) : Prop :=
  Below w.heap.size w w' ∧ ((∃ (A : Option Addr) (n c : Nat) (f : Nat → Bool), e = .returned (.tuple #[.slice A n c, .bool true]) ∧ Own w' w.heap.size 4 1 A n c n (fun i => .bool (f i)) ∧ SF r f n = 0 ∧ 1 ≤ n ∧ n ≤ 16) ∨
    (e = .returned (.tuple #[.slice none 0 0, .bool false]) ∧ ∃ seen : Nat → Bool, seen 15 = true ∧ ∀ s, s < 16 → seen s = true → ∀ b, nS r s b ≠ 0 ∧ seen (nS r s b) = true))
end Go.Proofs.Ytnagdnbdpknniaa
