/- A map[int]int of the call's own, as a function: its keys are the places where the function is not 0. No condition. -/
import Derived.Test.YtcbcbanknjhhhaaLib
import Derived.Maps.Own
import Derived.Below
import Derived.Maps.OwnSet
import Derived.Maps.OwnOps
import Derived.Maps.Views
namespace Go.Proofs.Ytcbcbanknjhhhaa
open Go.ChangeShapes Go.WideShapes Go.ChangeAt Go.RowKit Go.Maps
set_option linter.unusedVariables false
def MapD (D : DataW Unit) (f : Int → Int) : Prop := (∀ x, D.atKey (.int .i64 x) (.lit (.int .i64 0)) = .lit (.int .i64 (f x))) ∧ ∀ x, Maps.has D (.int .i64 x) = true → f x ≠ 0
/-- the map at block b reads as f, with at most n entries -/
def MapI (w : World) (b n : Nat) (f : Int → Int) : Prop :=
  ∃ D : DataW Unit, w.ownsMap Try.prog 3 (plainElem Try.prog 3) b n D ∧ MapD D f
theorem MapD.has {D : DataW Unit} {f : Int → Int} (h : MapD D f) (x : Int) : Maps.has D (.int .i64 x) = true ↔ f x ≠ 0 := by
  refine ⟨h.2 x, fun hx => ?_⟩
  cases e : Maps.has D (.int .i64 x)
  · have h1 := h.1 x
    rw [atKey_of_not_has e] at h1
    injection h1 with h1
    injection h1 with _ h1
    exact absurd h1.symm hx
  · rfl
theorem MapI.made (w : World) : MapI (w.alloc (.map #[] 0)) w.heap.size 0 (fun _ => 0) := ⟨_, World.ownsMap_made _ _ _ _, fun _ => rfl, fun x h => by cases h⟩
theorem MapI.alloc {w : World} {b n : Nat} {f : Int → Int} (h : MapI w b n f) (o : Obj) : MapI (w.alloc o) b n f := by
  obtain ⟨D, h1, h2⟩ := h; exact ⟨D, h1.alloc o, h2⟩
theorem MapI.drew {w : World} {b n : Nat} {f : Int → Int} (h : MapI w b n f) : MapI w.drew b n f := by
  obtain ⟨D, h1, h2⟩ := h; exact ⟨D, h1.drew, h2⟩
theorem MapI.kept {w w' : World} {b n : Nat} {f : Int → Int} {row : Option Nat} (h : MapI w b n f) (hg : w.grownBy w' row) (hne : some b ≠ row) : MapI w' b n f := by
  obtain ⟨D, h1, h2⟩ := h; exact ⟨D, h1.kept hg hne, h2⟩
theorem MapI.below {w w' : World} {b n : Nat} {f : Int → Int} (h : MapI w b n f) (hb : Below w.heap.size w w') : MapI w' b n f :=
  h.kept (row := none) ⟨hb.os, hb.tape, hb.output, hb.size, fun i hi _ => hb.block i hi⟩ (by simp)
theorem MapI.mono {w : World} {b n m : Nat} {f : Int → Int} (h : MapI w b n f) (hm : n ≤ m) : MapI w b m f := by
  obtain ⟨D, h1, h2⟩ := h; exact ⟨D, h1.mono hm, h2⟩
theorem MapI.lt {w : World} {b n : Nat} {f : Int → Int} (h : MapI w b n f) : b < w.heap.size := by
  obtain ⟨D, h1, h2⟩ := h; exact h1.lt
theorem put_reads {D : DataW Unit} {f : Int → Int} (hm : IsMap D) (h : MapD D f) (y v : Int) (hv : v ≠ 0) (hk : WideAt.IsKeyLit (.int .i64 y)) :
    MapD (D.put (.int .i64 y) (.lit (.int .i64 v))) (fun x => if x = y then v else f x) := by
  constructor
  · intro x
    show _ = DataW.lit (.int .i64 (if x = y then v else f x))
    by_cases e : x = y
    · subst e; rw [if_pos rfl]; exact atKey_put_same hm hk _ _
    · rw [if_neg e, atKey_put_other (by intro h; cases h; exact e rfl)]; exact h.1 x
  · intro x hx
    show (if x = y then v else f x) ≠ 0
    by_cases e : x = y
    · subst e; rw [if_pos rfl]; exact hv
    · rw [has_put_other (by intro h; cases h; exact e rfl)] at hx
      rw [if_neg e]; exact h.2 x hx
theorem del_reads {D : DataW Unit} {f : Int → Int} (h : MapD D f) (y : Int) :
    MapD (D.del (.int .i64 y)) (fun x => if x = y then 0 else f x) := by
  constructor
  · intro x
    show _ = DataW.lit (.int .i64 (if x = y then 0 else f x))
    by_cases e : x = y
    · subst e; rw [if_pos rfl]; exact atKey_del_same _
    · rw [if_neg e, atKey_del_other (by intro h; cases h; exact e rfl)]; exact h.1 x
  · intro x hx
    show (if x = y then 0 else f x) ≠ 0
    by_cases e : x = y
    · subst e; rw [has_del_same] at hx; cases hx
    · rw [has_del_other (by intro h; cases h; exact e rfl)] at hx
      rw [if_neg e]; exact h.2 x hx
theorem key_int {x : Int} (hx : (Lit.int .i64 x).wf = true) : keyOf Try.prog 3 (.int .i64 x) = some (.int .i64 x) := by
  simp [keyOf, mapKey, Try.underlying3, hx]
theorem kI : Keyed Try.prog 3 := int_keyed Try.underlying3
theorem MapI.look {w : World} {b n : Nat} {f : Int → Int} (h : MapI w b n f) {x : Int} (wx : (Lit.int .i64 x).wf = true) :
    Sem.run Try.prog (Instr.lookup 42 (.map (some b)) (.int .i64 x) false) w = .ok (.int .i64 (f x)) w := by
  obtain ⟨D, hD, hr⟩ := h
  obtain ⟨c, h1, h2, h3⟩ := hD.lookup_int kI Try.underlying42 Try.underlying3 (by go_simp) (key_int wx)
  rw [hr.1 x] at h2
  cases h2
  exact h1
set_option maxRecDepth 100000 in
theorem tput_any (b n : Nat) (f : Int → Int) (x v : Int) (w : World) (h : MapI w b n f) (hn : n < maxLen) (wx : (Lit.int .i64 x).wf = true) (wv : (Lit.int .i64 v).wf = true) :
    Calls Try.prog 16 #[.map (some b), .int .i64 x, .int .i64 v] w fun e w' => e = .returned (.tuple #[]) ∧ MapI w' b (n + 1) (fun y => if y = x then v else f y) ∧ w.grownBy w' (some b) := by
  obtain ⟨D, hD, hr⟩ := h
  have HR := Lib.hid hr
  have WX := Lib.hid wx
  have WV := Lib.hid wv
  clear hr wx wv
  by_cases e : v = 0
  · subst e
    go_enter Try.func16, Try.ntmps16
    go_wp2_with (at_delete; refine wpList_delete_own _ rfl _ _ 42 3 rfl 3 kI Try.underlying42 _ b n D rfl hD _ _ rfl (key_int WX.out) ?_; intro w1 hown1 hturn1)
    (try simp only [Exit.inBlock, Exit.then])
    refine bodyPost_ret (results_none rfl _ _ _) rfl ?_
    exact ⟨rfl, ⟨_, hown1.mono (by omega), del_reads HR.out x⟩, hturn1.grown⟩
  · go_enter Try.func16, Try.ntmps16
    go_wp2_with (at_mapUpdate; refine wpList_mapUpdate_own _ rfl _ _ _ 42 rfl 3 3 kI Try.underlying42 _ b n D rfl hD hn _ _ (.int .i64 x) rfl rfl (key_int WX.out) (.lit (.int .i64 v)) [] (plainElem_int Try.underlying3 WV.out) ?_; intro w1 hown1 hgrow1)
    go_end0
    exact ⟨rfl, ⟨_, hown1, put_reads hD.isMap HR.out x v e (kI.key (key_int WX.out))⟩, hgrow1⟩
end Go.Proofs.Ytcbcbanknjhhhaa
