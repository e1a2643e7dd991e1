/- What the references' Nows says of two that are the same; a machine moved along its tape. Conditions: as each theorem states. -/
import Derived.Test.YtcbcbanknjhhhaaTapeMach
import Derived.Test.YtcbcbanknjhhhaaInts
import Derived.Test.YtcbcbanknjhhhaaRow
namespace Go.Proofs.Ytcbcbanknjhhhaa
open Go.ChangeShapes Go.WideShapes Go.ChangeAt Go.RowKit
set_option linter.unusedVariables false
theorem Rd.setFar {W : World} {b p o : Nat} {n : Nat} {C : Nat → Value} (h : Rd W (some ⟨b, 0, none⟩) n C) (hne : b ≠ p) (v : Value) : Rd (W.setCell ⟨p, o, none⟩ v) (some ⟨b, 0, none⟩) n C := fun hn => by
  obtain ⟨b', off, e, hb, hc⟩ := h hn
  injection e with e
  injection e with e1 e2 _
  subst e1 e2
  refine ⟨b, 0, rfl, by simpa using hb, fun i hi => ?_⟩
  rw [← hc i hi]
  exact World.cell?_setCell_other _ _ _ _ (fun e => hne (by injection e with e1; exact e1.symm))
theorem nw_open {W : World} {b : Nat} {t : TypeId} {s h lo : Int} {v : Value} (r : W.rowIs b t 4 (nwx s h lo v)) :
    b < W.heap.size ∧ (W.cell? ⟨b, 0, none⟩ = some (.int .i64 s) ∧ W.cell? ⟨b, 1, none⟩ = some (.int .i64 h) ∧ W.cell? ⟨b, 2, none⟩ = some (.int .i64 lo) ∧ W.cell? ⟨b, 3, none⟩ = some v) ∧
      (W.frozen? ⟨b, 0, none⟩ = false ∧ W.frozen? ⟨b, 1, none⟩ = false ∧ W.frozen? ⟨b, 2, none⟩ = false ∧ W.frozen? ⟨b, 3, none⟩ = false) :=
  ⟨r.lt, ⟨r.cell (i := 0) (by omega), r.cell (i := 1) (by omega), r.cell (i := 2) (by omega), r.cell (i := 3) (by omega)⟩, ⟨r.frozen 0, r.frozen 1, r.frozen 2, r.frozen 3⟩⟩
theorem nw_new (W : World) (t : TypeId) (s h lo : Int) (v : Value) {K : Nat} (hK : W.heap.size = K) : (W.alloc (.cells #[.int .i64 s, .int .i64 h, .int .i64 lo, v] t)).rowIs K t 4 (nwx s h lo v) := by
  subst hK; exact row4 W t _ _ _ _ _ rfl rfl rfl rfl
theorem nw_set1 {W : World} {b : Nat} {t : TypeId} {s h lo : Int} {v : Value} (r : W.rowIs b t 4 (nwx s h lo v)) (x : Int) : (W.setCell ⟨b, 1, none⟩ (.int .i64 x)).rowIs b t 4 (nwx s x lo v) :=
  (r.set 1 _).congr fun i hi => by
    unfold nwx
    by_cases e : i = 1
    · subst e; rw [if_pos rfl, if_neg (by omega), if_pos rfl]
    · rw [if_neg e]
      by_cases e0 : i = 0
      · rw [if_pos e0, if_pos e0]
      · rw [if_neg e0, if_neg e0, if_neg e, if_neg e]
theorem nw_set2 {W : World} {b : Nat} {t : TypeId} {s h lo : Int} {v : Value} (r : W.rowIs b t 4 (nwx s h lo v)) (x : Int) : (W.setCell ⟨b, 2, none⟩ (.int .i64 x)).rowIs b t 4 (nwx s h x v) :=
  (r.set 2 _).congr fun i hi => by
    unfold nwx
    by_cases e : i = 2
    · subst e; rw [if_pos rfl, if_neg (by omega), if_neg (by omega), if_pos rfl]
    · rw [if_neg e]
      by_cases e0 : i = 0
      · rw [if_pos e0, if_pos e0]
      · rw [if_neg e0, if_neg e0]
        by_cases e1 : i = 1
        · rw [if_pos e1, if_pos e1]
        · rw [if_neg e1, if_neg e1, if_neg e, if_neg e]
/-- a machine's cells -/
def mcx (S Y : Int) (v : Value) (t : Nat) : Value := if t = 0 then .int .i64 S else if t = 1 then .int .i64 Y else v
theorem mc_open {W : World} {b : Nat} {t : TypeId} {S Y : Int} {v : Value} (r : W.rowIs b t 3 (mcx S Y v)) :
    b < W.heap.size ∧ W.cell? ⟨b, 0, none⟩ = some (.int .i64 S) ∧ W.cell? ⟨b, 1, none⟩ = some (.int .i64 Y) ∧ W.cell? ⟨b, 2, none⟩ = some v :=
  ⟨r.lt, r.cell (i := 0) (by omega), r.cell (i := 1) (by omega), r.cell (i := 2) (by omega)⟩
theorem mc_new (W : World) (t : TypeId) (S Y : Int) (v : Value) : (W.alloc (.cells #[.int .i64 S, .int .i64 Y, v] t)).rowIs W.heap.size t 3 (mcx S Y v) :=
  World.rowIs_alloc W #[.int .i64 S, .int .i64 Y, v] t _ fun i hi => by
    have : i < 3 := hi
    match i, this with
    | 0, _ => rfl
    | 1, _ => rfl
    | 2, _ => rfl
/-- a configuration so far on -/
def mvC (b : Int) (c : Cf) : Cf := ⟨fun x => c.f (x - b), c.s, c.h + b⟩
theorem mvC_stp (T : Nat → Nat → Int) (b : Int) (c : Cf) : stp T (mvC b c) = mvC b (stp T c) := by
  have e : (mvC b c).f (mvC b c).h = c.f c.h := by show c.f (c.h + b - b) = _; rw [Int.add_sub_cancel]
  have e0 : ruW T (mvC b c) = ruW T c := by show T c.s (3 * ((mvC b c).f (mvC b c).h).toNat) = _; rw [e]; rfl
  have e1 : ruM T (mvC b c) = ruM T c := by show T c.s (3 * ((mvC b c).f (mvC b c).h).toNat + 1) = _; rw [e]; rfl
  have e2 : ruN T (mvC b c) = ruN T c := by show T c.s (3 * ((mvC b c).f (mvC b c).h).toNat + 2) = _; rw [e]; rfl
  show (⟨fun y => if y = c.h + b then ruW T (mvC b c) else c.f (y - b), (ruN T (mvC b c)).toNat, c.h + b + ruM T (mvC b c)⟩ : Cf) = ⟨fun x => if x - b = c.h then ruW T c else c.f (x - b), (ruN T c).toNat, c.h + ruM T c + b⟩
  rw [e0, e1, e2]
  congr 1
  · funext y
    by_cases h : y = c.h + b
    · rw [if_pos h, if_pos (by omega)]
    · rw [if_neg h, if_neg (by omega)]
  · omega
theorem mvC_it (T : Nat → Nat → Int) (b : Int) (c : Cf) (d : Nat) : itC T d (mvC b c) = mvC b (itC T d c) := by
  induction d with
  | zero => rfl
  | succ d ih => show stp T (itC T d (mvC b c)) = mvC b (stp T (itC T d c)); rw [ih, mvC_stp]
theorem mvC_laid (g : Nat → Int) (k : Nat) (first b : Int) (s : Nat) (h : Int) : (⟨laid g k (first + b), s, h + b⟩ : Cf) = mvC b ⟨laid g k first, s, h⟩ := by
  show (⟨laid g k (first + b), s, h + b⟩ : Cf) = ⟨fun x => laid g k first (x - b), s, h + b⟩
  congr 1
  funext x
  unfold laid
  by_cases e : first + b ≤ x ∧ x < first + b + k
  · rw [if_pos e, if_pos (by omega)]; congr 1; omega
  · rw [if_neg e, if_neg (by omega)]
theorem mvC_dn {n : Nat} {T : Nat → Nat → Int} {m d : Nat} {b : Int} {c : Cf} : Dn n T m d (mvC b c) ↔ Dn n T m d c := by
  unfold Dn
  simp only [mvC_it]
  exact Iff.rfl
theorem mvC_sp {b : Int} {c : Cf} {lo hi : Int} : Sp (mvC b c).f (mvC b c).h (lo + b) (hi + b) ↔ Sp c.f c.h lo hi := by
  have e : ∀ x, (mvC b c).f (x + b) = c.f x := fun x => by show c.f (x + b - b) = _; rw [Int.add_sub_cancel]
  have eh : (mvC b c).h = c.h + b := rfl
  unfold Sp
  rw [e, e, eh]
  constructor
  · rintro ⟨a1, a2, a3, a4⟩
    refine ⟨by omega, fun x hx => ?_, a3.imp (fun h => by omega) id, a4.imp (fun h => by omega) id⟩
    have := a2 (x + b) (by rw [e]; exact hx)
    omega
  · rintro ⟨a1, a2, a3, a4⟩
    refine ⟨by omega, fun x hx => ?_, a3.imp (fun h => by omega) id, a4.imp (fun h => by omega) id⟩
    have := a2 (x - b) hx
    omega
end Go.Proofs.Ytcbcbanknjhhhaa
