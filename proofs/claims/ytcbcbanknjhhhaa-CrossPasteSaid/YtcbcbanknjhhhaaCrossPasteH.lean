/- The walk of CrossPaste. Conditions: the arguments read as told. -/
import Derived.Test.YtcbcbanknjhhhaaCrossPasteBad
import Derived.Test.YtcbcbanknjhhhaaPasteLaw2
import Derived.Test.YtcbcbanknjhhhaaIntsQ
import Derived.IntWalk
import Derived.Deep.RegionHeld3
import Derived.Deep.DeepCutAuto
namespace Go.Proofs.Ytcbcbanknjhhhaa
open Go.ChangeShapes Go.WideShapes Go.ChangeAt Go.RowKit
set_option linter.unusedVariables false
/-- behind the pasted run -/
def PasteMid (n : Nat) (R : Nat → SI) (c0 : Cf) (W : World) (s23 s25 : Value) (wx : World) : Prop :=
  ∃ (q3 d : Nat) (lo hi : Int) (N : Nat) (A : Option Addr) (c : Nat), s23 = .pointer (some ⟨q3, 0, none⟩) ∧ s25 = .int .i64 0 ∧ Dn n (TR R) 60 d c0 ∧ Sp (itC (TR R) d c0).f (itC (TR R) d c0).h lo hi ∧ (N : Int) = hi - lo + 1 ∧
    wx.rowIs q3 31 4 (nwx (itC (TR R) d c0).s (itC (TR R) d c0).h lo (.slice A N c)) ∧ Rd wx A N (fun i => .int .i64 ((itC (TR R) d c0).f (lo + i))) ∧ Below W.heap.size W wx
theorem set4_all {W W0 : World} {z D B : Nat} {t e : TypeId} {a b c : Int} {v : Value} {A : Option Addr} {N cc : Nat} {C : Nat → Value} (r : W.rowIs z t 4 (nwx a b c v)) (ho : Own W B e 1 A N cc N C) (hz : z < B) (hb : Below D W0 W) (hD : D ≤ z) (s h lo : Int) (v' : Value) :
    ((((W.setCell ⟨z, 0, none⟩ (.int .i64 s)).setCell ⟨z, 1, none⟩ (.int .i64 h)).setCell ⟨z, 2, none⟩ (.int .i64 lo)).setCell ⟨z, 3, none⟩ v').rowIs z t 4 (nwx s h lo v') ∧
    Rd ((((W.setCell ⟨z, 0, none⟩ (.int .i64 s)).setCell ⟨z, 1, none⟩ (.int .i64 h)).setCell ⟨z, 2, none⟩ (.int .i64 lo)).setCell ⟨z, 3, none⟩ v') A N C ∧
    Below D W0 ((((W.setCell ⟨z, 0, none⟩ (.int .i64 s)).setCell ⟨z, 1, none⟩ (.int .i64 h)).setCell ⟨z, 2, none⟩ (.int .i64 lo)).setCell ⟨z, 3, none⟩ v') := by
  refine ⟨((((r.set 0 _).set 1 _).set 2 _).set 3 _).congr fun i hi => ?_, (ho.of_block fun g hg => ?_).rd, (((hb.setCell (by exact hD) _).setCell (by exact hD) _).setCell (by exact hD) _).setCell (by exact hD) _⟩
  · unfold nwx
    have : i = 0 ∨ i = 1 ∨ i = 2 ∨ i = 3 := by omega
    rcases this with rfl | rfl | rfl | rfl <;> simp
  · have := (ho.lt g hg).1
    rw [Deep.blk_setCell_other _ _ _ _ (by show g ≠ z; omega), Deep.blk_setCell_other _ _ _ _ (by show g ≠ z; omega), Deep.blk_setCell_other _ _ _ _ (by show g ≠ z; omega), Deep.blk_setCell_other _ _ _ _ (by show g ≠ z; omega)]
theorem own_empty2 (w : World) (base : Nat) (e : TypeId) (s : Nat) (C : Nat → Value) (hb : base ≤ w.heap.size) {K : Nat} (hK : w.heap.size = K) : Own (w.alloc (.cells #[] e)) base e s (some ⟨K, 0, none⟩) 0 0 0 C := by subst hK; exact Own.empty w base e s C hb
end Go.Proofs.Ytcbcbanknjhhhaa
