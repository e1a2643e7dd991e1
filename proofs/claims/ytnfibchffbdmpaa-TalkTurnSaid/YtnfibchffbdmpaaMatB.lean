/- Tables of the call's own: rows of bools, each in its own block, laid one behind the other. Conditions: as each theorem states. -/
import Derived.Test.YtnfibchffbdmpaaMat
import Derived.Test.YtnfibchffbdmpaaTalkFns
namespace Go.Proofs.Ytnfibchffbdmpaa
open Go.ChangeShapes Go.WideShapes Go.ChangeAt Go.RowKit
set_option linter.unusedVariables false
theorem EMb : Elem Try.prog 22 28 1 24 := Elem.of Try.underlying22 (by kernel_rfl : (Try.prog.info? 28).map (fun i => (i.zero, i.size, i.bytes)) = some (some (.slice none 0 0), 1, 24)) rfl (by omega)
theorem ENb : Elem Try.prog 28 4 1 1 := Elem.of Try.underlying28 (by kernel_rfl : (Try.prog.info? 4).map (fun i => (i.zero, i.size, i.bytes)) = some (some (.bool false), 1, 1)) rfl (by omega)
/-- under way: i rows of m bools -/
structure MtB (W : World) (B : Nat) (S : Option Addr) (i sc m : Nat) (r rc : Nat → Nat) (F : Nat → Nat → Bool) : Prop where
  own : Own W B 28 1 S i sc i (fun q => .slice (some ⟨r q, 0, none⟩) m (rc q))
  row : ∀ q, q < i → Own W B 4 1 (some ⟨r q, 0, none⟩) m (rc q) m (fun t => .bool (F q t))
theorem MtB.nil (W : World) (B m : Nat) (r rc : Nat → Nat) (F : Nat → Nat → Bool) : MtB W B none 0 0 m r rc F := ⟨Own.nil _ _ _ _ _, fun q hq => absurd hq (Nat.not_lt_zero _)⟩
theorem MtB.below {W W' : World} {B : Nat} {S : Option Addr} {i sc m : Nat} {r rc : Nat → Nat} {F : Nat → Nat → Bool} (h : MtB W B S i sc m r rc F) (hb : Below W.heap.size W W') : MtB W' B S i sc m r rc F := ⟨h.own.below hb, fun q hq => (h.row q hq).below hb⟩
theorem MtB.apart {W : World} {B : Nat} {S : Option Addr} {i sc m : Nat} {r rc : Nat → Nat} {F : Nat → Nat → Bool} (h : MtB W B S i sc m r rc F) {q : Nat} (hq : q < i) : ∀ g, (Value.slice S i sc).ownBlock = some g → g ≠ r q := fun g hg e => by
  obtain ⟨c1, h1⟩ := h.own.objM g hg
  obtain ⟨c2, h2⟩ := (h.row q hq).objM (r q) rfl
  rw [e, h2] at h1
  injection h1 with h1
  injection h1 with _ h1
  exact absurd h1 (by decide)
theorem MtB.more {wo w2 w3 : World} {B i sc c2 m g c' : Nat} {S A2 : Option Addr} {r rc : Nat → Nat} {F : Nat → Nat → Bool} {f : Nat → Bool} (hT : MtB wo B S i sc m r rc F) (hB : B ≤ wo.heap.size) (hb : Below wo.heap.size wo w2)
    (hrow : Own w2 wo.heap.size 4 1 (some ⟨g, 0, none⟩) m c' m (fun t => .bool (f t)))
    (hown2 : Own w3 B 28 1 A2 (i + 1) c2 (i + 1) (cat i (fun q => .slice (some ⟨r q, 0, none⟩) m (rc q)) (fun _ => .slice (some ⟨g, 0, none⟩) m c')))
    (hg2 : w2.grownBy w3 (Value.slice S i sc).ownBlock) :
    MtB w3 B A2 (i + 1) c2 m (fun q => if q = i then g else r q) (fun q => if q = i then c' else rc q) (fun q => if q = i then f else F q) := by
  have hgl := hrow.lt g rfl
  have hol : ∀ g', (Value.slice S i sc).ownBlock = some g' → g' < wo.heap.size := fun g' hg => (hT.own.lt g' hg).2
  have hT2 := hT.below hb
  refine ⟨hown2.congr fun q hq => ?_, fun q hq => ?_⟩
  · by_cases e : q < i
    · rw [cat_lt e, if_neg (by omega), if_neg (by omega)]
    · obtain rfl : q = i := by omega
      rw [cat_ge (Nat.le_refl _), if_pos rfl, if_pos rfl]
  · by_cases e : q = i
    · subst e
      rw [if_pos rfl, if_pos rfl, if_pos rfl]
      exact (hrow.base_le hB).kept hg2 fun g' hg' h => by
        have := hol g' h.symm
        obtain rfl : g = g' := by injection hg'
        omega
    · rw [if_neg e, if_neg e, if_neg e]
      exact (hT2.row q (by omega)).kept hg2 fun g' hg' h => by
        obtain rfl : r q = g' := by injection hg'
        exact hT2.apart (q := q) (by omega) _ h.symm rfl
/-- the rows as they lie -/
def rwB (r rc : Nat → Nat) (m : Nat) (F : Nat → Nat → Bool) (q : Nat) : SB := ⟨some ⟨r q, 0, none⟩, m, rc q, F q⟩
theorem MtB.grt {W : World} {B : Nat} {S : Option Addr} {n sc m : Nat} {r rc : Nat → Nat} {F : Nat → Nat → Bool} (h : MtB W B S n sc m r rc F) : GrT W S n (rwB r rc m F) := ⟨h.own.rd, fun q hq => ⟨(h.row q hq).rd, (h.row q hq).le⟩⟩
theorem bool_app {W : World} {B j sc : Nat} {S : Option Addr} {C D : Nat → Value} {f : Nat → Bool} (h : Own W B 4 1 S (j + 1) sc (j + 1) (cat j C D)) (hC : ∀ q, q < j → C q = .bool (f q)) (hD : D 0 = .bool (f j)) : Own W B 4 1 S (j + 1) sc (j + 1) (fun q => .bool (f q)) :=
  h.congr fun q hq => by
    by_cases e : q < j
    · rw [cat_lt e, hC q e]
    · obtain rfl : q = j := by omega
      rw [cat_ge (Nat.le_refl _), Nat.sub_self, hD]
end Go.Proofs.Ytnfibchffbdmpaa
