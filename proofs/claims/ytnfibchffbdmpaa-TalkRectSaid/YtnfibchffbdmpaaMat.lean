/- Squares of the call's own: rows of whole numbers, each in its own block, laid one behind the other, then read and written. Conditions: as each theorem states. -/
import Derived.Test.YtnfibchffbdmpaaApp
import Derived.Test.YtnfibchffbdmpaaRow
namespace Go.Proofs.Ytnfibchffbdmpaa
open Go.ChangeShapes Go.WideShapes Go.ChangeAt Go.RowKit
set_option linter.unusedVariables false
theorem EMt : Elem Try.prog 45 46 1 24 := Elem.of Try.underlying45 (by kernel_rfl : (Try.prog.info? 46).map (fun i => (i.zero, i.size, i.bytes)) = some (some (.slice none 0 0), 1, 24)) rfl (by omega)
theorem Own.objM {W : World} {base s : Nat} {e : TypeId} {A : Option Addr} {n c k : Nat} {C : Nat → Value} (h : Own W base e s A n c k C) : ∀ g, (Value.slice A n c).ownBlock = some g → ∃ cur, W.heap[g]? = some (.cells cur e (0, 0)) := fun g hg => by
  rcases h.1.2 with ⟨hv, _⟩ | ⟨g', cap, cur, hv, hb, ho, r⟩
  · rw [hv] at hg; cases hg
  · rw [hv] at hg
    obtain rfl : g' = g := by injection hg
    exact ⟨cur, ho⟩
/-- under way: i rows of m numbers -/
structure Mt (W : World) (B : Nat) (S : Option Addr) (i sc m : Nat) (r rc : Nat → Nat) (F : Nat → Nat → Int) : Prop where
  own : Own W B 46 1 S i sc i (fun q => .slice (some ⟨r q, 0, none⟩) m (rc q))
  row : ∀ q, q < i → Own W B 3 1 (some ⟨r q, 0, none⟩) m (rc q) m (fun t => .int .i64 (F q t))
  sep : ∀ q p, q < i → p < i → q ≠ p → r q ≠ r p
theorem Mt.nil (W : World) (B m : Nat) (r rc : Nat → Nat) (F : Nat → Nat → Int) : Mt W B none 0 0 m r rc F := ⟨Own.nil _ _ _ _ _, fun q hq => absurd hq (Nat.not_lt_zero _), fun q p hq => absurd hq (Nat.not_lt_zero _)⟩
theorem Mt.below {W W' : World} {B : Nat} {S : Option Addr} {i sc m : Nat} {r rc : Nat → Nat} {F : Nat → Nat → Int} (h : Mt W B S i sc m r rc F) (hb : Below W.heap.size W W') : Mt W' B S i sc m r rc F := ⟨h.own.below hb, fun q hq => (h.row q hq).below hb, h.sep⟩
theorem Mt.lt {W : World} {B : Nat} {S : Option Addr} {i sc m : Nat} {r rc : Nat → Nat} {F : Nat → Nat → Int} (h : Mt W B S i sc m r rc F) {q : Nat} (hq : q < i) : B ≤ r q ∧ r q < W.heap.size := (h.row q hq).lt (r q) rfl
theorem Mt.apart {W : World} {B : Nat} {S : Option Addr} {i sc m : Nat} {r rc : Nat → Nat} {F : Nat → Nat → Int} (h : Mt W B S i sc m r rc F) {q : Nat} (hq : q < i) : ∀ g, (Value.slice S i sc).ownBlock = some g → g ≠ r q := fun g hg e => by
  obtain ⟨c1, h1⟩ := h.own.objM g hg
  obtain ⟨c2, h2⟩ := (h.row q hq).objM (r q) rfl
  rw [e, h2] at h1
  injection h1 with h1
  injection h1 with _ h1
  exact absurd h1 (by decide)
theorem Mt.more {wo w2 w3 : World} {B i sc c2 m g c' : Nat} {S A2 : Option Addr} {r rc : Nat → Nat} {F : Nat → Nat → Int} {f : Nat → Int} (hT : Mt wo B S i sc m r rc F) (hB : B ≤ wo.heap.size) (hb : Below wo.heap.size wo w2)
    (hrow : Own w2 wo.heap.size 3 1 (some ⟨g, 0, none⟩) m c' m (fun t => .int .i64 (f t)))
    (hown2 : Own w3 B 46 1 A2 (i + 1) c2 (i + 1) (cat i (fun q => .slice (some ⟨r q, 0, none⟩) m (rc q)) (fun _ => .slice (some ⟨g, 0, none⟩) m c')))
    (hg2 : w2.grownBy w3 (Value.slice S i sc).ownBlock) :
    Mt w3 B A2 (i + 1) c2 m (fun q => if q = i then g else r q) (fun q => if q = i then c' else rc q) (fun q => if q = i then f else F q) := by
  have hgl := hrow.lt g rfl
  have hol : ∀ g', (Value.slice S i sc).ownBlock = some g' → g' < wo.heap.size := fun g' hg => (hT.own.lt g' hg).2
  have hT2 := hT.below hb
  refine ⟨hown2.congr fun q hq => ?_, fun q hq => ?_, fun q p hq hp hne => ?_⟩
  · by_cases e : q < i
    · rw [cat_lt e, if_neg (by omega), if_neg (by omega)]
    · obtain rfl : q = i := by omega
      rw [cat_ge (Nat.le_refl _), if_pos rfl, if_pos rfl]
  · by_cases e : q = i
    · subst e
      rw [if_pos rfl, if_pos rfl, if_pos rfl]
      exact (hrow.base_le hB).kept hg2 fun g' hg' h => by
        have := hol g' h.symm
        obtain rfl : g = g' := by injection hg'
        omega
    · rw [if_neg e, if_neg e, if_neg e]
      exact (hT2.row q (by omega)).kept hg2 fun g' hg' h => by
        obtain rfl : r q = g' := by injection hg'
        exact hT2.apart (q := q) (by omega) _ h.symm rfl
  · show (if q = i then _ else _) ≠ (if p = i then _ else _)
    by_cases e : q = i
    · rw [if_pos e, if_neg (by omega)]; have := (hT.lt (q := p) (by omega)).2; omega
    · rw [if_neg e]
      by_cases e2 : p = i
      · rw [if_pos e2]; have := (hT.lt (q := q) (by omega)).2; omega
      · rw [if_neg e2]; exact hT.sep q p (by omega) (by omega) hne
/-- laid: n rows of m numbers -/
structure Mx (W : World) (B oB oc n m : Nat) (r rc : Nat → Nat) (F : Nat → Nat → Int) : Prop where
  out : ∃ T : Nat → Value, W.rowIs oB 46 oc (fun q => if q < n then .slice (some ⟨r q, 0, none⟩) m (rc q) else T q)
  oc : n ≤ oc ∧ B ≤ oB
  row : ∀ q, q < n → B ≤ r q ∧ m ≤ rc q ∧ ∃ T : Nat → Value, W.rowIs (r q) 3 (rc q) (fun t => if t < m then .int .i64 (F q t) else T t)
  sep : ∀ q p, q < n → p < n → q ≠ p → r q ≠ r p
theorem Mt.laid {W : World} {B : Nat} {S : Option Addr} {n sc m : Nat} {r rc : Nat → Nat} {F : Nat → Nat → Int} (h : Mt W B S n sc m r rc F) (hn : 0 < n) (hm : 0 < m) : ∃ oB, S = some ⟨oB, 0, none⟩ ∧ Mx W B oB sc n m r rc F := by
  obtain ⟨g, T, e, hb, hr, hnc, hT⟩ := h.own.row hn
  refine ⟨g, e, ⟨T, hr.congr fun q hq => ?_⟩, ⟨hnc, hb⟩, fun q hq => ?_, h.sep⟩
  · by_cases k : q < n
    · rw [if_pos k]; exact hT q k
    · rw [if_neg k]
  · obtain ⟨g2, T2, e2, hb2, hr2, hnc2, hT2⟩ := (h.row q hq).row hm
    obtain rfl : r q = g2 := by simpa using e2
    refine ⟨hb2, hnc2, T2, hr2.congr fun t ht => ?_⟩
    by_cases k : t < m
    · rw [if_pos k]; exact hT2 t k
    · rw [if_neg k]
section
variable {W W' : World} {B oB oc n m : Nat} {r rc : Nat → Nat} {F : Nat → Nat → Int}
theorem Mx.outc (h : Mx W B oB oc n m r rc F) {q : Nat} (hq : q < n) : W.cell? ⟨oB, q, none⟩ = some (.slice (some ⟨r q, 0, none⟩) m (rc q)) ∧ W.frozen? ⟨oB, q, none⟩ = false := by
  obtain ⟨T, hT⟩ := h.out
  refine ⟨?_, hT.frozen q⟩
  rw [hT.cell (show q < oc by have := h.oc.1; omega), if_pos hq]
theorem Mx.cell (h : Mx W B oB oc n m r rc F) {q t : Nat} (hq : q < n) (ht : t < m) : W.cell? ⟨r q, t, none⟩ = some (.int .i64 (F q t)) ∧ W.frozen? ⟨r q, t, none⟩ = false := by
  obtain ⟨_, hm, T, hT⟩ := h.row q hq
  refine ⟨?_, hT.frozen t⟩
  rw [hT.cell (show t < rc q by omega), if_pos ht]
theorem Mx.rd (h : Mx W B oB oc n m r rc F) {q : Nat} (hq : q < n) : Rd W (some ⟨r q, 0, none⟩) m (fun t => .int .i64 (F q t)) := fun _ => by
  obtain ⟨_, hm, T, hT⟩ := h.row q hq
  refine ⟨r q, 0, rfl, hT.lt, fun t ht => ?_⟩
  rw [Nat.zero_add]
  exact (h.cell hq ht).1
theorem Mx.rdo (h : Mx W B oB oc n m r rc F) : Rd W (some ⟨oB, 0, none⟩) n (fun q => .slice (some ⟨r q, 0, none⟩) m (rc q)) := fun _ => by
  obtain ⟨T, hT⟩ := h.out
  refine ⟨oB, 0, rfl, hT.lt, fun q hq => ?_⟩
  rw [Nat.zero_add]
  exact (h.outc hq).1
theorem Mx.lt (h : Mx W B oB oc n m r rc F) : oB < W.heap.size ∧ ∀ q, q < n → r q < W.heap.size := by
  obtain ⟨T, hT⟩ := h.out
  refine ⟨hT.lt, fun q hq => ?_⟩
  obtain ⟨_, _, T2, hT2⟩ := h.row q hq
  exact hT2.lt
theorem Mx.below (h : Mx W B oB oc n m r rc F) (hb : Below W.heap.size W W') : Mx W' B oB oc n m r rc F := by
  obtain ⟨T, hT⟩ := h.out
  refine ⟨⟨T, hT.of_block (hb.block _ hT.lt)⟩, h.oc, fun q hq => ?_, h.sep⟩
  obtain ⟨h1, h2, T2, hT2⟩ := h.row q hq
  exact ⟨h1, h2, T2, hT2.of_block (hb.block _ hT2.lt)⟩
theorem Mx.congr {G : Nat → Nat → Int} (h : Mx W B oB oc n m r rc F) (e : ∀ q, q < n → ∀ t, t < m → F q t = G q t) : Mx W B oB oc n m r rc G := by
  refine ⟨h.out, h.oc, fun q hq => ?_, h.sep⟩
  obtain ⟨h1, h2, T2, hT2⟩ := h.row q hq
  exact ⟨h1, h2, T2, hT2.congr fun t ht => by
    by_cases k : t < m
    · rw [if_pos k, if_pos k, e q hq t k]
    · rw [if_neg k, if_neg k]⟩
theorem Mx.ne (h : Mx W B oB oc n m r rc F) {q : Nat} (hq : q < n) : oB ≠ r q := fun e => by
  obtain ⟨T, c1, h1, _⟩ := h.out
  obtain ⟨_, _, T2, c2, h2, _⟩ := h.row q hq
  rw [e, h2] at h1
  injection h1 with h1
  injection h1 with _ h1
  exact absurd h1 (by decide)
theorem Mx.set (h : Mx W B oB oc n m r rc F) {p s : Nat} (hp : p < n) (hs : s < m) (v : Int) : Mx (W.setCell ⟨r p, s, none⟩ (.int .i64 v)) B oB oc n m r rc (fun q t => if q = p ∧ t = s then v else F q t) := by
  obtain ⟨T, hT⟩ := h.out
  refine ⟨⟨T, hT.setOther (by show oB ≠ r p; exact h.ne hp) _⟩, h.oc, fun q hq => ?_, h.sep⟩
  obtain ⟨h1, h2, T2, hT2⟩ := h.row q hq
  refine ⟨h1, h2, T2, ?_⟩
  by_cases e : q = p
  · subst e
    exact (hT2.set s _).congr fun t ht => by
      by_cases k : t = s
      · rw [if_pos k, if_pos (by omega), if_pos ⟨rfl, k⟩]
      · rw [if_neg k, if_neg (show ¬ (q = q ∧ t = s) from fun a => k a.2)]
  · exact (hT2.setOther (by show r q ≠ r p; exact h.sep q p hq hp e) _).congr fun t ht => by
      rw [if_neg (show ¬ (q = p ∧ t = s) from fun a => e a.1)]
/-- rows change places -/
def swM (c q i : Nat) : Nat := if i = c then q else if i = q then c else i
theorem Mx.swap (h : Mx W B oB oc n m r rc F) {p q : Nat} (hp : p < n) (hq : q < n) :
    Mx ((W.setCell ⟨oB, p, none⟩ (.slice (some ⟨r q, 0, none⟩) m (rc q))).setCell ⟨oB, q, none⟩ (.slice (some ⟨r p, 0, none⟩) m (rc p))) B oB oc n m (fun i => r (swM p q i)) (fun i => rc (swM p q i)) (fun i => F (swM p q i)) := by
  obtain ⟨T, hT⟩ := h.out
  have hlt : ∀ i, i < n → swM p q i < n := fun i hi => by unfold swM; split <;> (try split) <;> omega
  refine ⟨⟨T, ((hT.set p _).set q _).congr fun i hi => ?_⟩, h.oc, fun i hi => ?_, fun i j hi hj hne => h.sep _ _ (hlt i hi) (hlt j hj) fun e => hne (by unfold swM at e; (repeat' split at e) <;> omega)⟩
  · by_cases e1 : i = q
    · subst e1
      rw [if_pos rfl, if_pos hq]
      have : swM p i i = p := by unfold swM; split <;> (try split) <;> omega
      rw [this]
    · rw [if_neg e1]
      by_cases e2 : i = p
      · subst e2
        rw [if_pos rfl, if_pos hp]
        have : swM i q i = q := if_pos rfl
        rw [this]
      · rw [if_neg e2]
        have : swM p q i = i := by unfold swM; rw [if_neg e2, if_neg e1]
        rw [this]
  · obtain ⟨h1, h2, T2, hT2⟩ := h.row _ (hlt i hi)
    exact ⟨h1, h2, T2, (hT2.setOther (by show _ ≠ oB; exact Ne.symm (h.ne (hlt i hi))) _).setOther (by show _ ≠ oB; exact Ne.symm (h.ne (hlt i hi))) _⟩
/-- the stores the other way round -/
theorem Mx.swap' (h : Mx W B oB oc n m r rc F) {p q : Nat} (hp : p < n) (hq : q < n) (hne : p ≠ q) :
    Mx ((W.setCell ⟨oB, q, none⟩ (.slice (some ⟨r p, 0, none⟩) m (rc p))).setCell ⟨oB, p, none⟩ (.slice (some ⟨r q, 0, none⟩) m (rc q))) B oB oc n m (fun i => r (swM p q i)) (fun i => rc (swM p q i)) (fun i => F (swM p q i)) := by
  have e : swM p q = swM q p := funext fun i => by unfold swM; (repeat' split) <;> omega
  rw [e]
  exact h.swap hq hp
end
end Go.Proofs.Ytnfibchffbdmpaa
