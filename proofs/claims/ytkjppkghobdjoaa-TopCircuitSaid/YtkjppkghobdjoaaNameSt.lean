/- The state of name.Build: clauses in a box, numbers of variables in a list. No condition. -/
import Derived.Test.YtkjppkghobdjoaaNamePut
import Derived.Test.YtkjppkghobdjoaaNameLaw
namespace Go.Proofs.Ytkjppkghobdjoaa
open Go.ChangeShapes Go.WideShapes Go.ChangeAt Go.RowKit nameMore
set_option linter.unusedVariables false
theorem EIn : Elem Try.prog 38 3 1 8 := Elem.of Try.underlying38 (by kernel_rfl : (Try.prog.info? 3).map (fun i => (i.zero, i.size, i.bytes)) = some (some (.int .i64 0), 1, 8)) rfl (by omega)
def blkS (s : SI) : Option Nat := s.A.map (fun a => a.block)
/-- a slice that is none, or a whole row of ints -/
def IR (W : World) (s : SI) : Prop := (∀ i, (Lit.int .i64 (s.f i)).wf = true) ∧ s.n = s.c ∧ s.n ≤ 2 ∧ ((s.A = none ∧ s.n = 0) ∨ ∃ b, s.A = some ⟨b, 0, none⟩ ∧ W.rowIs b 3 s.n (fun i => .int .i64 (s.f i)))
theorem IR.good {W : World} {s : SI} (h : IR W s) : s.good W := by
  obtain ⟨h1, h2, h3, h4⟩ := h
  refine ⟨?_, h1, Nat.le_of_eq h2, by rw [← h2]; unfold maxLen; omega⟩
  rcases h4 with ⟨_, h5⟩ | ⟨b, h5, h6⟩
  · rw [h5]; exact Rd.zero _ _ _
  · rw [h5]; exact Rd.of_row h6 (Nat.le_refl _)
theorem IR.keep {W W' : World} {s : SI} (h : IR W s) (hk : ∀ b, blkS s = some b → W'.heap[b]? = W.heap[b]?) : IR W' s := by
  obtain ⟨h1, h2, h3, h4⟩ := h
  refine ⟨h1, h2, h3, ?_⟩
  rcases h4 with h5 | ⟨b, h5, h6⟩
  · exact .inl h5
  · exact .inr ⟨b, h5, h6.of_block (hk b (by unfold blkS; rw [h5]; rfl))⟩
theorem IR.lt {W : World} {s : SI} {b : Nat} (h : IR W s) (e : blkS s = some b) : b < W.heap.size ∧ ∃ cs, W.heap[b]? = some (.cells cs 3 (0, 0)) := by
  obtain ⟨h1, h2, h3, h4⟩ := h
  rcases h4 with ⟨h5, _⟩ | ⟨b', h5, h6⟩
  · unfold blkS at e; rw [h5] at e; cases e
  · unfold blkS at e; rw [h5] at e; cases e
    obtain ⟨cs, h7, _⟩ := h6
    exact ⟨(Array.getElem?_eq_some_iff.1 h7).1, cs, h7⟩
theorem IR.nil (W : World) : IR W SI.nil := ⟨fun _ => (by decide : (Lit.int .i64 0).wf = true), rfl, Nat.zero_le _, .inl ⟨rfl, rfl⟩⟩
def si1 (b : Nat) (x : Nat) : SI := ⟨some ⟨b, 0, none⟩, 1, 1, fun _ => (x : Int)⟩
def si2 (b : Nat) (x y : Nat) : SI := ⟨some ⟨b, 0, none⟩, 2, 2, fun i => if i = 0 then (x : Int) else (y : Int)⟩
theorem wfN {x : Nat} (h : x ≤ 1000000) : (Lit.int .i64 (x : Int)).wf = true := by simp [Lit.wf, IntKind.min, IntKind.max, IntKind.signed, IntKind.bits]; omega
theorem IR.one (W : World) (x b : Nat) (hb : W.heap.size = b) (hx : x ≤ 1000000) : IR (W.alloc (.cells #[.int .i64 (x : Int)] 3)) (si1 b x) := by
  subst hb
  refine ⟨fun i => wfN hx, rfl, (show 1 ≤ 2 by omega), .inr ⟨_, rfl, World.rowIs_alloc W #[.int .i64 (x : Int)] 3 _ fun i hi => ?_⟩⟩
  have : i = 0 := by simp at hi; omega
  subst this; rfl
theorem IR.two (W : World) (x y b : Nat) (hb : W.heap.size = b) (hx : x ≤ 1000000) (hy : y ≤ 1000000) : IR (W.alloc (.cells #[.int .i64 (x : Int), .int .i64 (y : Int)] 3)) (si2 b x y) := by
  subst hb
  refine ⟨fun i => by show (Lit.int .i64 (if i = 0 then (x : Int) else (y : Int))).wf = true; split; exact wfN hx; exact wfN hy, rfl, Nat.le_refl 2, .inr ⟨_, rfl, World.rowIs_alloc W #[.int .i64 (x : Int), .int .i64 (y : Int)] 3 _ fun i hi => ?_⟩⟩
  have : i = 0 ∨ i = 1 := by simp at hi; omega
  rcases this with rfl | rfl <;> rfl
theorem IR.below {W W' : World} {s : SI} (h : IR W s) (hb : Below W.heap.size W W') : IR W' s := h.keep fun b e => hb.block b (h.lt e).1
structure NQ (w W : World) (B m c : Nat) (A : Option Addr) (Y N : Nat → SI) (Av : Option Addr) (k cv : Nat) (V : Nat → Nat) : Prop where
  bx : Bx W B w.heap.size m c A Y N
  ov : Own W w.heap.size 3 1 Av k cv k (fun j => .int .i64 (V j : Nat))
  ir : ∀ i, i < m → IR W (Y i) ∧ IR W (N i)
  sep : ∀ i, i < m → ∀ b, blkS (Y i) = some b ∨ blkS (N i) = some b → (Value.slice Av k cv).ownBlock ≠ some b
  bel : Below w.heap.size w W
section
variable {w W W' : World} {B m c k cv : Nat} {A Av : Option Addr} {Y N : Nat → SI} {V : Nat → Nat}
theorem NQ.below (h : NQ w W B m c A Y N Av k cv V) (hb : Below W.heap.size W W') : NQ w W' B m c A Y N Av k cv V :=
  ⟨h.bx.below hb, h.ov.below hb, fun i hi => ⟨(h.ir i hi).1.below hb, (h.ir i hi).2.below hb⟩, h.sep, h.bel.trans (hb.mono h.bel.size)⟩
theorem NQ.app {Av' : Option Addr} {cv' k' : Nat} {V' : Nat → Nat} (h : NQ w W B m c A Y N Av k cv V) (ho : Own W' w.heap.size 3 1 Av' k' cv' k' (fun j => .int .i64 (V' j : Nat))) (hg : W.grownBy W' (Value.slice Av k cv).ownBlock)
    (hat : (Value.slice Av' k' cv').ownBlock = (Value.slice Av k cv).ownBlock ∨ (Value.slice Av' k' cv').ownBlock = some W.heap.size) (hb : Below w.heap.size W W') : NQ w W' B m c A Y N Av' k' cv' V' := by
  have kp : ∀ i, i < m → ∀ b, blkS (Y i) = some b ∨ blkS (N i) = some b → W'.heap[b]? = W.heap[b]? := fun i hi b e => hg.block b (by
    rcases e with e | e
    · exact ((h.ir i hi).1.lt e).1
    · exact ((h.ir i hi).2.lt e).1) fun e' => h.sep i hi b e e'.symm
  refine ⟨h.bx.grown hg (e := 3) (by decide) (by decide) (fun g e => h.ov.objN g e), ho, fun i hi => ⟨(h.ir i hi).1.keep fun b e => kp i hi b (.inl e), (h.ir i hi).2.keep fun b e => kp i hi b (.inr e)⟩, fun i hi b e => ?_, h.bel.trans hb⟩
  rcases hat with e1 | e1
  · rw [e1]; exact h.sep i hi b e
  · rw [e1]
    intro e2
    injection e2 with e2
    rcases e with e | e
    · have := ((h.ir i hi).1.lt e).1; omega
    · have := ((h.ir i hi).2.lt e).1; omega
theorem NQ.put {A' : Option Addr} {c' : Nat} {y z : SI} (h : NQ w W B m c A Y N Av k cv V) (hy : IR W y) (hz : IR W z) (hs : ∀ b, blkS y = some b ∨ blkS z = some b → (Value.slice Av k cv).ownBlock ≠ some b)
    (hx : Bx W' B w.heap.size (m + 1) c' A' (snoc Y y m) (snoc N z m)) (hb : Below w.heap.size W W') (hk : KeepB B (.slice A m c) W W') : NQ w W' B (m + 1) c' A' (snoc Y y m) (snoc N z m) Av k cv V := by
  have key : ∀ (g : Nat) (cs : Array Value), W.heap[g]? = some (Obj.cells cs 3 (0, 0)) → W'.heap[g]? = W.heap[g]? := fun g cs e => hk.2 g (Array.getElem?_eq_some_iff.1 e).1
    (fun e' => by
      subst e'
      obtain ⟨cs', h1, _⟩ := h.bx.row
      rw [h1] at e; cases e)
    (fun e' => by
      obtain ⟨cur, hc⟩ := h.bx.own.objN g e'
      rw [hc] at e; cases e)
  have ki : ∀ {s : SI}, IR W s → IR W' s := fun {s} hi => hi.keep fun b e => by
    obtain ⟨_, cs, h1⟩ := hi.lt e
    exact key b cs h1
  refine ⟨hx, h.ov.of_block fun g hg => ?_, fun i hi => ?_, fun i hi b e => ?_, h.bel.trans hb⟩
  · obtain ⟨cur, hc⟩ := h.ov.objN g hg
    exact key g cur hc
  · by_cases e : i < m
    · rw [snoc_lt e, snoc_lt e]; exact ⟨ki (h.ir i e).1, ki (h.ir i e).2⟩
    · obtain rfl : i = m := by omega
      rw [snoc_eq, snoc_eq]; exact ⟨ki hy, ki hz⟩
  · by_cases e' : i < m
    · rw [snoc_lt e', snoc_lt e'] at e; exact h.sep i e' b e
    · obtain rfl : i = m := by omega
      rw [snoc_eq, snoc_eq] at e; exact hs b e
/-- what has just been made is no part of the list of variables -/
theorem NQ.new (h : NQ w W B m c A Y N Av k cv V) {b : Nat} (hb : W.heap.size ≤ b) : (Value.slice Av k cv).ownBlock ≠ some b := fun e => by
  have := (h.ov.lt b e).2; omega
theorem NQ.cls (h : NQ w W B m c A Y N Av k cv V) : Cls W A m Y N := ⟨h.bx.own.rd, fun i hi => ⟨(h.ir i hi).1.good, (h.ir i hi).2.good⟩⟩
end
theorem bl1 {b x W : Nat} (h : W ≤ b) : ∀ g, blkS (si1 b x) = some g → W ≤ g := fun g e => by
  have e' : some b = some g := e
  injection e' with e'; omega
theorem bl2 {b x y W : Nat} (h : W ≤ b) : ∀ g, blkS (si2 b x y) = some g → W ≤ g := fun g e => by
  have e' : some b = some g := e
  injection e' with e'; omega
theorem bl0 {W : Nat} : ∀ g, blkS SI.nil = some g → W ≤ g := fun g e => by cases e
theorem NQ.nput {w W W' : World} {B m c k cv : Nat} {A Av : Option Addr} {Y N : Nat → SI} {V : Nat → Nat} (h : NQ w W B m c A Y N Av k cv V) {y z : SI} (hb : Below W.heap.size W W') (hm : m ≤ 1000) (hy : IR W' y) (hz : IR W' z) (ly : ∀ g, blkS y = some g → W.heap.size ≤ g) (lz : ∀ g, blkS z = some g → W.heap.size ≤ g) :
    Calls Try.prog 12 #[y.val, z.val, .pointer (some ⟨B, 0, none⟩)] W' fun e w' => e = .returned (.tuple #[]) ∧ ∃ A' c', NQ w w' B (m + 1) c' A' (snoc Y y m) (snoc N z m) Av k cv V := by
  have h' := h.below hb
  refine (nput_any y z W' h'.bx (by omega)).mono ?_
  rintro e w' ⟨rfl, A', c', h1, h2, h3⟩
  exact ⟨rfl, A', c', h'.put hy hz (fun b e => by
    rcases e with e | e
    · exact h.new (ly b e)
    · exact h.new (lz b e)) h1 h2 h3⟩
theorem isC_snoc {m : Nat} {Y N : Nat → SI} {y z : SI} {h : Nat → Bool} : isC (m + 1) (snoc Y y m) (snoc N z m) h = true ↔ isC m Y N h = true ∧ (anyB (yesP h y.f) y.n || anyB (noP h z.f) z.n) = true := by
  rw [isC_iff, isC_iff]
  constructor
  · intro H
    refine ⟨fun i hi => ?_, ?_⟩
    · have := H i (by omega)
      unfold holdsC at this ⊢
      rw [snoc_lt hi, snoc_lt hi] at this; exact this
    · have := H m (by omega)
      unfold holdsC at this
      rw [snoc_eq, snoc_eq] at this; exact this
  · rintro ⟨H, H1⟩ i hi
    by_cases e : i < m
    · have := H i e
      unfold holdsC at this ⊢
      rw [snoc_lt e, snoc_lt e]; exact this
    · obtain rfl : i = m := by omega
      unfold holdsC
      rw [snoc_eq, snoc_eq]; exact H1
theorem any_two (p : Nat → Bool) : anyB p 2 = (p 0 || p 1) := by
  rw [Bool.eq_iff_iff, Bool.or_eq_true]
  unfold anyB
  rw [decide_eq_true_iff]
  constructor
  · rintro ⟨i, hi, h⟩
    have : i = 0 ∨ i = 1 := by omega
    rcases this with rfl | rfl
    · exact .inl h
    · exact .inr h
  · rintro (h | h)
    · exact ⟨0, by omega, h⟩
    · exact ⟨1, by omega, h⟩
theorem any_y1 (h : Nat → Bool) (b x : Nat) : anyB (yesP h (si1 b x).f) (si1 b x).n = h x := by simp [anyB, si1, yesP]
theorem any_y2 (h : Nat → Bool) (b x y : Nat) : anyB (yesP h (si2 b x y).f) (si2 b x y).n = (h x || h y) := by
  show anyB _ 2 = _
  rw [any_two]; rfl
theorem any_n1 (h : Nat → Bool) (b x : Nat) : anyB (noP h (si1 b x).f) (si1 b x).n = !(h x) := by simp [anyB, si1, noP]
theorem any_n2 (h : Nat → Bool) (b x y : Nat) : anyB (noP h (si2 b x y).f) (si2 b x y).n = (!(h x) || !(h y)) := by
  show anyB _ 2 = _
  rw [any_two]; rfl
theorem any_nil (p : Nat → Bool) : anyB p SI.nil.n = false := rfl
/-- each clause so far speaks of variables under M -/
def VIn (m M : Nat) (Y N : Nat → SI) : Prop := ∀ i, i < m → varsIn M (Y i) ∧ varsIn M (N i)
theorem varsIn.mono {M M' : Nat} {s : SI} (h : varsIn M s) (hM : M ≤ M') : varsIn M' s := fun i hi => by have := h i hi; omega
theorem VIn.mono {m M M' : Nat} {Y N : Nat → SI} (h : VIn m M Y N) (hM : M ≤ M') : VIn m M' Y N := fun i hi => ⟨(h i hi).1.mono hM, (h i hi).2.mono hM⟩
theorem VIn.snoc {m M : Nat} {Y N : Nat → SI} {y z : SI} (h : VIn m M Y N) (hy : varsIn M y) (hz : varsIn M z) : VIn (m + 1) M (nameMore.snoc Y y m) (nameMore.snoc N z m) := fun i hi => by
  by_cases e : i < m
  · rw [snoc_lt e, snoc_lt e]; exact h i e
  · obtain rfl : i = m := by omega
    rw [snoc_eq, snoc_eq]; exact ⟨hy, hz⟩
theorem vin1 {M b x : Nat} (h : x < M) : varsIn M (si1 b x) := fun i _ => by show 0 ≤ (x : Int) ∧ (x : Int) < M; omega
theorem vin2 {M b x y : Nat} (h : x < M) (h' : y < M) : varsIn M (si2 b x y) := fun i _ => by show 0 ≤ (if i = 0 then (x : Int) else (y : Int)) ∧ (if i = 0 then (x : Int) else (y : Int)) < M; split <;> omega
section
variable {p : Nat} {F : Nat → Int} {k m : Nat} {Y N : Nat → SI} {X a b : Nat} {g1 g2 g3 g4 g5 g6 : Nat}
theorem con2 (hC : ∀ h, isC m Y N h = true ↔ conV p F k h) (hk : F (3 * k) = 2) (hX : X = vr p F k) (ha : a = vr p F (F (3 * k + 1)).toNat) : ∀ h, isC (m + 2) (snoc (snoc Y (si2 g1 X a) m) SI.nil (m + 1)) (snoc (snoc N SI.nil m) (si2 g2 X a) (m + 1)) h = true ↔ conV p F (k + 1) h := fun h => by
  rw [isC_snoc, isC_snoc, hC, conV_succ, any_y2, any_n2, any_nil, any_nil, ← hX]
  unfold opV
  rw [if_pos hk, ← ha, hk]
  cases h X <;> cases h a <;> simp
theorem con3 (hC : ∀ h, isC m Y N h = true ↔ conV p F k h) (hk : F (3 * k) = 3) (hX : X = vr p F k) (ha : a = vr p F (F (3 * k + 1)).toNat) (hb : b = vr p F (F (3 * k + 2)).toNat) : ∀ h, isC (m + 3) (snoc (snoc (snoc Y (si1 g1 a) m) (si1 g2 b) (m + 1)) (si1 g3 X) (m + 2)) (snoc (snoc (snoc N (si1 g4 X) m) (si1 g5 X) (m + 1)) (si2 g6 a b) (m + 2)) h = true ↔ conV p F (k + 1) h := fun h => by
  rw [isC_snoc, isC_snoc, isC_snoc, hC, conV_succ, any_y1, any_y1, any_y1, any_n1, any_n1, any_n2, ← hX]
  unfold opV
  rw [if_neg (by omega), if_pos hk, ← ha, ← hb, hk]
  cases h X <;> cases h a <;> cases h b <;> simp
theorem con4 (hC : ∀ h, isC m Y N h = true ↔ conV p F k h) (hk : F (3 * k) = 4) (hX : X = vr p F k) (ha : a = vr p F (F (3 * k + 1)).toNat) (hb : b = vr p F (F (3 * k + 2)).toNat) : ∀ h, isC (m + 3) (snoc (snoc (snoc Y (si1 g1 X) m) (si1 g2 X) (m + 1)) (si2 g3 a b) (m + 2)) (snoc (snoc (snoc N (si1 g4 a) m) (si1 g5 b) (m + 1)) (si1 g6 X) (m + 2)) h = true ↔ conV p F (k + 1) h := fun h => by
  rw [isC_snoc, isC_snoc, isC_snoc, hC, conV_succ, any_y1, any_y1, any_y2, any_n1, any_n1, any_n1, ← hX]
  unfold opV
  rw [if_neg (by omega), if_neg (by omega), ← ha, ← hb, hk]
  cases h X <;> cases h a <;> cases h b <;> simp
theorem con1 (hC : ∀ h, isC m Y N h = true ↔ conV p F k h) (hk : F (3 * k) = 1) : ∀ h, isC m Y N h = true ↔ conV p F (k + 1) h := fun h => by
  rw [hC, conV_succ]
  exact ⟨fun a => ⟨a, fun b => absurd hk b⟩, fun a => a.1⟩
theorem con0 (hC : ∀ h, isC m Y N h = true ↔ conV p F k h) : ∀ h, isC (m + 1) (snoc Y (si1 g1 X) m) (snoc N SI.nil m) h = true ↔ conV p F k h ∧ h X = true := fun h => by
  rw [isC_snoc, hC, any_y1, any_nil, Bool.or_false]
end
theorem Own.vrs {W : World} {base k c p : Nat} {A : Option Addr} {D : Nat → Value} {F : Nat → Int} (h : Own W base 3 1 A (k + 1) c (k + 1) (cat k (fun j => .int .i64 ((vr p F j : Nat) : Int)) D)) (hD : D 0 = .int .i64 ((vr p F k : Nat) : Int)) : Own W base 3 1 A (k + 1) c (k + 1) (fun j => .int .i64 ((vr p F j : Nat) : Int)) := h.congr fun i hi => by
  by_cases e : i < k
  · rw [cat_lt e]
  · obtain rfl : i = k := by omega
    rw [cat_ge (by omega), Nat.sub_self]; exact hD
theorem Rd.oneN (W : World) (v : Value) (e : TypeId) (K : Nat) (hK : W.heap.size = K) : Rd (W.alloc (.cells #[v] e)) (some ⟨K, 0, none⟩) 1 (fun _ => v) := by
  subst hK; exact Rd.one W v e
theorem two_snoc {m : Nat} {Y N : Nat → SI} {y z : SI} (h : ∀ i, i < m → (Y i).n ≤ 2 ∧ (N i).n ≤ 2 ∧ (Y i).n + (N i).n ≤ 3) (hy : y.n ≤ 2) (hz : z.n ≤ 2) (hyz : y.n + z.n ≤ 3) : ∀ i, i < m + 1 → (snoc Y y m i).n ≤ 2 ∧ (snoc N z m i).n ≤ 2 ∧ (snoc Y y m i).n + (snoc N z m i).n ≤ 3 := fun i hi => by
  by_cases e : i < m
  · rw [snoc_lt e, snoc_lt e]; exact h i e
  · obtain rfl : i = m := by omega
    rw [snoc_eq, snoc_eq]; exact ⟨hy, hz, hyz⟩
theorem vin0 {M : Nat} : varsIn M SI.nil := fun i hi => absurd hi (Nat.not_lt_zero _)
end Go.Proofs.Ytkjppkghobdjoaa
