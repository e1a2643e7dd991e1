/- Slices of ints as values with their contents; slices of such slices, and of records of such slices, opened. No condition. -/
import Derived.Test.YtklhbmlcpjlgiaaRecs
namespace Go.Proofs.Ytklhbmlcpjlgiaa
open Go.ChangeShapes Go.WideShapes Go.ChangeAt Go.RowKit
set_option linter.unusedVariables false
/-- a slice of ints: where it lies, its length, its capacity, its numbers -/
structure SI where
  A : Option Addr
  n : Nat
  c : Nat
  f : Nat → Int
def SI.val (s : SI) : Value := .slice s.A s.n s.c
def SI.good (W : World) (s : SI) : Prop := Rd W s.A s.n (fun i => .int .i64 (s.f i)) ∧ (∀ i, (Lit.int .i64 (s.f i)).wf = true) ∧ s.n ≤ s.c ∧ s.c ≤ maxLen
theorem SI.good.below {W w : World} {s : SI} (h : s.good W) (hb : Below W.heap.size W w) : s.good w := ⟨h.1.below hb, h.2⟩
def SI.nil : SI := ⟨none, 0, 0, fun _ => 0⟩
theorem SI.nil_good (W : World) : SI.nil.good W := ⟨Rd.zero _ _ _, fun _ => (by decide : (Lit.int .i64 0).wf = true), Nat.le_refl _, Nat.zero_le _⟩
/-- the same for bools -/
structure SB where
  A : Option Addr
  n : Nat
  c : Nat
  f : Nat → Bool
def SB.val (s : SB) : Value := .slice s.A s.n s.c
def SB.good (W : World) (s : SB) : Prop := Rd W s.A s.n (fun i => .bool (s.f i)) ∧ s.n ≤ s.c ∧ s.c ≤ maxLen
theorem SB.good.below {W w : World} {s : SB} (h : s.good W) (hb : Below W.heap.size W w) : s.good w := ⟨h.1.below hb, h.2⟩
def SB.nil : SB := ⟨none, 0, 0, fun _ => false⟩
theorem SB.nil_good (W : World) : SB.nil.good W := ⟨Rd.zero _ _ _, Nat.le_refl _, Nat.zero_le _⟩
section
variable {H : Type} {enc : TypeId × Value → H} {P : Program} {W : World} {base : Nat} {held : Bool}
theorem one_slice {T E : TypeId} {m : Nat} {cs : List Value} {x : DataW H × List MemPlace} (hT : P.underlying T = some (.slice E)) (hC : P.cellsOf E = 1) (h : DataW.trod enc P W base (fun _ => true) held m T cs = some x) :
    ∃ a n c, cs = [.slice a n c] := by
  rcases Deep.open_slice1 hT hC h with ⟨hcs, _⟩ | ⟨a', len, cap, m, k, V, D, Pl, hcs, _⟩
  · exact ⟨none, 0, 0, hcs⟩
  · exact ⟨some a', len, cap, hcs⟩
theorem ints_of {T E : TypeId} {m : Nat} {cs : List Value} {x : DataW H × List MemPlace} (hT : P.underlying T = some (.slice E)) (hE : P.underlying E = some (.int .i64)) (hC : P.cellsOf E = 1) (h : DataW.trod enc P W base (fun _ => true) held m T cs = some x) :
    ∃ s : SI, cs = [s.val] ∧ s.good W := by
  obtain ⟨a, n, c, rfl⟩ := one_slice hT hC h
  obtain ⟨A, n', c', f, e, hr, hw, _, hl, hm⟩ := open_ints_fn (v := .slice a n c) (d := x.1) (p := x.2) hT hE hC (by decide) ⟨a, n, c, rfl⟩ ⟨m, h⟩
  injection e with e1 e2 e3
  subst e1 e2 e3
  exact ⟨⟨a, n, c, f⟩, rfl, hr, hw, hl, hm⟩
theorem bools_of {T E : TypeId} {m : Nat} {cs : List Value} {x : DataW H × List MemPlace} (hT : P.underlying T = some (.slice E)) (hE : P.underlying E = some .bool) (hC : P.cellsOf E = 1) (h : DataW.trod enc P W base (fun _ => true) held m T cs = some x) :
    ∃ s : SB, cs = [s.val] ∧ s.good W := by
  obtain ⟨a, n, c, rfl⟩ := one_slice hT hC h
  obtain ⟨A, n', c', f, e, hr, _, hl, hm⟩ := open_bools_fn (v := .slice a n c) (d := x.1) (p := x.2) hT hE hC ⟨a, n, c, rfl⟩ ⟨m, h⟩
  injection e with e1 e2 e3
  subst e1 e2 e3
  exact ⟨⟨a, n, c, f⟩, rfl, hr, hl, hm⟩
/-- a slice whose elements have s cells each, opened: what is known of each element's cells -/
theorem open_blocks {T E : TypeId} {s : Nat} {v : Value} {d : DataW H} {p : List MemPlace} (hT : P.underlying T = some (.slice E)) (hC : P.cellsOf E = s) (hs0 : 0 < s)
    (hok : ∃ a n c, v = .slice a n c) (h : DataW.Trod enc P W base (fun _ => true) held T v d p) :
    ∃ (A : Option Addr) (n c : Nat) (V : Nat → Value), v = .slice A n c ∧ Rd W A (n * s) V ∧ Sl d n c ∧ n ≤ c ∧ c ≤ maxLen ∧
      ∀ i, i < n → ∃ y m, DataW.trod enc P W base (fun _ => true) held m E ((List.range s).map fun j => V (i * s + j)) = some y := by
  obtain ⟨a, n, c, rfl⟩ := hok
  obtain ⟨fuel, hf⟩ := h
  rcases Deep.open_slice hT hf with ⟨hcs, hx⟩ | ⟨a', len, cap, m, k, D, Pl, hcs, hb, hl, hm, hmm, hx, hi⟩
  · simp [Value.cells] at hcs
    obtain ⟨rfl, rfl, rfl⟩ := hcs
    simp only [Prod.mk.injEq] at hx
    exact ⟨none, 0, 0, fun _ => .int .i64 0, rfl, by rw [Nat.zero_mul]; exact Rd.zero _ _ _, .inl ⟨hx.1, rfl, rfl⟩, Nat.le_refl _, Nat.zero_le _, fun i hi => absurd hi (Nat.not_lt_zero _)⟩
  · simp [Value.cells] at hcs
    obtain ⟨rfl, rfl, rfl⟩ := hcs
    simp at hmm
    subst hmm
    simp only [Prod.mk.injEq] at hx
    have cells : ∀ q, q < n * s → ∃ x : Value, W.cell? (a'.add (q / s * s) |>.add (q % s)) = some x := fun q hq => by
      have hqn : q / s < n := (Nat.div_lt_iff_lt_mul hs0).2 hq
      have hqs : q % s < s := Nat.mod_lt _ hs0
      obtain ⟨cs', hc, ht⟩ := hi (q / s) (by omega)
      rw [hC] at hc
      obtain ⟨_, hcl, hat⟩ := World.cells?_some hc
      refine ⟨cs'[q % s]'(by omega), ?_⟩
      rw [hat _ hqs, List.getElem?_eq_getElem (by omega)]
    obtain ⟨V, hV⟩ := fn_of (n := n * s) (Q := fun q x => (q < n * s → W.cell? (a'.add (q / s * s) |>.add (q % s)) = some x)) (.int .i64 0) (fun i hi => fun h => absurd h (by omega)) (fun q hq => by
      obtain ⟨x, e⟩ := cells q hq
      exact ⟨x, fun _ => e⟩)
    refine ⟨some a', n, m, V, rfl, fun hn => ?_, .inr ⟨_, _, hx.1, by simp, by simp; omega⟩, hl, hm, fun i hin => ?_⟩
    · have h0 := hV 0 hn
      have e0 : (a'.add (0 / s * s)).add (0 % s) = a'.add 0 := by simp [Addr.add]
      rw [e0] at h0
      obtain ⟨b, off, rfl, hlt⟩ := spot_none h0
      refine ⟨b, off, rfl, hlt, fun q hq => ?_⟩
      have := hV q hq
      rw [add_plain2, Nat.div_add_mod'] at this
      exact this
    · obtain ⟨cs', hc, ht⟩ := hi i (by omega)
      rw [hC] at hc
      obtain ⟨_, hcl, hat⟩ := World.cells?_some hc
      refine ⟨(D i, Pl i), k, ?_⟩
      have e : cs' = (List.range s).map fun j => V (i * s + j) := by
        apply List.ext_getElem?
        intro j
        by_cases hj : j < s
        · have hq : i * s + j < n * s := by
            have : (i + 1) * s ≤ n * s := Nat.mul_le_mul_right _ hin
            rw [Nat.add_mul, Nat.one_mul] at this
            omega
          have h1 := hV (i * s + j) hq
          have e1 : (i * s + j) / s = i := by rw [Nat.add_comm, Nat.add_mul_div_right _ _ hs0, Nat.div_eq_of_lt hj, Nat.zero_add]
          have e2 : (i * s + j) % s = j := by rw [Nat.add_comm, Nat.add_mul_mod_self_right, Nat.mod_eq_of_lt hj]
          rw [e1, e2, hat _ hj] at h1
          rw [h1]
          simp [hj]
        · rw [List.getElem?_eq_none (by omega)]
          simp [hj]
      rw [← e]; exact ht
/-- a slice of slices of ints -/
theorem open_rows {T R E : TypeId} {v : Value} {d : DataW H} {p : List MemPlace} (hT : P.underlying T = some (.slice R)) (hR : P.underlying R = some (.slice E)) (hE : P.underlying E = some (.int .i64)) (hCR : P.cellsOf R = 1) (hC : P.cellsOf E = 1)
    (hok : ∃ a n c, v = .slice a n c) (h : DataW.Trod enc P W base (fun _ => true) held T v d p) :
    ∃ (A : Option Addr) (n c : Nat) (R : Nat → SI), v = .slice A n c ∧ Rd W A n (fun i => (R i).val) ∧ (∀ i, (R i).good W) ∧ Sl d n c ∧ n ≤ c ∧ c ≤ maxLen := by
  obtain ⟨A, n, c, V, hv, hr, hs, hl, hm, hi⟩ := open_blocks hT hCR (by omega) hok h
  obtain ⟨F, hF⟩ := fn_of (n := n) (Q := fun i s => (i < n → V i = s.val) ∧ s.good W) SI.nil (fun i hi => ⟨fun h => absurd h (by omega), SI.nil_good W⟩) (fun i hin => by
    obtain ⟨y, m, hy⟩ := hi i hin
    obtain ⟨s, e, hg⟩ := ints_of hR hE hC hy
    simp [List.range_succ] at e
    exact ⟨s, fun _ => e, hg⟩)
  rw [Nat.mul_one] at hr
  exact ⟨A, n, c, F, hv, hr.congr fun i hi => (hF i).1 hi, fun i => (hF i).2, hs, hl, hm⟩
/-- a slice of slices of bools -/
theorem open_brows {T R E : TypeId} {v : Value} {d : DataW H} {p : List MemPlace} (hT : P.underlying T = some (.slice R)) (hR : P.underlying R = some (.slice E)) (hE : P.underlying E = some .bool) (hCR : P.cellsOf R = 1) (hC : P.cellsOf E = 1)
    (hok : ∃ a n c, v = .slice a n c) (h : DataW.Trod enc P W base (fun _ => true) held T v d p) :
    ∃ (A : Option Addr) (n c : Nat) (R : Nat → SB), v = .slice A n c ∧ Rd W A n (fun i => (R i).val) ∧ (∀ i, (R i).good W) ∧ Sl d n c ∧ n ≤ c ∧ c ≤ maxLen := by
  obtain ⟨A, n, c, V, hv, hr, hs, hl, hm, hi⟩ := open_blocks hT hCR (by omega) hok h
  obtain ⟨F, hF⟩ := fn_of (n := n) (Q := fun i s => (i < n → V i = s.val) ∧ s.good W) SB.nil (fun i hi => ⟨fun h => absurd h (by omega), SB.nil_good W⟩) (fun i hin => by
    obtain ⟨y, m, hy⟩ := hi i hin
    obtain ⟨s, e, hg⟩ := bools_of hR hE hC hy
    simp [List.range_succ] at e
    exact ⟨s, fun _ => e, hg⟩)
  rw [Nat.mul_one] at hr
  exact ⟨A, n, c, F, hv, hr.congr fun i hi => (hF i).1 hi, fun i => (hF i).2, hs, hl, hm⟩
/-- a record of two slices of ints -/
theorem two_of {T R E : TypeId} {f0 f1 : Field} {m : Nat} {cs : List Value} {x : DataW H × List MemPlace} (hT : P.underlying T = some (.struct #[f0, f1])) (h0 : f0.type = R) (h1 : f1.type = R) (o0 : f0.offset = 0) (o1 : f1.offset = 1) (hR : P.underlying R = some (.slice E)) (hE : P.underlying E = some (.int .i64)) (hCR : P.cellsOf R = 1) (hC : P.cellsOf E = 1)
    (hl : cs.length = 2) (h : DataW.trod enc P W base (fun _ => true) held m T cs = some x) :
    ∃ s t : SI, cs = [s.val, t.val] ∧ s.good W ∧ t.good W := by
  obtain ⟨xs, n, _, _, _, hxl, hi⟩ := DataW.trod_struct hT h
  have hx2 : xs.length = 2 := hxl
  have g0 := hi 0 f0 rfl
  have g1 := hi 1 f1 rfl
  rw [h0, o0, hCR, List.getElem?_eq_getElem (by omega)] at g0
  rw [h1, o1, hCR, List.getElem?_eq_getElem (by omega)] at g1
  obtain ⟨s, e0, hs⟩ := ints_of hR hE hC g0
  obtain ⟨t, e1, ht⟩ := ints_of hR hE hC g1
  match cs, hl with
  | [a, b], _ =>
    simp at e0 e1
    subst e0 e1
    exact ⟨s, t, rfl, hs, ht⟩
/-- a record of two slices of ints that comes in by value -/
theorem open_pair {T R E : TypeId} {f0 f1 : Field} {v : Value} {d : DataW H} {p : List MemPlace} (hT : P.underlying T = some (.struct #[f0, f1])) (h0 : f0.type = R) (h1 : f1.type = R) (o0 : f0.offset = 0) (o1 : f1.offset = 1) (hR : P.underlying R = some (.slice E)) (hE : P.underlying E = some (.int .i64)) (hCR : P.cellsOf R = 1) (hC : P.cellsOf E = 1) (hCT : P.cellsOf T = 2)
    (hok : ∃ cs, v = .agg cs ∧ cs.size = P.cellsOf T) (h : DataW.Trod enc P W base (fun _ => true) held T v d p) :
    ∃ s t : SI, v = .agg #[.slice s.A s.n s.c, .slice t.A t.n t.c] ∧ s.good W ∧ t.good W := by
  obtain ⟨cs, rfl, hs⟩ := hok
  obtain ⟨m, hm⟩ := h
  obtain ⟨s, t, e, hs2, ht2⟩ := two_of hT h0 h1 o0 o1 hR hE hCR hC (by simp [Value.cells]; omega) hm
  simp [Value.cells] at e
  refine ⟨s, t, ?_, hs2, ht2⟩
  obtain ⟨l⟩ := cs
  simp at e
  subst e
  rfl
/-- the cells of a slice of records of two slices -/
def clC (Y N : Nat → SI) (q : Nat) : Value := if q % 2 = 0 then (Y (q / 2)).val else (N (q / 2)).val
theorem clC_0 (Y N : Nat → SI) (k : Nat) : clC Y N (k * 2) = (Y k).val := by unfold clC; rw [if_pos (by omega), show k * 2 / 2 = k by omega]
theorem clC_1 (Y N : Nat → SI) (k : Nat) : clC Y N (k * 2 + 1) = (N k).val := by unfold clC; rw [if_neg (by omega), show (k * 2 + 1) / 2 = k by omega]
theorem clC_one (Y N : Nat → SI) (q : Nat) : (clC Y N q).oneCell' = true := by unfold clC; split <;> rfl
theorem open_pairs {T Q R E : TypeId} {f0 f1 : Field} {v : Value} {d : DataW H} {p : List MemPlace} (hTQ : P.underlying T = some (.slice Q)) (hCQ : P.cellsOf Q = 2) (hT : P.underlying Q = some (.struct #[f0, f1])) (h0 : f0.type = R) (h1 : f1.type = R) (o0 : f0.offset = 0) (o1 : f1.offset = 1) (hR : P.underlying R = some (.slice E)) (hE : P.underlying E = some (.int .i64)) (hCR : P.cellsOf R = 1) (hC : P.cellsOf E = 1)
    (hok : ∃ a n c, v = .slice a n c) (h : DataW.Trod enc P W base (fun _ => true) held T v d p) :
    ∃ (A : Option Addr) (n c : Nat) (Y N : Nat → SI), v = .slice A n c ∧ Rd W A (n * 2) (clC Y N) ∧ (∀ i, (Y i).good W ∧ (N i).good W) ∧ Sl d n c ∧ n ≤ c ∧ c ≤ maxLen := by
  obtain ⟨A, n, c, V, hv, hr, hs, hl, hm, hi⟩ := open_blocks hTQ hCQ (by omega) hok h
  obtain ⟨F, hF⟩ := fn_of (n := n) (Q := fun i (s : SI × SI) => (i < n → V (i * 2) = s.1.val ∧ V (i * 2 + 1) = s.2.val) ∧ s.1.good W ∧ s.2.good W) (SI.nil, SI.nil) (fun i hi => ⟨fun h => absurd h (by omega), SI.nil_good W, SI.nil_good W⟩) (fun i hin => by
    obtain ⟨y, m, hy⟩ := hi i hin
    obtain ⟨s, t, e, hs, ht⟩ := two_of hT h0 h1 o0 o1 hR hE hCR hC (by simp) hy
    simp [List.range_succ] at e
    exact ⟨(s, t), fun _ => e, hs, ht⟩)
  refine ⟨A, n, c, fun i => (F i).1, fun i => (F i).2, hv, hr.congr fun q hq => ?_, fun i => (hF i).2, hs, hl, hm⟩
  have hk := (hF (q / 2)).1 (by omega)
  by_cases e : q % 2 = 0
  · have e2 : q = q / 2 * 2 := by omega
    rw [e2, clC_0, show q / 2 * 2 / 2 * 2 = q / 2 * 2 by omega] at *
    exact hk.1
  · have e2 : q = q / 2 * 2 + 1 := by omega
    rw [e2, clC_1]
    exact hk.2
end
end Go.Proofs.Ytklhbmlcpjlgiaa
