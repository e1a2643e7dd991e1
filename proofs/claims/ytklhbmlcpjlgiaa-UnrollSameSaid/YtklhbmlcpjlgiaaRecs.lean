/- A slice of records of ints, opened: its cells read as one function. No condition. -/
import Derived.Test.YtklhbmlcpjlgiaaLib
import Derived.Deep.Fields
import Derived.ChangeSame
namespace Go.Proofs.Ytklhbmlcpjlgiaa
open Go.ChangeShapes Go.WideShapes Go.ChangeAt Go.RowKit
theorem add_plain2 (b off i j : Nat) : Addr.add (Addr.add ⟨b, off, none⟩ i) j = ⟨b, off + (i + j), none⟩ := by rw [add_plain', add_plain', Nat.add_assoc]
section
variable {H : Type} {enc : TypeId × Value → H} {P : Program} {W : World} {base : Nat} {held : Bool}
theorem open_recs {T E : TypeId} {fs : Array Field} {s : Nat} {v : Value} {d : DataW H} {p : List MemPlace} (hT : P.underlying T = some (.slice E)) (hE : P.underlying E = some (.struct fs))
    (hone : Go.Deep.oneCellFields P fs = true) (hC : P.cellsOf E = s) (hs : fs.size = s) (hs0 : 0 < s) (hint : ∀ f ∈ fs, P.underlying f.type = some (.int .i64))
    (hok : ∃ a n c, v = .slice a n c) (h : DataW.Trod enc P W base (fun _ => true) held T v d p) :
    ∃ (A : Option Addr) (n c : Nat) (F : Nat → Int), v = .slice A n c ∧ Rd W A (n * s) (fun q => .int .i64 (F q)) ∧ (∀ q, (Lit.int .i64 (F q)).wf = true) ∧ Sl d n c ∧ n ≤ c ∧ c ≤ maxLen := by
  obtain ⟨a, n, c, rfl⟩ := hok
  obtain ⟨fuel, hf⟩ := h
  rcases Deep.open_slice hT hf with ⟨hcs, hx⟩ | ⟨a', len, cap, m, k, D, Pl, hcs, hb, hl, hm, hmm, hx, hi⟩
  · simp [Value.cells] at hcs
    obtain ⟨rfl, rfl, rfl⟩ := hcs
    simp only [Prod.mk.injEq] at hx
    exact ⟨none, 0, 0, fun _ => 0, rfl, by rw [Nat.zero_mul]; exact Rd.zero _ _ _, fun _ => (by decide : (Lit.int .i64 0).wf = true), .inl ⟨hx.1, rfl, rfl⟩, Nat.le_refl _, Nat.zero_le _⟩
  · simp [Value.cells] at hcs
    obtain ⟨rfl, rfl, rfl⟩ := hcs
    simp at hmm
    subst hmm
    simp only [Prod.mk.injEq] at hx
    have cells : ∀ q, q < n * s → ∃ x : Int, W.cell? (a'.add (q / s * s) |>.add (q % s)) = some (.int .i64 x) ∧ (Lit.int .i64 x).wf = true := fun q hq => by
      have hqn : q / s < n := (Nat.div_lt_iff_lt_mul hs0).2 hq
      have hqs : q % s < s := Nat.mod_lt _ hs0
      obtain ⟨cs', hc, ht⟩ := hi (q / s) (by omega)
      rw [hC] at hc
      obtain ⟨_, hcl, hat⟩ := World.cells?_some hc
      obtain ⟨ys, n', _, _, hlen, hyl, hf'⟩ := DataW.trod_struct hE ht
      have hfj : fs[q % s]? = some (fs[q % s]'(by omega)) := Array.getElem?_eq_getElem (by omega)
      obtain ⟨ho, hk⟩ := Go.Deep.hone_of hone _ _ hfj
      have h1 := hf' _ _ hfj
      have hyj : ys[q % s]? = some (ys[q % s]'(by omega)) := List.getElem?_eq_getElem (by omega)
      rw [ho, hk, hyj] at h1
      obtain ⟨x, e, _, hw⟩ := DataW.trod_int (hint _ (Array.getElem_mem _)) h1
      refine ⟨x, ?_, hw⟩
      rw [hat _ hqs]
      have : (cs'.drop (q % s)).take 1 = [cs'[q % s]'(by omega)] := by rw [List.drop_eq_getElem_cons (by omega)]; rfl
      rw [this] at e
      simp at e
      rw [List.getElem?_eq_getElem (by omega), e]
    obtain ⟨F, hF⟩ := fn_of (n := n * s) (Q := fun q x => (q < n * s → W.cell? (a'.add (q / s * s) |>.add (q % s)) = some (.int .i64 x)) ∧ (Lit.int .i64 x).wf = true) (0 : Int) (fun i hi => ⟨fun h => absurd h (by omega), by decide⟩) (fun q hq => by
      obtain ⟨x, e, hw⟩ := cells q hq
      exact ⟨x, fun _ => e, hw⟩)
    refine ⟨some a', n, m, F, rfl, fun hn => ?_, fun q => (hF q).2, .inr ⟨_, _, hx.1, by simp, by simp; omega⟩, hl, hm⟩
    have h0 := (hF 0).1 hn
    have e0 : (a'.add (0 / s * s)).add (0 % s) = a'.add 0 := by simp [Addr.add]
    rw [e0] at h0
    obtain ⟨b, off, rfl, hlt⟩ := spot_none h0
    refine ⟨b, off, rfl, hlt, fun q hq => ?_⟩
    have := (hF q).1 hq
    rw [add_plain2, Nat.div_add_mod'] at this
    exact this
end
end Go.Proofs.Ytklhbmlcpjlgiaa
