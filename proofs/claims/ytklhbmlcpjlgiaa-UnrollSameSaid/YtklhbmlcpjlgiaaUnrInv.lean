/- How the lists of references stand within one step, and how they go on. No condition. -/
import Derived.Test.YtklhbmlcpjlgiaaUnrLaw
namespace Go.Proofs.Ytklhbmlcpjlgiaa
open Go.ChangeShapes Go.WideShapes Go.ChangeAt Go.RowKit Go.Maps
set_option linter.unusedVariables false
set_option linter.unusedSimpArgs false
structure IV (W W' : World) (bb base n0 n K S nb cnt mb : Nat) (F0 F : Nat → Int) (RR : Nat → Value) (A : Nat → Option Addr) (cc M : Nat → Nat) (L : Nat → Nat → Int) (tch tqh : Gs → Nat) (pr : Gs → Prop) : Prop where
  bt : BT W W' bb base n0 n K cnt F0 F RR
  nbe : nb = W.heap.size
  bas : base ≤ nb
  fam : Fam W' nb (K * S + 3) A cc M L
  n3 : N3 W' nb K S A cc M
  ok : RefOk n (K * S + 3) M L
  mbd : ∀ i, i < K * S → M i ≤ mb
  sem : SemN F K S M L tch tqh pr
section
variable {W W' W'' : World} {bb base n0 n K S nb cnt mb : Nat} {F0 F : Nat → Int} {RR : Nat → Value} {A : Nat → Option Addr} {cc M : Nat → Nat} {L : Nat → Nat → Int} {tch tqh : Gs → Nat} {pr : Gs → Prop}
theorem IV.size (h : IV W W' bb base n0 n K S nb cnt mb F0 F RR A cc M L tch tqh pr) : nb ≤ W'.heap.size ∧ n0 ≤ n ∧ n ≤ n0 + cnt := ⟨by rw [h.nbe]; exact h.bt.bel.size, h.bt.le, h.bt.le2⟩
theorem IV.call {n' d : Nat} {F' : Nat → Int} (h : IV W W' bb base n0 n K S nb cnt mb F0 F RR A cc M L tch tqh pr) (k : BT W' W'' bb base n n' K d F F' RR) : IV W W'' bb base n0 n' K S nb (cnt + d) mb F0 F' RR A cc M L tch tqh pr :=
  ⟨h.bt.trans k, h.nbe, h.bas, h.fam.bt h.bt.bs k, h.n3.bt h.bt.bs k, h.ok.mono k.le, h.mbd, h.sem.ext h.ok (by omega) k.ext⟩
theorem IV.below (h : IV W W' bb base n0 n K S nb cnt mb F0 F RR A cc M L tch tqh pr) (hb : Below W'.heap.size W' W'') : IV W W'' bb base n0 n K S nb cnt mb F0 F RR A cc M L tch tqh pr :=
  ⟨h.bt.below hb (by have := h.size; have := h.bas; omega), h.nbe, h.bas, h.fam.below hb, h.n3.below hb, h.ok, h.mbd, h.sem⟩
theorem IV.more {cnt' mb' : Nat} (h : IV W W' bb base n0 n K S nb cnt mb F0 F RR A cc M L tch tqh pr) (h1 : cnt ≤ cnt') (h2 : mb ≤ mb') : IV W W' bb base n0 n K S nb cnt' mb' F0 F RR A cc M L tch tqh pr :=
  ⟨h.bt.more h1, h.nbe, h.bas, h.fam, h.n3, h.ok, fun i hi => by have := h.mbd i hi; omega, h.sem⟩
theorem IV.iff {pr' : Gs → Prop} (h : IV W W' bb base n0 n K S nb cnt mb F0 F RR A cc M L tch tqh pr) (hp : ∀ g, pr' g ↔ pr g) : IV W W' bb base n0 n K S nb cnt mb F0 F RR A cc M L tch tqh pr' := ⟨h.bt, h.nbe, h.bas, h.fam, h.n3, h.ok, h.mbd, h.sem.iff hp⟩
theorem IV.clear (h : IV W W' bb base n0 n K S nb cnt mb F0 F RR A cc M L tch tqh pr) (i : Nat) (hi : K * S ≤ i) : IV W W' bb base n0 n K S nb cnt mb F0 F RR (up A i none) (up cc i 0) (up M i 0) L tch tqh pr :=
  ⟨h.bt, h.nbe, h.bas, h.fam.clear i, h.n3.lists fun j hj => ⟨up_other _ _ (by omega), up_other _ _ (by omega), up_other _ _ (by omega)⟩, h.ok.clear i, fun j hj => by rw [up_other _ _ (by omega)]; exact h.mbd j hj, h.sem.clear hi⟩
/-- the world turns where list i lies -/
theorem IV.turn {i : Nat} (h : IV W W' bb base n0 n K S nb cnt mb F0 F RR A cc M L tch tqh pr) (hi : i < K * S + 3) (hg : W'.grownBy W'' (Value.slice (A i) (M i) (cc i)).ownBlock) : BT W W'' bb base n0 n K cnt F0 F RR ∧ N3 W'' nb K S A cc M :=
  ⟨h.bt.grown hg (by have := h.bas; have := h.nbe; omega) (fun g hgg => by
    obtain ⟨cur, hc⟩ := (h.fam.own i hi).objG g hgg
    exact ⟨by have := ((h.fam.own i hi).lt g hgg).1; have := h.nbe; omega, cur, _, hc⟩) intG intB, h.n3.app (h.fam.own i hi) hg⟩
theorem IV.app {i c2 : Nat} {A2 : Option Addr} {x : Int} (h : IV W W' bb base n0 n K S nb cnt mb F0 F RR A cc M L tch tqh pr) (hi : i < K * S + 3) (hi2 : K * S ≤ i) (hx : -1 ≤ x ∧ x < n)
    (hown2 : Own W'' nb 3 1 A2 (M i + 1) c2 (M i + 1) (cat (M i) (fun j => .int .i64 (L i j)) (fun _ => .int .i64 x)))
    (hg2 : W'.grownBy W'' (Value.slice (A i) (M i) (cc i)).ownBlock) (hat2 : (Value.slice A2 (M i + 1) c2).ownBlock = (Value.slice (A i) (M i) (cc i)).ownBlock ∨ (Value.slice A2 (M i + 1) c2).ownBlock = some W'.heap.size) :
    IV W W'' bb base n0 n K S nb cnt mb F0 F RR (up A i A2) (up cc i c2) (up M i (M i + 1)) (up L i (snoc (L i) (M i) x)) tch tqh pr := by
  obtain ⟨hbt, hn3⟩ := h.turn hi hg2
  exact ⟨hbt, h.nbe, h.bas, h.fam.app hi hown2 hg2 hat2, hn3.lists fun j hj => ⟨up_other _ _ (by omega), up_other _ _ (by omega), up_other _ _ (by omega)⟩, h.ok.push i hx, fun j hj => by rw [up_other _ _ (by omega)]; exact h.mbd j hj, h.sem.other hi2⟩
/-- a reference more in the list of cell c and state q, and its header written -/
theorem IV.push {c q c2 : Nat} {A2 : Option Addr} {x : Int} {pr' : Gs → Prop} (h : IV W W' bb base n0 n K S nb cnt mb F0 F RR A cc M L tch tqh pr) (hc : c < K) (hq : q < S) (hx : -1 ≤ x ∧ x < n)
    (hp : ∀ g, pr' g ↔ pr g ∨ vx F g x = true) (ht : ∀ g, vx F g x = true → tch g = c ∧ tqh g = q)
    (hown2 : Own W'' nb 3 1 A2 (M (c * S + q) + 1) c2 (M (c * S + q) + 1) (cat (M (c * S + q)) (fun j => .int .i64 (L (c * S + q) j)) (fun _ => .int .i64 x)))
    (hg2 : W'.grownBy W'' (Value.slice (A (c * S + q)) (M (c * S + q)) (cc (c * S + q))).ownBlock) (hat2 : (Value.slice A2 (M (c * S + q) + 1) c2).ownBlock = (Value.slice (A (c * S + q)) (M (c * S + q)) (cc (c * S + q))).ownBlock ∨ (Value.slice A2 (M (c * S + q) + 1) c2).ownBlock = some W'.heap.size) :
    IV W (W''.setCell ⟨nb + 1 + c, q, none⟩ (.slice A2 (M (c * S + q) + 1) c2)) bb base n0 n K S nb cnt (mb + 1) F0 F RR (up A (c * S + q) A2) (up cc (c * S + q) c2) (up M (c * S + q) (M (c * S + q) + 1)) (up L (c * S + q) (snoc (L (c * S + q)) (M (c * S + q)) x)) tch tqh pr' := by
  have hi : c * S + q < K * S + 3 := by have := leaf_lt hc hq; omega
  obtain ⟨hbt, hn3⟩ := h.turn hi hg2
  have hgs := grown_setG W'' (nb + 1 + c) q (.slice A2 (M (c * S + q) + 1) c2)
  obtain ⟨cs, hcs, _⟩ := hn3.row c hc
  exact ⟨hbt.grown hgs (by have := h.bas; have := h.nbe; omega) (fun g hgg => by
    obtain rfl : nb + 1 + c = g := Option.some.inj hgg
    exact ⟨by have := h.nbe; omega, _, _, hcs⟩) rowI_G rowI_B, h.nbe, h.bas, (h.fam.app hi hown2 hg2 hat2).other hgs hcs rowI_ne, hn3.set hc hq, h.ok.push _ hx, fun j hj => by
    by_cases e : j = c * S + q
    · subst e; rw [up_same]; have := h.mbd _ hj; omega
    · rw [up_other _ _ e]; have := h.mbd j hj; omega, h.sem.push hc hq hp ht⟩
end
end Go.Proofs.Ytklhbmlcpjlgiaa
