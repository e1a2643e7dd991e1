/- One step of the machine as gates: what the lists of references say. Plain law. No condition. -/
import Derived.Test.YtklhbmlcpjlgiaaUnrFam
import Derived.Test.YtklhbmlcpjlgiaaUnrollAsk
namespace Go.Proofs.Ytklhbmlcpjlgiaa
open Go.ChangeShapes Go.WideShapes Go.ChangeAt Go.RowKit Go.Maps
set_option linter.unusedVariables false
set_option linter.unusedSimpArgs false
abbrev Gs := Nat → Bool
/-- of each input: where the head is, the state, the sign under the head, and where both go -/
structure TG (K st : Nat) (T : Nat → Nat → Int) (Hh Ss fb tc tq : Gs → Nat) : Prop where
  hK : ∀ g, Hh g < K
  hs : ∀ g, Ss g ≤ st
  hf : ∀ g, fb g < 2
  cK : ∀ g, tc g < K
  qs : ∀ g, tq g ≤ st
  run : ∀ g, Ss g < st → ((tc g : Nat) : Int) = clU K ((Hh g : Int) + T (Ss g) (3 * fb g + 1)) ∧ ((tq g : Nat) : Int) = T (Ss g) (3 * fb g + 2)
  stop : ∀ g, Ss g = st → tc g = Hh g ∧ tq g = st
/-- what has been gone over -/
def prD (Hh Ss fb : Gs → Nat) (c q v : Nat) (g : Gs) : Prop := Hh g < c ∨ (Hh g = c ∧ (Ss g < q ∨ (Ss g = q ∧ fb g < v)))
/-- the lists of all cells and states -/
def SemN (F : Nat → Int) (K S : Nat) (M : Nat → Nat) (L : Nat → Nat → Int) (tc tq : Gs → Nat) (pr : Gs → Prop) : Prop := ∀ g c' q', c' < K → q' < S → (orV F g (L (c' * S + q')) (M (c' * S + q')) = true ↔ pr g ∧ c' = tc g ∧ q' = tq g)
/-- one list -/
def SemL (F : Nat → Int) (M : Nat → Nat) (L : Nat → Nat → Int) (i : Nat) (p : Gs → Prop) : Prop := ∀ g, orV F g (L i) (M i) = true ↔ p g
/-- the references are of gates that are there -/
def RefOk (n T : Nat) (M : Nat → Nat) (L : Nat → Nat → Int) : Prop := ∀ i, i < T → ∀ j, j < M i → -1 ≤ L i j ∧ L i j < n
theorem RefOk.mono {n n' T : Nat} {M : Nat → Nat} {L : Nat → Nat → Int} (h : RefOk n T M L) (hn : n ≤ n') : RefOk n' T M L := fun i hi j hj => by have := h i hi j hj; omega
theorem RefOk.push {n T : Nat} {M : Nat → Nat} {L : Nat → Nat → Int} (h : RefOk n T M L) (i : Nat) {x : Int} (hx : -1 ≤ x ∧ x < n) : RefOk n T (up M i (M i + 1)) (up L i (snoc (L i) (M i) x)) := fun k hk j hj => by
  by_cases e : k = i
  · subst e
    rw [up_same] at hj
    rw [up_same]
    unfold snoc
    split
    · exact h k hk j (by omega)
    · exact hx
  · rw [up_other _ _ e] at hj
    rw [up_other _ _ e]
    exact h k hk j hj
theorem RefOk.clear {n T : Nat} {M : Nat → Nat} {L : Nat → Nat → Int} (h : RefOk n T M L) (i : Nat) : RefOk n T (up M i 0) L := fun k hk j hj => by
  by_cases e : k = i
  · subst e; rw [up_same] at hj; omega
  · rw [up_other _ _ e] at hj; exact h k hk j hj
theorem leaf_inj {S c q c' q' : Nat} (hq : q < S) (hq' : q' < S) (h : c' * S + q' = c * S + q) : c' = c ∧ q' = q := by
  have h1 : (c' * S + q') / S = c' := by rw [Nat.mul_comm, Nat.mul_add_div (by omega), Nat.div_eq_of_lt hq']; omega
  have h2 : (c * S + q) / S = c := by rw [Nat.mul_comm, Nat.mul_add_div (by omega), Nat.div_eq_of_lt hq]; omega
  have e : c' = c := by rw [← h1, ← h2, h]
  subst e
  exact ⟨rfl, by omega⟩
theorem leaf_lt {K S c q : Nat} (hc : c < K) (hq : q < S) : c * S + q < K * S := by
  have := Nat.mul_le_mul_right S (show c + 1 ≤ K by omega)
  rw [Nat.add_mul] at this
  omega
theorem SemN.ext {F F' : Nat → Int} {K S n T : Nat} {M : Nat → Nat} {L : Nat → Nat → Int} {tc tq : Gs → Nat} {pr : Gs → Prop} (h : SemN F K S M L tc tq pr) (hr : RefOk n T M L) (hT : K * S ≤ T) (he : ∀ q, q < 3 * n → F' q = F q) : SemN F' K S M L tc tq pr := fun g c' q' hc hq => by
  rw [orV_ext he fun j hj => (hr _ (by have := leaf_lt hc hq; omega) j hj).2]
  exact h g c' q' hc hq
theorem SemL.ext {F F' : Nat → Int} {n T i : Nat} {M : Nat → Nat} {L : Nat → Nat → Int} {p : Gs → Prop} (h : SemL F M L i p) (hr : RefOk n T M L) (hi : i < T) (he : ∀ q, q < 3 * n → F' q = F q) : SemL F' M L i p := fun g => by
  rw [orV_ext he fun j hj => (hr i hi j hj).2]
  exact h g
theorem SemL.other {F : Nat → Int} {i k : Nat} {M : Nat → Nat} {L : Nat → Nat → Int} {p : Gs → Prop} {m : Nat} {l : Nat → Int} (h : SemL F M L i p) (hne : i ≠ k) : SemL F (up M k m) (up L k l) i p := fun g => by
  rw [up_other _ _ hne, up_other _ _ hne]; exact h g
theorem SemL.push {F : Nat → Int} {i : Nat} {M : Nat → Nat} {L : Nat → Nat → Int} {p p' : Gs → Prop} {x : Int} (h : SemL F M L i p) (hp : ∀ g, p' g ↔ p g ∨ vx F g x = true) : SemL F (up M i (M i + 1)) (up L i (snoc (L i) (M i) x)) i p' := fun g => by
  rw [up_same, up_same, orV_snoc, Bool.or_eq_true, h g, hp g]
theorem SemL.clear {F : Nat → Int} {i : Nat} {M : Nat → Nat} {L : Nat → Nat → Int} {p : Gs → Prop} (hp : ∀ g, ¬ p g) : SemL F (up M i 0) L i p := fun g => by
  rw [up_same]
  constructor
  · intro e; cases e
  · intro e; exact absurd e (hp g)
theorem SemL.iff {F : Nat → Int} {i : Nat} {M : Nat → Nat} {L : Nat → Nat → Int} {p p' : Gs → Prop} (h : SemL F M L i p) (hp : ∀ g, p' g ↔ p g) : SemL F M L i p' := fun g => by rw [hp g]; exact h g
theorem SemN.iff {F : Nat → Int} {K S : Nat} {M : Nat → Nat} {L : Nat → Nat → Int} {tc tq : Gs → Nat} {pr pr' : Gs → Prop} (h : SemN F K S M L tc tq pr) (hp : ∀ g, pr' g ↔ pr g) : SemN F K S M L tc tq pr' := fun g c' q' hc hq => by rw [hp g]; exact h g c' q' hc hq
theorem SemN.other {F : Nat → Int} {K S k : Nat} {M : Nat → Nat} {L : Nat → Nat → Int} {tc tq : Gs → Nat} {pr : Gs → Prop} {m : Nat} {l : Nat → Int} (h : SemN F K S M L tc tq pr) (hk : K * S ≤ k) : SemN F K S (up M k m) (up L k l) tc tq pr := fun g c' q' hc hq => by
  have := leaf_lt hc hq
  rw [up_other _ _ (by omega), up_other _ _ (by omega)]; exact h g c' q' hc hq
theorem SemN.clear {F : Nat → Int} {K S k : Nat} {M : Nat → Nat} {L : Nat → Nat → Int} {tc tq : Gs → Nat} {pr : Gs → Prop} (h : SemN F K S M L tc tq pr) (hk : K * S ≤ k) : SemN F K S (up M k 0) L tc tq pr := fun g c' q' hc hq => by
  have := leaf_lt hc hq
  rw [up_other _ _ (by omega)]; exact h g c' q' hc hq
/-- one reference more, where the ones that it says go -/
theorem SemN.push {F : Nat → Int} {K S td nx : Nat} {M : Nat → Nat} {L : Nat → Nat → Int} {tc tq : Gs → Nat} {pr pr' : Gs → Prop} {x : Int} (h : SemN F K S M L tc tq pr) (htd : td < K) (hnx : nx < S) (hp : ∀ g, pr' g ↔ pr g ∨ vx F g x = true) (ht : ∀ g, vx F g x = true → tc g = td ∧ tq g = nx) : SemN F K S (up M (td * S + nx) (M (td * S + nx) + 1)) (up L (td * S + nx) (snoc (L (td * S + nx)) (M (td * S + nx)) x)) tc tq pr' := fun g c' q' hc hq => by
  by_cases e : c' * S + q' = td * S + nx
  · obtain ⟨rfl, rfl⟩ := leaf_inj hnx hq e
    rw [up_same, up_same, orV_snoc, Bool.or_eq_true, h g c' q' hc hq, hp g]
    constructor
    · rintro (⟨h1, h2⟩ | h1)
      · exact ⟨.inl h1, h2⟩
      · have := ht g h1
        exact ⟨.inr h1, this.1.symm, this.2.symm⟩
    · rintro ⟨h1 | h1, h2⟩
      · exact .inl ⟨h1, h2⟩
      · exact .inr h1
  · rw [up_other _ _ e, up_other _ _ e, h g c' q' hc hq, hp g]
    constructor
    · rintro ⟨h1, h2⟩; exact ⟨.inl h1, h2⟩
    · rintro ⟨h1 | h1, h2⟩
      · exact ⟨h1, h2⟩
      · have := ht g h1
        exfalso; apply e; rw [h2.1, h2.2, this.1, this.2]
theorem SemN.start {F : Nat → Int} {K S : Nat} {L : Nat → Nat → Int} {tc tq : Gs → Nat} {pr : Gs → Prop} (hp : ∀ g, ¬ pr g) : SemN F K S (fun _ => 0) L tc tq pr := fun g c' q' _ _ => by
  constructor
  · intro e; cases e
  · intro e; exact absurd e.1 (hp g)
/-- rows of rows: the headers of the lists -/
structure N3 (W : World) (nb K S : Nat) (A : Nat → Option Addr) (cc M : Nat → Nat) : Prop where
  hd : W.rowIs nb 50 K (fun c => .slice (some ⟨nb + 1 + c, 0, none⟩) S S)
  row : ∀ c, c < K → W.rowIs (nb + 1 + c) 49 S (fun q => .slice (A (c * S + q)) (M (c * S + q)) (cc (c * S + q)))
section
variable {W W' : World} {nb K S : Nat} {A : Nat → Option Addr} {cc M : Nat → Nat}
theorem N3.bt {bb base n n' k d : Nat} {F F' : Nat → Int} {RR : Nat → Value} (h : N3 W nb K S A cc M) (hs : BS W bb base n k F RR) (hb : BT W W' bb base n n' k d F F' RR) : N3 W' nb K S A cc M := ⟨row_bt h.hd hs hb rowII_G rowII_B, fun c hc => row_bt (h.row c hc) hs hb rowI_G rowI_B⟩
theorem N3.below (h : N3 W nb K S A cc M) (hb : Below W.heap.size W W') : N3 W' nb K S A cc M := ⟨h.hd.of_block (hb.block _ h.hd.lt), fun c hc => (h.row c hc).of_block (hb.block _ (h.row c hc).lt)⟩
theorem N3.app {B m c : Nat} {X : Option Addr} {C : Nat → Value} (h : N3 W nb K S A cc M) (ho : Own W B 3 1 X m c m C) (hg : W.grownBy W' (Value.slice X m c).ownBlock) : N3 W' nb K S A cc M := ⟨row_app h.hd ho hg rowII_ne, fun c hc => row_app (h.row c hc) ho hg rowI_ne⟩
theorem N3.lists {A' : Nat → Option Addr} {cc' M' : Nat → Nat} (h : N3 W nb K S A cc M) (he : ∀ i, i < K * S → A' i = A i ∧ cc' i = cc i ∧ M' i = M i) : N3 W nb K S A' cc' M' := ⟨h.hd, fun c hc => (h.row c hc).congr fun q hq => by
  obtain ⟨e1, e2, e3⟩ := he _ (leaf_lt hc hq)
  rw [e1, e2, e3]⟩
theorem N3.set {c q m2 c2 : Nat} {A2 : Option Addr} (h : N3 W nb K S A cc M) (hc : c < K) (hq : q < S) : N3 (W.setCell ⟨nb + 1 + c, q, none⟩ (.slice A2 m2 c2)) nb K S (up A (c * S + q) A2) (up cc (c * S + q) c2) (up M (c * S + q) m2) := by
  have hg := grown_setG W (nb + 1 + c) q (.slice A2 m2 c2)
  refine ⟨row_row h.hd hg (by omega), fun c' hc' => ?_⟩
  by_cases e : c' = c
  · subst e
    refine ((h.row c' hc').set q _).congr fun q' hq' => ?_
    by_cases e2 : q' = q
    · subst e2; rw [if_pos rfl, up_same, up_same, up_same]
    · have e3 : c' * S + q' ≠ c' * S + q := by omega
      rw [if_neg e2, up_other _ _ e3, up_other _ _ e3, up_other _ _ e3]
  · refine (row_row (h.row c' hc') hg (by omega)).congr fun q' hq' => ?_
    have e3 : c' * S + q' ≠ c * S + q := fun e4 => e (leaf_inj hq hq' e4).1
    rw [up_other _ _ e3, up_other _ _ e3, up_other _ _ e3]
end
end Go.Proofs.Ytklhbmlcpjlgiaa
