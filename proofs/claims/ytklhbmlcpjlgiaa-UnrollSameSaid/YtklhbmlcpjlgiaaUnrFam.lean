/- A family of lists of numbers of one's own, apart from one another; rows of rows of such. Conditions: none. -/
import Derived.Test.YtklhbmlcpjlgiaaUnrB
namespace Go.Proofs.Ytklhbmlcpjlgiaa
open Go.ChangeShapes Go.WideShapes Go.ChangeAt Go.RowKit Go.Maps
set_option linter.unusedVariables false
set_option linter.unusedSimpArgs false
def up {α : Type} (f : Nat → α) (i : Nat) (x : α) : Nat → α := fun r => if r = i then x else f r
theorem up_same {α : Type} (f : Nat → α) (i : Nat) (x : α) : up f i x i = x := if_pos rfl
theorem up_other {α : Type} (f : Nat → α) {i r : Nat} (x : α) (h : r ≠ i) : up f i x r = f r := if_neg h
/-- x behind the first m -/
def snoc (f : Nat → Int) (m : Nat) (x : Int) : Nat → Int := fun j => if j < m then f j else x
theorem orV_congr {F : Nat → Int} {g : Nat → Bool} {f f' : Nat → Int} : ∀ {m : Nat}, (∀ q, q < m → f q = f' q) → orV F g f m = orV F g f' m
  | 0, _ => rfl
  | m + 1, h => by
    show (orV F g f m || vx F g (f m)) = (orV F g f' m || vx F g (f' m))
    rw [orV_congr fun q hq => h q (by omega), h m (by omega)]
theorem orV_snoc (F : Nat → Int) (g : Nat → Bool) (f : Nat → Int) (m : Nat) (x : Int) : orV F g (snoc f m x) (m + 1) = (orV F g f m || vx F g x) := by
  show (orV F g (snoc f m x) m || vx F g (snoc f m x m)) = _
  rw [orV_congr (f' := f) fun q hq => by unfold snoc; rw [if_pos hq]]
  unfold snoc; rw [if_neg (by omega)]
theorem orV_ext {F F' : Nat → Int} {g : Nat → Bool} {n : Nat} {f : Nat → Int} (h : ∀ q, q < 3 * n → F' q = F q) : ∀ {m : Nat}, (∀ q, q < m → f q < n) → orV F' g f m = orV F g f m
  | 0, _ => rfl
  | m + 1, hf => by
    show (orV F' g f m || vx F' g (f m)) = (orV F g f m || vx F g (f m))
    rw [orV_ext h fun q hq => hf q (by omega), vx_ext g h (hf m (by omega))]
/-- T lists, apart from one another -/
structure Fam (W : World) (B T : Nat) (A : Nat → Option Addr) (cc M : Nat → Nat) (L : Nat → Nat → Int) : Prop where
  own : ∀ i, i < T → Own W B 3 1 (A i) (M i) (cc i) (M i) (fun j => .int .i64 (L i j))
  sep : ∀ i j, i < T → j < T → i ≠ j → ∀ g, (Value.slice (A i) (M i) (cc i)).ownBlock = some g → (Value.slice (A j) (M j) (cc j)).ownBlock ≠ some g
section
variable {W W' : World} {B T : Nat} {A : Nat → Option Addr} {cc M : Nat → Nat} {L : Nat → Nat → Int}
theorem Fam.nil (W : World) (B T : Nat) (L : Nat → Nat → Int) : Fam W B T (fun _ => none) (fun _ => 0) (fun _ => 0) L := ⟨fun _ _ => Own.nil _ _ _ _ _, fun _ _ _ _ _ g h => by cases h⟩
theorem Fam.kept (h : Fam W B T A cc M L) (hk : ∀ i, i < T → ∀ g, (Value.slice (A i) (M i) (cc i)).ownBlock = some g → W'.heap[g]? = W.heap[g]?) : Fam W' B T A cc M L := ⟨fun i hi => (h.own i hi).of_block fun g hg => hk i hi g hg, h.sep⟩
theorem Fam.below (h : Fam W B T A cc M L) (hb : Below W.heap.size W W') : Fam W' B T A cc M L := h.kept fun i hi g hg => hb.block g ((h.own i hi).lt g hg).2
theorem Fam.bt {bb base n n' K d : Nat} {F F' : Nat → Int} {RR : Nat → Value} (h : Fam W B T A cc M L) (hs : BS W bb base n K F RR) (hb : BT W W' bb base n n' K d F F' RR) : Fam W' B T A cc M L := ⟨fun i hi => hb.own hs (h.own i hi) intG intB, h.sep⟩
/-- a block of another type turns -/
theorem Fam.other {b : Nat} {cs : Array Value} {t : TypeId} {z : Nat × Nat} (h : Fam W B T A cc M L) (hg : W.grownBy W' (some b)) (ho : W.heap[b]? = some (.cells cs t z)) (ht : t ≠ 3) : Fam W' B T A cc M L := h.kept fun i hi g hgg => hg.block g ((h.own i hi).lt g hgg).2 fun e => by
  have e' : g = b := Option.some.inj e
  subst e'
  obtain ⟨cur, hc⟩ := (h.own i hi).objG g hgg
  rw [ho] at hc
  cases hc
  exact ht rfl
/-- list i is one longer -/
theorem Fam.app {i c2 : Nat} {A2 : Option Addr} {x : Int} (h : Fam W B T A cc M L) (hi : i < T)
    (hown2 : Own W' B 3 1 A2 (M i + 1) c2 (M i + 1) (cat (M i) (fun j => .int .i64 (L i j)) (fun _ => .int .i64 x)))
    (hg2 : W.grownBy W' (Value.slice (A i) (M i) (cc i)).ownBlock) (hat2 : (Value.slice A2 (M i + 1) c2).ownBlock = (Value.slice (A i) (M i) (cc i)).ownBlock ∨ (Value.slice A2 (M i + 1) c2).ownBlock = some W.heap.size) :
    Fam W' B T (up A i A2) (up cc i c2) (up M i (M i + 1)) (up L i (snoc (L i) (M i) x)) := by
  have hnew : ∀ g, (Value.slice A2 (M i + 1) c2).ownBlock = some g → ∀ j, j < T → j ≠ i → (Value.slice (A j) (M j) (cc j)).ownBlock ≠ some g := fun g hg j hj hne e => by
    rcases hat2 with e2 | e2
    · rw [e2] at hg; exact h.sep i j hi hj (fun e => hne e.symm) g hg e
    · rw [e2] at hg; injection hg with hg; subst hg
      have := ((h.own j hj).lt _ e).2
      omega
  refine ⟨fun j hj => ?_, fun j k hj hk hne g hg => ?_⟩
  · by_cases e : j = i
    · subst e
      rw [up_same, up_same, up_same, up_same]
      exact hown2.congr fun q _ => by unfold cat snoc; split <;> rfl
    · rw [up_other _ _ e, up_other _ _ e, up_other _ _ e, up_other _ _ e]
      exact (h.own j hj).kept hg2 fun g hg e2 => h.sep j i hj hi e g hg e2.symm
  · by_cases e : j = i
    · subst e
      rw [up_same, up_same, up_same] at hg
      rw [up_other _ _ (fun e => hne e.symm), up_other _ _ (fun e => hne e.symm), up_other _ _ (fun e => hne e.symm)]
      exact hnew g hg k hk (fun e => hne e.symm)
    · rw [up_other _ _ e, up_other _ _ e, up_other _ _ e] at hg
      by_cases e2 : k = i
      · subst e2
        rw [up_same, up_same, up_same]
        intro e3
        exact hnew g e3 j hj e hg
      · rw [up_other _ _ e2, up_other _ _ e2, up_other _ _ e2]
        exact h.sep j k hj hk hne g hg
/-- list i is begun anew -/
theorem Fam.clear (h : Fam W B T A cc M L) (i : Nat) : Fam W B T (up A i none) (up cc i 0) (up M i 0) L := by
  refine ⟨fun j hj => ?_, fun j k hj hk hne g hg => ?_⟩
  · by_cases e : j = i
    · subst e; rw [up_same, up_same, up_same]; exact Own.nil _ _ _ _ _
    · rw [up_other _ _ e, up_other _ _ e, up_other _ _ e]; exact h.own j hj
  · by_cases e : j = i
    · subst e; rw [up_same, up_same, up_same] at hg; cases hg
    · rw [up_other _ _ e, up_other _ _ e, up_other _ _ e] at hg
      by_cases e2 : k = i
      · subst e2; rw [up_same, up_same, up_same]; intro e3; cases e3
      · rw [up_other _ _ e2, up_other _ _ e2, up_other _ _ e2]; exact h.sep j k hj hk hne g hg
end
/-- the builder stands while a row of another type turns, younger than W0 -/
theorem BT.grown {W0 W W' : World} {bb base n0 n K d : Nat} {F0 F : Nat → Int} {RR : Nat → Value} {row : Option Nat} {e : TypeId} (h : BT W0 W bb base n0 n K d F0 F RR) (hg : W.grownBy W' row) (hb : base ≤ W0.heap.size) (hr : ∀ g, row = some g → W0.heap.size ≤ g ∧ ∃ cur z, W.heap[g]? = some (.cells cur e z)) (he : e ≠ 59) (he2 : e ≠ 52) : BT W0 W' bb base n0 n K d F0 F RR := by
  obtain ⟨A, c, M, R, hm, hR⟩ := h.bs.mker
  refine ⟨⟨⟨A, c, M, R, ⟨hm.row.of_block (hg.block bb hm.row.lt fun e' => ?_), hm.two, hm.typ, hm.ge, hm.r0, hm.r1, hm.own.kept hg fun g hg' e' => ?_, fun b hb => ?_⟩, hR⟩, h.bs.gw⟩, h.le, h.le2, h.ext, ⟨hg.os.trans h.bel.os, hg.tape.trans h.bel.tape, hg.output.trans h.bel.output, Nat.le_trans h.bel.size hg.size, fun g hlt => ?_⟩, ⟨Nat.le_trans h.kp.1 hg.size, fun g cs t z h1 h2 h3 => ?_⟩⟩
  · obtain ⟨_, cur, z, hc⟩ := hr bb e'.symm
    obtain ⟨cs, h1, _⟩ := hm.row
    rw [h1] at hc; cases hc; exact he2 rfl
  · obtain ⟨_, cur, z, hc⟩ := hr g e'.symm
    obtain ⟨cur', hc'⟩ := hm.own.objG g hg'
    rw [hc] at hc'; cases hc'; exact he rfl
  · obtain ⟨h1, m, h2, h3⟩ := hm.map b hb
    refine ⟨h1, m, h2, h3.kept hg fun e' => ?_⟩
    obtain ⟨_, cur, z, hc⟩ := hr b e'.symm
    obtain ⟨es, cl, ho⟩ := h3.obj
    rw [ho] at hc; cases hc
  · exact (hg.block g (Nat.lt_of_lt_of_le (Nat.lt_of_lt_of_le hlt hb) h.bel.size) fun e' => by have := (hr g e'.symm).1; omega).trans (h.bel.block g hlt)
  · have hlt := (Array.getElem?_eq_some_iff.1 h1).1
    exact (hg.block g (Nat.lt_of_lt_of_le hlt h.kp.1) fun e' => by have := (hr g e'.symm).1; omega).trans (h.kp.2 g cs t z h1 h2 h3)
theorem BT.below {W0 W W' : World} {bb base n0 n K d : Nat} {F0 F : Nat → Int} {RR : Nat → Value} (h : BT W0 W bb base n0 n K d F0 F RR) (hb : Below W.heap.size W W') (hbase : base ≤ W.heap.size) : BT W0 W' bb base n0 n K d F0 F RR :=
  ⟨h.bs.below hb, h.le, h.le2, h.ext, h.bel.trans (hb.mono hbase), h.kp.trans (KeepG.below hb)⟩
theorem rowI_ne : (49 : TypeId) ≠ 3 := by decide
theorem rowI_G : (49 : TypeId) ≠ 59 := by decide
theorem rowI_B : (49 : TypeId) ≠ 52 := by decide
theorem rowII_ne : (50 : TypeId) ≠ 3 := by decide
theorem rowII_G : (50 : TypeId) ≠ 59 := by decide
theorem rowII_B : (50 : TypeId) ≠ 52 := by decide
theorem rowII_I : (50 : TypeId) ≠ 49 := by decide
/-- a row of whatever but gates stands while the builder goes on -/
theorem row_bt {W W' : World} {bb base n n' K d : Nat} {F F' : Nat → Int} {RR : Nat → Value} {b N : Nat} {t : TypeId} {R : Nat → Value} (hr : W.rowIs b t N R) (hs : BS W bb base n K F RR) (hb : BT W W' bb base n n' K d F F' RR) (h1 : t ≠ 59) (h2 : t ≠ 52) : W'.rowIs b t N R := by
  obtain ⟨A, c, M, R0, hm, _⟩ := hs.mker
  obtain ⟨cs0, h0, _⟩ := hm.row
  obtain ⟨cs, hc, _⟩ := id hr
  exact hr.of_block (hb.kp.2 b _ _ _ hc h1 fun e => by
    subst e
    rw [hc] at h0; cases h0; exact h2 rfl)
/-- .. and while an own list of numbers grows -/
theorem row_app {W W' : World} {b N : Nat} {t : TypeId} {R : Nat → Value} {B m c : Nat} {A : Option Addr} {C : Nat → Value} (hr : W.rowIs b t N R) (ho : Own W B 3 1 A m c m C) (hg : W.grownBy W' (Value.slice A m c).ownBlock) (h1 : t ≠ 3) : W'.rowIs b t N R := by
  obtain ⟨cs, hc, _⟩ := id hr
  exact hr.of_block (hg.block b hr.lt fun e => by
    obtain ⟨cur, h0⟩ := ho.objG b e.symm
    rw [hc] at h0; cases h0; exact h1 rfl)
/-- .. and while another row turns -/
theorem row_row {W W' : World} {b b' N : Nat} {t : TypeId} {R : Nat → Value} (hr : W.rowIs b t N R) (hg : W.grownBy W' (some b')) (h1 : b ≠ b') : W'.rowIs b t N R := hr.of_block (hg.block b hr.lt fun e => h1 (Option.some.inj e))
end Go.Proofs.Ytklhbmlcpjlgiaa
