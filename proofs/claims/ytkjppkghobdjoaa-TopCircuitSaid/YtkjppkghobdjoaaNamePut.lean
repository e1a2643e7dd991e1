/- What the function that name.Build puts clauses with does. Conditions: as each theorem states. -/
import Derived.Test.YtkjppkghobdjoaaNameMore
import Derived.Deep.RegionLaw
namespace Go.Proofs.Ytkjppkghobdjoaa
open Go.ChangeShapes Go.WideShapes Go.ChangeAt Go.RowKit nameMore
set_option linter.unusedVariables false
theorem grown_setN (W : World) (B o : Nat) (v : Value) : W.grownBy (W.setCell ⟨B, o, none⟩ v) (some B) :=
  ⟨rfl, rfl, rfl, by simp [World.setCell], fun k _ hk => Deep.blk_setCell_other _ _ _ _ (fun e => hk (by rw [e]))⟩
/-- all that lay in w but block B and the row of v lies as it lay -/
def KeepB (B : Nat) (v : Value) (w W' : World) : Prop := w.heap.size ≤ W'.heap.size ∧ ∀ g, g < w.heap.size → g ≠ B → v.ownBlock ≠ some g → W'.heap[g]? = w.heap[g]?
theorem KeepB.refl (B : Nat) (v : Value) (w : World) : KeepB B v w w := ⟨Nat.le_refl _, fun _ _ _ _ => rfl⟩
theorem KeepB.step {B : Nat} {v : Value} {w W W' : World} {row : Option Nat} (h : KeepB B v w W) (hg : W.grownBy W' row) (hr : ∀ g, row = some g → g = B ∨ v.ownBlock = some g ∨ w.heap.size ≤ g) : KeepB B v w W' :=
  ⟨Nat.le_trans h.1 hg.size, fun g h1 h2 h3 => (hg.block g (by have := h.1; omega) fun e => by
    rcases hr g e.symm with h5 | h5 | h5
    · exact h2 h5
    · exact h3 h5
    · omega).trans (h.2 g h1 h2 h3)⟩
/-- the box in which the clauses are -/
structure Bx (W : World) (B base m c : Nat) (A : Option Addr) (Y N : Nat → SI) : Prop where
  row : W.rowIs B 23 1 (fun _ => .slice A m c)
  ge : base ≤ B
  own : Own W base 43 2 A m c (m * 2) (clC Y N)
theorem Own.objN {W : World} {base s : Nat} {e : TypeId} {A : Option Addr} {n c k : Nat} {C : Nat → Value} (h : Own W base e s A n c k C) : ∀ g, (Value.slice A n c).ownBlock = some g → ∃ cur, W.heap[g]? = some (.cells cur e (0, 0)) := fun g hg => by
  rcases h.1.2 with ⟨hv, _⟩ | ⟨g', cap, cur, hv, hge, hb, _⟩
  · rw [hv] at hg; cases hg
  · rw [hv] at hg
    cases hg
    exact ⟨cur, hb⟩
theorem Own.sepN {W : World} {base s : Nat} {e T B N : Nat} {A : Option Addr} {n c k : Nat} {C R : Nat → Value} (h : Own W base e s A n c k C) (hr : W.rowIs B T N R) (he : T ≠ e) : ∀ g, (Value.slice A n c).ownBlock = some g → g ≠ B := fun g hg e' => by
  subst e'
  obtain ⟨cur, hc⟩ := h.objN g hg
  obtain ⟨cs, h1, _⟩ := hr
  rw [h1] at hc
  cases hc
  exact he rfl
theorem Bx.below {W W' : World} {B base m c : Nat} {A : Option Addr} {Y N : Nat → SI} (h : Bx W B base m c A Y N) (hb : Below W.heap.size W W') : Bx W' B base m c A Y N :=
  ⟨h.row.of_block (hb.block B h.row.lt), h.ge, h.own.below hb⟩
theorem Bx.grown {W W' : World} {B base m c : Nat} {A : Option Addr} {Y N : Nat → SI} {row : Option Nat} {e : TypeId} (h : Bx W B base m c A Y N) (hg : W.grownBy W' row) (he : e ≠ 43) (hT : e ≠ 23) (hr : ∀ g, row = some g → ∃ cur, W.heap[g]? = some (.cells cur e (0, 0))) : Bx W' B base m c A Y N := by
  refine ⟨h.row.of_block (hg.block B h.row.lt fun e' => ?_), h.ge, h.own.kept hg fun g hg' e' => ?_⟩
  · obtain ⟨cur, hc⟩ := hr B e'.symm
    obtain ⟨cs, h1, _⟩ := h.row
    rw [h1] at hc; cases hc; exact hT rfl
  · obtain ⟨cur, hc⟩ := hr g e'.symm
    obtain ⟨cur', hc'⟩ := h.own.objN g hg'
    rw [hc] at hc'; cases hc'; exact he rfl
theorem clC_snoc {Y N : Nat → SI} {y z : SI} {m q : Nat} (hq : q < (m + 1) * 2) : cat (m * 2) (clC Y N) (pr y z) q = clC (snoc Y y m) (snoc N z m) q := by
  by_cases e : q < m * 2
  · rw [cat_lt e]
    unfold clC
    rw [snoc_lt (by omega), snoc_lt (by omega)]
  · rw [cat_ge (by omega)]
    have : q = m * 2 ∨ q = m * 2 + 1 := by omega
    rcases this with rfl | rfl
    · rw [Nat.sub_self, clC_0, snoc_eq]; rfl
    · rw [show m * 2 + 1 - m * 2 = 1 by omega, clC_1, snoc_eq]; rfl
/-- what putting one clause more leaves -/
def NPut (B base m c : Nat) (A : Option Addr) (Y N : Nat → SI) (y z : SI) (w : World) (e : Ending) (w' : World) : Prop :=
  e = .returned (.tuple #[]) ∧ ∃ A' c', Bx w' B base (m + 1) c' A' (snoc Y y m) (snoc N z m) ∧ Below base w w' ∧ KeepB B (.slice A m c) w w'
set_option maxRecDepth 100000 in
set_option maxHeartbeats 1000000 in
theorem nput_any {B base m c : Nat} {A : Option Addr} {Y N : Nat → SI} (y z : SI) (w : World) (h : Bx w B base m c A Y N) (hm : m ≤ 100000) :
    Calls Try.prog 12 #[y.val, z.val, .pointer (some ⟨B, 0, none⟩)] w (NPut B base m c A Y N y z w) := by
  have c0 : w.cell? ⟨B, 0, none⟩ = some (.slice A m c) := h.row.cell (by omega)
  have f0 := h.row.frozen 0
  have lB := h.row.lt
  have hba : base ≤ w.heap.size := by have := h.ge; omega
  have hown := h.own
  have H := Lib.hid h
  clear h
  obtain ⟨yA, yn, yc, yf⟩ := y
  obtain ⟨zA, zn, zc, zf⟩ := z
  show Calls Try.prog 12 #[.slice yA yn yc, .slice zA zn zc, .pointer (some ⟨B, 0, none⟩)] w _
  go_enter Try.func12, Try.ntmps12
  go_wp2_with (at_builtin; refine wpList_app _ rfl (.tmp 5) (.tmp 9) 23 rfl EC rfl (hown.alloc _) rfl (l := 2) rfl (rdp w _ rfl ⟨yA, yn, yc, yf⟩ ⟨zA, zn, zc, zf⟩ _) (fun _ _ => pr_one _ _ _) (by unfold maxLen; omega) (by omega) (by simp; omega) (m + 1) ((m + 1) * 2) rfl (by omega) ?_; intro A2 c2 w3 hown2 hg2 hat2 hbl2; have hk3 : w3.heap[B]? = w.heap[B]? := (hg2.block B (by simp; omega) (fun e => H.out.own.sepN H.out.row (by decide) _ e.symm rfl)).trans (Deep.blk_alloc_lt w _ B lB); have hc3 : w3.cell? ⟨B, 0, none⟩ = some (.slice A m c) := (H.out.row.of_block hk3).cell (i := 0) (by omega); have hf3 := (H.out.row.of_block hk3).frozen 0)
  go_end0
  have hrow3 := (H.out.row.of_block hk3).set 0 (.slice A2 (m + 1) c2)
  have hA2 : ∀ g, (Value.slice A2 (m + 1) c2).ownBlock = some g → g ≠ B := fun g hg => by
    rcases hat2 with h | h
    · exact H.out.own.sepN H.out.row (by decide) g (h.symm.trans hg)
    · rw [h] at hg; simp at hg; omega
  have G4 := grown_setN w3 B 0 (.slice A2 (m + 1) c2)
  have hk : KeepB B (.slice A m c) w w3 := ((KeepB.refl B (.slice A m c) w).step (World.grownBy_alloc w _ none) (fun g e => by cases e)).step hg2 (fun g e => .inr (.inl e))
  refine ⟨rfl, A2, c2, ⟨?_, H.out.ge, (hown2.kept G4 (fun g hg e => hA2 g hg (by injection e))).congr fun q hq => clC_snoc hq⟩, ?_, hk.step G4 (fun g e => .inl (by injection e with e; exact e.symm))⟩
  · obtain ⟨cs, h1, h2, h3⟩ := hrow3
    exact ⟨cs, h1, h2, fun i hi => (h3 i hi).trans (congrArg some (if_pos (by omega)))⟩
  · exact (((Below.refl base w).alloc hba _).trans hbl2).setCell (p := ⟨B, 0, none⟩) H.out.ge _
end Go.Proofs.Ytkjppkghobdjoaa
