/- What (*gate.Maker).Put does: the gate is there, at the number told; the gates that were stay. Conditions: the maker lies as told. -/
import Derived.Test.YtklhbmlcpjlgiaaGateMap
import Derived.Test.YtklhbmlcpjlgiaaApp
import Derived.Deep.RegionLaw
import Derived.Deep.OwnRows
import Derived.BigQuiet
import Derived.Deep.QuietTactic
import Derived.StillTailTactics
import Derived.WalkSpells
import Derived.Deep.DeepCutAuto
namespace Go.Proofs.Ytklhbmlcpjlgiaa
open Go.ChangeShapes Go.WideShapes Go.ChangeAt Go.RowKit Go.Maps
set_option linter.unusedVariables false
theorem EGp : Elem Try.prog 30 59 3 24 := Elem.of Try.underlying30 (by kernel_rfl : (Try.prog.info? 59).map (fun i => (i.zero, i.size, i.bytes)) = some (some (.agg #[.int .i64 0, .int .i64 0, .int .i64 0]), 3, 24)) rfl (by omega)
theorem look_run {w : World} {b m : Nat} {D : DataW Unit} (hD : w.ownsMap Try.prog 59 (plainElem Try.prog 3) b m D) {x y z : Int} (hx : (Lit.int .i64 x).wf = true) (hy : (Lit.int .i64 y).wf = true) (hz : (Lit.int .i64 z).wf = true) :
    ∃ c : Int, D.atKey (gk x y z) (.lit (.int .i64 0)) = .lit (.int .i64 c) ∧ ∀ w' : World, w'.heap = w.heap → (Instr.lookup 46 (.map (some b)) (.agg #[.int .i64 x, .int .i64 y, .int .i64 z]) true).run Try.prog w' = .ok (.tuple #[.int .i64 c, .bool (has D (gk x y z))]) w' := by
  have key : ∀ w' : World, w'.heap = w.heap → ∃ c : Int, D.atKey (gk x y z) (.lit (.int .i64 0)) = .lit (.int .i64 c) ∧ (Instr.lookup 46 (.map (some b)) (.agg #[.int .i64 x, .int .i64 y, .int .i64 z]) true).run Try.prog w' = .ok (.tuple #[.int .i64 c, .bool (has D (gk x y z))]) w' := fun w' hw => by
    have hD' : w'.ownsMap Try.prog 59 (plainElem Try.prog 3) b m D := by
      obtain ⟨es, cl, h1, h2⟩ := hD
      exact ⟨es, cl, by rw [hw]; exact h1, h2⟩
    obtain ⟨v, ps, hrun, hv⟩ := hD'.look_ok kG Try.underlying46 (z := .int .i64 0) (by go_simp) (plainElem_int Try.underlying3 (by decide)) (gkey hx hy hz)
    obtain ⟨c, rfl, hc, _⟩ := plainElem_int_inv Try.underlying3 hv
    exact ⟨c, congrArg Prod.fst hc, hrun⟩
  obtain ⟨c, hc, _⟩ := key w rfl
  refine ⟨c, hc, fun w' hw => ?_⟩
  obtain ⟨c', hc', hr⟩ := key w' hw
  rw [hc] at hc'
  injection hc' with hc'
  injection hc' with _ hc'
  subst hc'
  exact hr
/-- the maker at block B (of type T, N cells, the first two of which are the maker's) with n gates -/
structure Mk (W : World) (T N B base n : Nat) (F : Nat → Int) (A : Option Addr) (c : Nat) (M : Option Nat) (R : Nat → Value) : Prop where
  row : W.rowIs B T N R
  two : 2 ≤ N
  typ : T ≠ 59
  ge : base ≤ B
  r0 : R 0 = .slice A n c
  r1 : R 1 = .map M
  own : Own W base 59 3 A n c (n * 3) (fun q => .int .i64 (F q))
  map : ∀ b, M = some b → base ≤ b ∧ ∃ m, m ≤ n ∧ MapG W b m n F
/-- whatever is cells, not gates, and not the maker's, lies as it lay -/
def KeepG (B : Nat) (W W' : World) : Prop := W.heap.size ≤ W'.heap.size ∧ ∀ (g : Nat) (cs : Array Value) (t : TypeId) (z : Nat × Nat), W.heap[g]? = some (.cells cs t z) → t ≠ 59 → g ≠ B → W'.heap[g]? = W.heap[g]?
theorem KeepG.refl (B : Nat) (W : World) : KeepG B W W := ⟨Nat.le_refl _, fun _ _ _ _ _ _ _ => rfl⟩
theorem KeepG.trans {B : Nat} {W W' W'' : World} (h : KeepG B W W') (k : KeepG B W' W'') : KeepG B W W'' := ⟨Nat.le_trans h.1 k.1, fun g cs t z h1 h2 h3 => by
  have e := h.2 g cs t z h1 h2 h3
  exact (k.2 g cs t z (e.trans h1) h2 h3).trans e⟩
theorem KeepG.below {B : Nat} {W W' : World} (h : Below W.heap.size W W') : KeepG B W W' := ⟨h.size, fun g cs t z h1 _ _ => h.block g (Array.getElem?_eq_some_iff.1 h1).1⟩
theorem KeepG.grown {B : Nat} {W W' : World} {row : Option Nat} (h : W.grownBy W' row) (hr : ∀ g, row = some g → g = B ∨ ∃ cs z, W.heap[g]? = some (.cells cs 59 z) ∨ ∃ es c, W.heap[g]? = some (.map es c)) : KeepG B W W' := ⟨h.size, fun g cs t z h1 h2 h3 => h.block g (Array.getElem?_eq_some_iff.1 h1).1 fun e => by
  rcases hr g e.symm with h4 | ⟨cs', z', h4 | ⟨es, c, h4⟩⟩
  · exact h3 h4
  · rw [h1] at h4; cases h4; exact h2 rfl
  · rw [h1] at h4; cases h4⟩
/-- of what lay in w all but the maker, its row and its map lies as it lay -/
def KeepW (B : Nat) (v : Value) (M : Option Nat) (w W' : World) : Prop := w.heap.size ≤ W'.heap.size ∧ ∀ g, g < w.heap.size → g ≠ B → v.ownBlock ≠ some g → M ≠ some g → W'.heap[g]? = w.heap[g]?
theorem KeepW.refl (B : Nat) (v : Value) (M : Option Nat) (w : World) : KeepW B v M w w := ⟨Nat.le_refl _, fun _ _ _ _ _ => rfl⟩
theorem KeepW.step {B : Nat} {v : Value} {M : Option Nat} {w W W' : World} {row : Option Nat} (h : KeepW B v M w W) (hg : W.grownBy W' row) (hr : ∀ g, row = some g → g = B ∨ v.ownBlock = some g ∨ M = some g ∨ w.heap.size ≤ g) : KeepW B v M w W' :=
  ⟨Nat.le_trans h.1 hg.size, fun g h1 h2 h3 h4 => (hg.block g (by have := h.1; omega) fun e => by
    rcases hr g e.symm with h5 | h5 | h5 | h5
    · exact h2 h5
    · exact h3 h5
    · exact h4 h5
    · omega).trans (h.2 g h1 h2 h3 h4)⟩
theorem KeepW.below {B : Nat} {v : Value} {M : Option Nat} {w W W' : World} (h : KeepW B v M w W) (hb : Below W.heap.size W W') : KeepW B v M w W' :=
  ⟨Nat.le_trans h.1 hb.size, fun g h1 h2 h3 h4 => (hb.block g (by have := h.1; omega)).trans (h.2 g h1 h2 h3 h4)⟩
theorem Own.keepG {W W' : World} {base s B : Nat} {e : TypeId} {A : Option Addr} {n c k : Nat} {C : Nat → Value} (h : Own W base e s A n c k C) (hk : KeepG B W W') (he : e ≠ 59) (hB : ∀ g, (Value.slice A n c).ownBlock = some g → g ≠ B) : Own W' base e s A n c k C := by
  refine h.of_block fun g hg => ?_
  rcases h.1.2 with ⟨hv, _⟩ | ⟨g', cap, cur, hv, hge, hb, _⟩
  · rw [hv] at hg; cases hg
  · rw [hv] at hg
    cases hg
    exact hk.2 _ _ _ _ hb he (hB _ (by rw [hv]; rfl))
theorem Mk.sep {W : World} {T N B base n : Nat} {F : Nat → Int} {A : Option Addr} {c : Nat} {M : Option Nat} {R : Nat → Value} (h : Mk W T N B base n F A c M R) : ∀ g, (Value.slice A n c).ownBlock = some g → g ≠ B := fun g hg e => by
  subst e
  obtain ⟨cs, h1, _⟩ := h.row
  rcases h.own.1.2 with ⟨hv, _⟩ | ⟨g', cap, cur, hv, hge, hb, _⟩
  · rw [hv] at hg; cases hg
  · rw [hv] at hg
    cases hg
    rw [h1] at hb
    cases hb
    exact h.typ rfl
theorem Mk.mapsep {W : World} {T N B base n : Nat} {F : Nat → Int} {A : Option Addr} {c b : Nat} {M : Option Nat} {R : Nat → Value} (h : Mk W T N B base n F A c M R) (hM : M = some b) : b ≠ B ∧ b < W.heap.size ∧ ∀ g, (Value.slice A n c).ownBlock = some g → g ≠ b := by
  obtain ⟨_, m, _, hm⟩ := h.map b hM
  obtain ⟨es, cl, ho⟩ := hm.obj
  refine ⟨fun e => ?_, hm.lt, fun g hg e => ?_⟩
  · subst e
    obtain ⟨cs, h1, _⟩ := h.row
    rw [h1] at ho; cases ho
  · subst e
    rcases h.own.1.2 with ⟨hv, _⟩ | ⟨g', cap, cur, hv, hge, hb, _⟩
    · rw [hv] at hg; cases hg
    · rw [hv] at hg
      cases hg
      rw [hb] at ho; cases ho
theorem grown_setG (W : World) (B o : Nat) (v : Value) : W.grownBy (W.setCell ⟨B, o, none⟩ v) (some B) :=
  ⟨rfl, rfl, rfl, by simp [World.setCell], fun k _ hk => Deep.blk_setCell_other _ _ _ _ (fun e => hk (by rw [e]))⟩
theorem Mk.below {W W' : World} {T N B base n : Nat} {F : Nat → Int} {A : Option Addr} {c : Nat} {M : Option Nat} {R : Nat → Value} (h : Mk W T N B base n F A c M R) (hb : Below W.heap.size W W') : Mk W' T N B base n F A c M R :=
  ⟨h.row.of_block (hb.block B h.row.lt), h.two, h.typ, h.ge, h.r0, h.r1, h.own.below hb, fun b e => by
    obtain ⟨h1, m, h2, h3⟩ := h.map b e
    exact ⟨h1, m, h2, h3.below hb⟩⟩
theorem rd_gate (W : World) (kd a b : Int) (K : Nat) (hK : W.heap.size = K) : Rd (W.alloc (.cells #[.int .i64 kd, .int .i64 a, .int .i64 b] 59)) (some ⟨K, 0, none⟩) 3 (fun q => .int .i64 (if q = 0 then kd else if q = 1 then a else b)) := by
  subst hK
  refine Rd.of_row (World.rowIs_alloc W #[.int .i64 kd, .int .i64 a, .int .i64 b] 59 _ fun i hi => ?_) (Nat.le_refl _)
  have : i = 0 ∨ i = 1 ∨ i = 2 := by simp at hi; omega
  rcases this with rfl | rfl | rfl <;> rfl
theorem Own.objG {W : World} {base s : Nat} {e : TypeId} {A : Option Addr} {n c k : Nat} {C : Nat → Value} (h : Own W base e s A n c k C) : ∀ g, (Value.slice A n c).ownBlock = some g → ∃ cur, W.heap[g]? = some (.cells cur e (0, 0)) := fun g hg => by
  rcases h.1.2 with ⟨hv, _⟩ | ⟨g', cap, cur, hv, hge, hb, _⟩
  · rw [hv] at hg; cases hg
  · rw [hv] at hg
    cases hg
    exact ⟨cur, hb⟩
/-- one gate more -/
def plusG (F : Nat → Int) (n : Nat) (kd a b : Int) (q : Nat) : Int := if q < n * 3 then F q else if q = n * 3 then kd else if q = n * 3 + 1 then a else b
def PutR (T N B base n : Nat) (F : Nat → Int) (A : Option Addr) (c : Nat) (M : Option Nat) (R : Nat → Value) (kd a b : Int) (w : World) (e : Ending) (w' : World) : Prop :=
  ∃ (i n' : Nat) (F' : Nat → Int) (A' : Option Addr) (c' : Nat) (M' : Option Nat) (R' : Nat → Value), e = .returned (.int .i64 (i : Nat)) ∧ i < n' ∧ n ≤ n' ∧ n' ≤ n + 1 ∧ (∀ q, q < 3 * n → F' q = F q) ∧ (n' = n ∨ i = n) ∧ F' (3 * i) = kd ∧ F' (3 * i + 1) = a ∧ F' (3 * i + 2) = b ∧
    Mk w' T N B base n' F' A' c' M' R' ∧ (∀ j, 2 ≤ j → R' j = R j) ∧ Below base w w' ∧ KeepW B (.slice A n c) M w w'
set_option maxRecDepth 100000 in
set_option maxHeartbeats 1000000 in
theorem put_any {T N B base n : Nat} {F : Nat → Int} {A : Option Addr} {c : Nat} {M : Option Nat} {R : Nat → Value} {kd a b : Int} (w : World) (h : Mk w T N B base n F A c M R) (hn : n ≤ 1000000) (hk : (Lit.int .i64 kd).wf = true) (ha : (Lit.int .i64 a).wf = true) (hb : (Lit.int .i64 b).wf = true) :
    Calls Try.prog 14 #[.pointer (some ⟨B, 0, none⟩), .int .i64 kd, .int .i64 a, .int .i64 b] w (PutR T N B base n F A c M R kd a b w) := by
  have c0 : w.cell? ⟨B, 0, none⟩ = some (.slice A n c) := by rw [h.row.cell (by have := h.two; omega), h.r0]
  have c1 : w.cell? ⟨B, 1, none⟩ = some (.map M) := by rw [h.row.cell (by have := h.two; omega), h.r1]
  have f0 := h.row.frozen 0
  have f1 := h.row.frozen 1
  have lB := h.row.lt
  have HM := Lib.hid h
  have q41 : ∀ (w : World) (r : Option Nat), (binOp .eql 46 (.map r) (.map none)).run Try.prog w = .ok (.bool r.isNone) w := fun w r => run_eql_map_nil w _ _ _ r Try.underlying46
  have hmk : ∀ W : World, (Instr.makeMap 46 none).run Try.prog W = .ok (.map (some W.heap.size)) (W.alloc (.map #[] 0)) := fun W => run_makeMap (P := Try.prog) 46 W
  have hba : base ≤ w.heap.size := by have := h.ge; omega
  have hgc : ∀ W : World, W.rowIs w.heap.size 59 3 (fun j => if j = 0 then .int .i64 kd else if j = 1 then .int .i64 a else .int .i64 b) → (W.cell? ⟨w.heap.size, 0, none⟩ = some (.int .i64 kd) ∧ W.cell? ⟨w.heap.size, 1, none⟩ = some (.int .i64 a) ∧ W.cell? ⟨w.heap.size, 2, none⟩ = some (.int .i64 b)) := fun W hW => ⟨hW.cell (i := 0) (by omega), hW.cell (i := 1) (by omega), hW.cell (i := 2) (by omega)⟩
  have hg0 : (w.alloc (.cells #[.int .i64 kd, .int .i64 a, .int .i64 b] 59)).rowIs w.heap.size 59 3 (fun j => if j = 0 then .int .i64 kd else if j = 1 then .int .i64 a else .int .i64 b) := World.rowIs_alloc w #[.int .i64 kd, .int .i64 a, .int .i64 b] 59 _ fun i hi => by
    have : i = 0 ∨ i = 1 ∨ i = 2 := by simp at hi; omega
    rcases this with rfl | rfl | rfl <;> rfl
  have HG0 := Lib.hid hg0
  have HGC := Lib.hid hgc
  clear hg0 hgc
  cases M
  case' none =>
    clear h
    go_enter Try.func14, Try.ntmps14
    go_upto_region 4 with fail
    have G0 := grown_setG w B 1 (.map (some (w.heap.size + 1)))
    have hsc : (w.setCell ⟨B, 1, none⟩ (.map (some (w.heap.size + 1)))).heap.size = w.heap.size := by simp
    have hrow0 := HM.out.row.set 1 (.map (some (w.heap.size + 1)))
    have hown0 := HM.out.own.kept G0 (fun g hg e => HM.out.sep g hg (by injection e))
    have hbel0 := (Below.refl base w).setCell (p := ⟨B, 1, none⟩) (HM.out.ge) (.map (some (w.heap.size + 1)))
    have hkp0 : KeepW B (.slice A n c) none w (w.setCell ⟨B, 1, none⟩ (.map (some (w.heap.size + 1)))) := (KeepW.refl _ _ _ w).step G0 (fun g e => .inl (by injection e with e; exact e.symm))
    have hbb : base ≤ w.heap.size + 1 := by omega
    obtain ⟨bm, hbm⟩ : ∃ bm, bm = w.heap.size + 1 := ⟨_, rfl⟩
    rw [← hbm] at hsc hrow0 hown0 hbel0 hkp0 hbb ⊢
    obtain ⟨w0, hw0⟩ : ∃ w0, w0 = w.setCell ⟨B, 1, none⟩ (.map (some bm)) := ⟨_, rfl⟩
    rw [← hw0] at hsc hrow0 hown0 hbel0 hkp0 ⊢
    clear hw0 G0
    have G1 : w0.grownBy (w0.alloc (.cells #[.int .i64 kd, .int .i64 a, .int .i64 b] 59)) none := World.grownBy_alloc _ _ none
    have G2 : (w0.alloc (.cells #[.int .i64 kd, .int .i64 a, .int .i64 b] 59)).grownBy ((w0.alloc (.cells #[.int .i64 kd, .int .i64 a, .int .i64 b] 59)).alloc (.map #[] 0)) none := World.grownBy_alloc _ _ none
    have hmap := MapG.made (w0.alloc (.cells #[.int .i64 kd, .int .i64 a, .int .i64 b] 59)) n F
    have hsz : (w0.alloc (.cells #[.int .i64 kd, .int .i64 a, .int .i64 b] 59)).heap.size = bm := by simp [hsc, hbm]
    rw [hsz] at hmap
    have hrow := (hrow0.alloc (.cells #[.int .i64 kd, .int .i64 a, .int .i64 b] 59)).alloc (.map #[] 0)
    have hown := (hown0.alloc (.cells #[.int .i64 kd, .int .i64 a, .int .i64 b] 59)).alloc (.map #[] 0)
    have hgr0 : (w0.alloc (.cells #[.int .i64 kd, .int .i64 a, .int .i64 b] 59)).rowIs w0.heap.size 59 3 (fun j => if j = 0 then .int .i64 kd else if j = 1 then .int .i64 a else .int .i64 b) := World.rowIs_alloc w0 #[.int .i64 kd, .int .i64 a, .int .i64 b] 59 _ fun i hi => by
      have : i = 0 ∨ i = 1 ∨ i = 2 := by simp at hi; omega
      rcases this with rfl | rfl | rfl <;> rfl
    rw [hsc] at hgr0
    have hgr := hgr0.alloc (.map #[] 0)
    have hbel := (hbel0.alloc (by omega) (.cells #[.int .i64 kd, .int .i64 a, .int .i64 b] 59)).alloc (by rw [hsz]; omega) (.map #[] 0)
    have hkp := (hkp0.step G1 (fun g e => by cases e)).step G2 (fun g e => by cases e)
    have hbmk : ∀ g, g = bm → (none : Option Nat) = some g ∨ w.heap.size ≤ g := fun g e => .inr (by omega)
    obtain ⟨W1, hW1⟩ : ∃ W1, W1 = (w0.alloc (.cells #[.int .i64 kd, .int .i64 a, .int .i64 b] 59)).alloc (.map #[] 0) := ⟨_, rfl⟩
    rw [← hW1] at hmap hrow hown hgr hbel hkp ⊢
    have hr10 : (fun j => if j = 1 then Value.map (some bm) else R j) 0 = .slice A n c := HM.out.r0
    have hr1k : ∀ j, 2 ≤ j → (fun j => if j = 1 then Value.map (some bm) else R j) j = R j := fun j hj => if_neg (by omega)
    have hr11 : (fun j => if j = 1 then Value.map (some bm) else R j) 1 = .map (some bm) := if_pos rfl
    obtain ⟨R1, hR1⟩ : ∃ R1 : Nat → Value, R1 = (fun j => if j = 1 then Value.map (some bm) else R j) := ⟨_, rfl⟩
    rw [← hR1] at hrow hr10 hr1k hr11
    have hm0 : 0 ≤ n := Nat.zero_le n
    obtain ⟨m, hmm⟩ : ∃ m, m = 0 := ⟨_, rfl⟩
    rw [← hmm] at hmap hm0
    clear hW1 hbm hR1 hmm G1 G2 hsz hgr0 hrow0 hown0 hbel0 hkp0 hsc
  case' some bm =>
    clear h
    go_enter Try.func14, Try.ntmps14
    go_upto_region 4 with fail
    have G1 : w.grownBy (w.alloc (.cells #[.int .i64 kd, .int .i64 a, .int .i64 b] 59)) none := World.grownBy_alloc _ _ none
    obtain ⟨hbb, m, hm0, hmap0⟩ := HM.out.map bm rfl
    have hmap := hmap0.kept G1 (by simp)
    have hrow := HM.out.row.alloc (.cells #[.int .i64 kd, .int .i64 a, .int .i64 b] 59)
    have hown := HM.out.own.alloc (.cells #[.int .i64 kd, .int .i64 a, .int .i64 b] 59)
    have hgr := HG0.out
    have hbel : Below base w (w.alloc (.cells #[.int .i64 kd, .int .i64 a, .int .i64 b] 59)) := (Below.refl base w).alloc hba _
    have hkp := (KeepW.refl B (.slice A n c) (some bm) w).step G1 (fun g e => by cases e)
    have hbmk : ∀ g, g = bm → some bm = some g ∨ w.heap.size ≤ g := fun g e => .inl (by rw [e])
    obtain ⟨W1, hW1⟩ : ∃ W1, W1 = (w.alloc (.cells #[.int .i64 kd, .int .i64 a, .int .i64 b] 59)) := ⟨_, rfl⟩
    rw [← hW1] at hmap hrow hown hgr hbel hkp ⊢
    have hr10 := HM.out.r0
    have hr11 := HM.out.r1
    obtain ⟨R1, hR1⟩ : ∃ R1 : Nat → Value, R1 = R := ⟨_, rfl⟩
    have hr1k : ∀ j, 2 ≤ j → R1 j = R j := fun j hj => by rw [hR1]
    rw [← hR1] at hrow hr10 hr11
    clear hW1 hR1 G1 hmap0
  all_goals
    have hMk : Mk W1 T N B base n F A c (some bm) R1 := ⟨hrow, HM.out.two, HM.out.typ, HM.out.ge, hr10, hr11, hown, fun b' e => by injection e with e; subst e; exact ⟨hbb, m, hm0, hmap⟩⟩
    have cc0 : W1.cell? ⟨B, 0, none⟩ = some (.slice A n c) := by rw [hrow.cell (by have := HM.out.two; omega), hr10]
    have cc1 : W1.cell? ⟨B, 1, none⟩ = some (.map (some bm)) := by rw [hrow.cell (by have := HM.out.two; omega), hr11]
    have ff0 := hrow.frozen 0
    have ff1 := hrow.frozen 1
    obtain ⟨g0, g1, g2⟩ := HGC.out W1 hgr
    obtain ⟨D, hD, hS⟩ := hmap
    obtain ⟨cc, hcc, hlk⟩ := look_run hD hk ha hb
    obtain ⟨tb, htb⟩ : ∃ tb, tb = has D (gk kd a b) := ⟨_, rfl⟩
    rw [← htb] at hlk
    have lk := fun k => hlk (W1.drewN k) rfl
    have lkd := hlk W1.drew rfl
    have HMk := Lib.hid hMk
    have HS := Lib.hid hS
    have HD := Lib.hid hD
    have HCC := Lib.hid hcc
    have HTB := Lib.hid htb
    have HROW := Lib.hid hrow
    have HOWN := Lib.hid hown
    have HGR := Lib.hid hgr
    have HBEL := Lib.hid hbel
    have HKP := Lib.hid hkp
    have HRK := Lib.hid hr1k
    have HBMK := Lib.hid hbmk
    clear hbmk
    have lW1 := hrow.lt
    have lg1 := hgr.lt
    clear hMk hS hD hcc htb hrow hown hgr hbel hkp hr10 hr11 hr1k hlk c0 c1 f0 f1
    cases tb
    · have h63 : n + 1 ≤ maxLen := by unfold maxLen; omega
      go_wp2_with fail
      go_quiet (fail)
      clear lk lkd q41 hmk
      go_wp2_with fail
      have hbd : Below W1.heap.size W1 (W1.drewN nq) := below_drewN (Below.refl _ W1) nq
      have hMk2 := HMk.out.below hbd
      have hgr2 := HGR.out.of_block (w' := W1.drewN nq) rfl
      have hbel2 := below_drewN HBEL.out nq
      have hkp2 := HKP.out.below hbd
      have hD2 : (W1.drewN nq).ownsMap Try.prog 59 (plainElem Try.prog 3) bm m D := by
        obtain ⟨es, cl, h1, h2⟩ := HD.out
        exact ⟨es, cl, h1, h2⟩
      obtain ⟨W2, hW2⟩ : ∃ W2, W2 = W1.drewN nq := ⟨_, rfl⟩
      rw [← hW2] at hMk2 hgr2 hbel2 hkp2 hD2 ⊢
      clear hW2 hbd HMk HGR HBEL HKP HD HOWN HROW cc0 cc1 ff0 ff1 g0 g1 g2 lW1 lg1
      have g0 : W2.cell? ⟨w.heap.size, 0, none⟩ = some (.int .i64 kd) := hgr2.cell (i := 0) (by omega)
      have g1 : W2.cell? ⟨w.heap.size, 1, none⟩ = some (.int .i64 a) := hgr2.cell (i := 1) (by omega)
      have g2 : W2.cell? ⟨w.heap.size, 2, none⟩ = some (.int .i64 b) := hgr2.cell (i := 2) (by omega)
      have b0 : W2.cell? ⟨B, 0, none⟩ = some (.slice A n c) := by rw [hMk2.row.cell (by have := hMk2.two; omega), hMk2.r0]
      have b1 : W2.cell? ⟨B, 1, none⟩ = some (.map (some bm)) := by rw [hMk2.row.cell (by have := hMk2.two; omega), hMk2.r1]
      have fb0 := hMk2.row.frozen 0
      have fb1 := hMk2.row.frozen 1
      have lB2 := hMk2.row.lt
      have lg2 := hgr2.lt
      have hown := hMk2.own
      have HMk2 := Lib.hid hMk2
      have HGR2 := Lib.hid hgr2
      have HBEL2 := Lib.hid hbel2
      have HKP2 := Lib.hid hkp2
      have HD2 := Lib.hid hD2
      have hB2 : base ≤ B := hMk2.ge
      clear hMk2 hgr2 hbel2 hkp2 hD2
      have hsep : ∀ g, (Value.slice A n c).ownBlock = some g → g ≠ B := HMk2.out.sep
      have hsepm : ∀ g, (Value.slice A n c).ownBlock = some g → g ≠ bm := (HMk2.out.mapsep rfl).2.2
      have hold : ∀ g, (Value.slice A n c).ownBlock = some g → g < w.heap.size := fun g hg => (HM.out.own.lt g hg).2
      have HSEP := Lib.hid hsep
      have HSEPM := Lib.hid hsepm
      have HOLD := Lib.hid hold
      have hbmB : bm ≠ B := (HMk2.out.mapsep rfl).1
      have lbm := (HMk2.out.mapsep rfl).2.1
      clear hsep hsepm hold
      go_region_law (refine step_app _ rfl (.tmp 45) (.tmp 47) 30 rfl EGp rfl ((hown.alloc _).drew) rfl (l := 3) rfl (rd_gate _ kd a b _ (by simp)).drew (fun _ _ => rfl) (by unfold maxLen; omega) (by omega) (by simp; omega) (n + 1) ((n + 1) * 3) rfl (by omega) ?_; intro A2 c2 w3 hown2 hg2 hat2 hbl2; have hk3 : w3.heap[B]? = W2.heap[B]? := (hg2.block B (by simp; omega) (fun e => HSEP.out B e.symm rfl)).trans (Deep.blk_alloc_lt W2 _ B lB2); have hc3 : w3.cell? ⟨B, 0, none⟩ = some (.slice A n c) := (HMk2.out.row.of_block hk3).cell (i := 0) (by have := HMk2.out.two; omega) |>.trans (congrArg some HMk2.out.r0); have hf3 := (HMk2.out.row.of_block hk3).frozen 0)
      all_goals
        have hrow3 := HMk2.out.row.of_block hk3
        have hgr3 := ((HGR2.out.alloc (.cells #[.int .i64 kd, .int .i64 a, .int .i64 b] 59)).drew).of_block (hg2.block w.heap.size (by simp; omega) (fun e => by have := HOLD.out _ e.symm; omega))
        have hD3 := ((HD2.out.alloc (.cells #[.int .i64 kd, .int .i64 a, .int .i64 b] 59)).drew).kept hg2 (fun e => HSEPM.out bm e.symm rfl)
        have hkp3 := (HKP2.out.below (W' := (W2.alloc (.cells #[.int .i64 kd, .int .i64 a, .int .i64 b] 59)).drew) (((Below.refl _ W2).alloc (Nat.le_refl _) _).drew)).step hg2 (fun g e => .inr (.inl e))
        have hbl3 := ((((Below.refl base W2).alloc (by omega) (.cells #[.int .i64 kd, .int .i64 a, .int .i64 b] 59)).drew)).trans hbl2
        have hsB : ((W2.alloc (.cells #[.int .i64 kd, .int .i64 a, .int .i64 b] 59)).drew).heap.size = W2.heap.size + 1 := by simp
        have hA2 : ∀ g, (Value.slice A2 (n + 1) c2).ownBlock = some g → g ≠ B := fun g hg => by
          rcases hat2 with h | h
          · exact HSEP.out g (h.symm.trans hg)
          · rw [h, hsB] at hg; injection hg with hg; omega
        have G4 := grown_setG w3 B 0 (.slice A2 (n + 1) c2)
        have hrow4 := hrow3.set 0 (.slice A2 (n + 1) c2)
        have hown4 := hown2.kept G4 (fun g hg e => hA2 g hg (by injection e))
        have hgr4 := hgr3.of_block (w' := w3.setCell ⟨B, 0, none⟩ (.slice A2 (n + 1) c2)) (Deep.blk_setCell_other _ _ _ _ (by show w.heap.size ≠ B; omega))
        have hD4 := hD3.kept G4 (by intro e; injection e with e; exact hbmB e)
        have hkp4 := hkp3.step G4 (fun g e => .inl (by injection e with e; exact e.symm))
        have hbl4 : Below base w (w3.setCell ⟨B, 0, none⟩ (.slice A2 (n + 1) c2)) := (HBEL2.out.trans hbl3).setCell (p := ⟨B, 0, none⟩) hB2 _
        obtain ⟨W4, hW4⟩ : ∃ W4, W4 = w3.setCell ⟨B, 0, none⟩ (.slice A2 (n + 1) c2) := ⟨_, rfl⟩
        rw [← hW4] at hrow4 hown4 hgr4 hD4 hkp4 hbl4 ⊢
        clear hW4 G4 hrow3 hgr3 hD3 hkp3 hbl3 hsB hk3 hc3 hf3 hown2 hg2 hat2 hbl2 hown g0 g1 g2 b0 b1 fb0 fb1 lB2 lg2
        have c1' : W4.cell? ⟨B, 1, none⟩ = some (.map (some bm)) := by rw [hrow4.cell (by have := HMk2.out.two; omega), if_neg (by omega), HMk2.out.r1]
        have g0 : W4.cell? ⟨w.heap.size, 0, none⟩ = some (.int .i64 kd) := hgr4.cell (i := 0) (by omega)
        have g1 : W4.cell? ⟨w.heap.size, 1, none⟩ = some (.int .i64 a) := hgr4.cell (i := 1) (by omega)
        have g2 : W4.cell? ⟨w.heap.size, 2, none⟩ = some (.int .i64 b) := hgr4.cell (i := 2) (by omega)
        have hD4d : W4.drew.ownsMap Try.prog 59 (plainElem Try.prog 3) bm m D := hD4.drew
        obtain ⟨w5, hrun, hD5, hg5⟩ := hD4d.update kG Try.underlying46 (by unfold maxLen; omega) (gkey hk ha hb) (plainElem_int (a := (n : Int)) Try.underlying3 (by simp [Lit.wf, IntKind.min, IntKind.max, IntKind.signed, IntKind.bits]; omega))
        have HROW4 := Lib.hid hrow4
        have HOWN4 := Lib.hid hown4
        have HBL4 := Lib.hid hbl4
        have HKP4 := Lib.hid hkp4
        have HD5 := Lib.hid hD5
        have HG5 := Lib.hid hg5
        have lB4 := hrow4.lt
        have hms : (Value.slice A2 (n + 1) c2).ownBlock ≠ some bm := fun e => by
          obtain ⟨cur, hcur⟩ := hown4.objG bm e
          obtain ⟨es, cl, ho, _⟩ := hD4
          rw [ho] at hcur; cases hcur
        have HMS := Lib.hid hms
        have HM4 : Hid (∃ es cl, W4.heap[bm]? = some (.map es cl)) := Lib.hid (by obtain ⟨es, cl, ho, _⟩ := hD4; exact ⟨es, cl, ho⟩)
        clear hrow4 hown4 hgr4 hD4 hkp4 hbl4 hD4d hD5 hg5 hms
        go_wp2_with fail
        go_region
        all_goals
          go_wp2_with fail
          go_ret
          have hD5 := HD5.out
          have hIs : IsMap D := by obtain ⟨es, cl, _, _, _, e⟩ := HD2.out; exact ⟨_, e⟩
          have e0 : plusG F n kd a b (3 * n) = kd := by unfold plusG; rw [if_neg (by omega), if_pos (by omega)]
          have e1 : plusG F n kd a b (3 * n + 1) = a := by unfold plusG; rw [if_neg (by omega), if_neg (by omega), if_pos (by omega)]
          have e2 : plusG F n kd a b (3 * n + 2) = b := by unfold plusG; rw [if_neg (by omega), if_neg (by omega), if_neg (by omega)]
          have hpl : ∀ q, q < 3 * n → plusG F n kd a b q = F q := fun q hq => by unfold plusG; rw [if_pos (by omega)]
          have hS' : ∀ x y z : Int, (Lit.int .i64 x).wf = true → (Lit.int .i64 y).wf = true → (Lit.int .i64 z).wf = true → has D (gk x y z) = true → ∃ i : Nat, i < n ∧ D.atKey (gk x y z) (.lit (.int .i64 0)) = .lit (.int .i64 (i : Nat)) ∧ plusG F n kd a b (3 * i) = x ∧ plusG F n kd a b (3 * i + 1) = y ∧ plusG F n kd a b (3 * i + 2) = z := fun x y z hx hy hz hh => by
            obtain ⟨i, hi, q0, q1, q2, q3⟩ := HS.out x y z hx hy hz hh
            exact ⟨i, hi, q0, by rw [hpl _ (by omega)]; exact q1, by rw [hpl _ (by omega)]; exact q2, by rw [hpl _ (by omega)]; exact q3⟩
          have hmapG := MapG.put (m := m + 1) (n := n) hk ha hb hS' hIs hD5 e0 e1 e2
          have hkeep5 := (HKP4.out.below (W' := W4.drew) ((Below.refl _ W4).drew)).step HG5.out (fun g e => by
            injection e with e
            rcases HBMK.out g e.symm with h | h
            · exact .inr (.inr (.inl h))
            · exact .inr (.inr (.inr h)))
          have hbel5 : Below base w w5 := HBL4.out.trans (((Below.refl base W4).drew).grown HG5.out (by have := HBL4.out.size; show base ≤ W4.heap.size; omega) (fun g e => by injection e with e; omega))
          refine ⟨n, n + 1, plusG F n kd a b, A2, c2, some bm, _, rfl, by omega, by omega, Nat.le_refl _, hpl, .inr rfl, e0, e1, e2, ⟨(HROW4.out.of_block (HG5.out.block B lB4 (by intro e; injection e with e; exact hbmB e.symm))), HM.out.two, HM.out.typ, HM.out.ge, if_pos rfl, (if_neg (by omega)).trans HMk2.out.r1, ?_, ?_⟩, fun j hj => (if_neg (by omega)).trans (HRK.out j hj), hbel5, hkeep5⟩
          · refine (HOWN4.out.drew.kept HG5.out (fun g hg e => HMS.out (hg.trans e))).congr fun q hq => ?_
            show cat (n * 3) _ _ q = Value.int .i64 (plusG F n kd a b q)
            unfold plusG
            by_cases h1 : q < n * 3
            · rw [cat_lt h1, if_pos h1]
            · rw [cat_ge (by omega), if_neg h1]
              by_cases h2 : q = n * 3
              · rw [if_pos h2, if_pos (by omega)]
              · rw [if_neg h2, if_neg (by omega)]
                by_cases h3 : q = n * 3 + 1
                · rw [if_pos h3, if_pos (by omega)]
                · rw [if_neg h3, if_neg (by omega)]
          · intro b' e
            injection e with e
            subst e
            exact ⟨hbb, m + 1, by omega, hmapG⟩
    · obtain ⟨i, hi, e0, e1, e2, e3⟩ := HS.out kd a b hk ha hb HTB.out.symm
      rw [HCC.out] at e0
      injection e0 with e0
      injection e0 with _ e0
      subst e0
      have E1 := Lib.hid e1
      have E2 := Lib.hid e2
      have E3 := Lib.hid e3
      clear e1 e2 e3
      go_wp2_with fail
      go_quiet (fail)
      go_wp2_with fail
      go_ret
      have hbd : Below W1.heap.size W1 (W1.drewN nq) := below_drewN (Below.refl _ W1) nq
      exact ⟨i, n, F, A, c, some bm, R1, rfl, hi, Nat.le_refl _, by omega, fun q _ => rfl, .inl rfl, E1.out, E2.out, E3.out, HMk.out.below hbd, HRK.out, below_drewN HBEL.out nq, HKP.out.below hbd⟩
end Go.Proofs.Ytklhbmlcpjlgiaa
