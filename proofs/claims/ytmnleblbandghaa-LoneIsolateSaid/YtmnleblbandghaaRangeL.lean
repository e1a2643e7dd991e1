/- A loop over an iterator that writes a row of its own between its rounds and hands the row out each time. No condition. -/
import Derived.Test.YtmnleblbandghaaLib
import Derived.RangeFuncBox
import Derived.RangeFuncLeaves
import Derived.RangeFuncNested
import Derived.RangeFuncBound
import Derived.RangeFuncCalls
namespace Go.Proofs.Ytmnleblbandghaa
open Go.RowKit
set_option linter.unusedVariables false
/-- the blocks lie as they lay -/
def KpB (bs : List Nat) (A B : World) : Prop := ∀ b ∈ bs, B.heap[b]? = A.heap[b]?
theorem KpB.refl (bs : List Nat) (A : World) : KpB bs A A := fun _ _ => rfl
theorem KpB.t {bs : List Nat} {A B C : World} (h : KpB bs A B) (k : KpB bs B C) : KpB bs A C := fun b hb => (k b hb).trans (h b hb)
theorem KpB.put {bs : List Nat} {A : World} {l : Nat} {o : Obj} (h : ∀ b ∈ bs, b ≠ l) : KpB bs A (A.putObj l o) := fun b hb => World.putObj_heap_other (h b hb)
theorem KpB.below {bs : List Nat} {A B : World} {m : Nat} (h : Below m A B) (hb : ∀ b ∈ bs, b < m) : KpB bs A B := fun b k => h.block b (hb b k)
theorem KpB.cell {bs : List Nat} {A B : World} (h : KpB bs A B) {b : Nat} (hb : b ∈ bs) (o : Nat) : B.cell? ⟨b, o, none⟩ = A.cell? ⟨b, o, none⟩ := World.cell?_of_block (h b hb)
/-- how a round is left -/
def postL (B : Nat) (bs : List Nat) (I : World → Prop) (W : World) : Exit → Act → World → Prop
  | .normal, _, W' => KeepsFrom B W W' ∧ KpB bs W W' ∧ I W'
  | _, _, _ => False
theorem below_put {B : Nat} {W : World} {l : Nat} {o : Obj} (h : B ≤ l) (hB : B ≤ W.heap.size) : Below B W (W.putObj l o) :=
  (Below.refl B W).grown (grownBy_putObj' W l o) hB (fun k e => by cases e; exact h)
theorem keepsFrom_below {B : Nat} {W W' : World} (h : Below W.heap.size W W') : KeepsFrom B W W' :=
  ⟨h.size, fun k o _ hk _ => (h.block k (Array.getElem?_eq_some_iff.1 hk).1).trans hk⟩
/-- what the iterator owes: N rounds; at each its row, at the block that was new when it began, is as told -/
def SeqL (F : Fence) (n : Nat) (P : Program) (gf : Nat) (lb : Array Value) (bs : List Nat) (encs : Array Value) (rt : TypeId) (rn : Nat) (row : Nat → Nat → Value) (N : Nat) (w : World) : Prop :=
  ∀ (l : Nat) (J : Nat → World → Prop) (W : World), Below w.heap.size w W → W.heap.size = w.heap.size + 2 →
    (∀ k A B, J k A → Below (w.heap.size + 2) A B → J k B) →
    (∀ k W1, k < N → J k W1 → W1.rowIs (w.heap.size + 2) rt rn (row k) → YieldAt F (n - 1) P l encs W1 fun e W' =>
      e = .returned (.bool true) ∧ J (k + 1) W' ∧ KpB ((w.heap.size + 2) :: bs) W1 W') →
    J 0 W → CallsIn F n P gf (#[.func (.yield l) #[] #[]] ++ lb) W fun e W' => (∃ v, e = .returned v) ∧ J N W'
variable {F : Fence} {n : Nat} {P : Program}
theorem wpIn_rangeL {g : Operand} {ps : Array Tmp} {assign body : Code} {Q : Exit → Act → World → Prop} {a : Act} {w : World}
    (hro : F.round = none) (h1 : 1 ≤ n) {gf : Nat} {lb : Array Value} (hg : a.eval g = .func (.func gf) #[] lb) (hFg : F.fn gf) (eg : ∀ args w, (callFunc gf args).run P w = .ok (.enter gf args) w)
    (bs : List Nat) (hbs : ∀ b ∈ bs, b < w.heap.size) {encs : Array Value} {rt : TypeId} {rn : Nat} {row : Nat → Nat → Value} {N : Nat} (hseq : SeqL F (n - 1) P gf lb bs encs rt rn row N w) (hps : encs.size = ps.size)
    (I : Nat → World → Prop) (hI : ∀ k A B, I k A → Below w.heap.size A B → I k B) (h0 : I 0 w) (a₁ : Act)
    (hassign : ∀ (l : Nat) (W : World) (K : Act → World → Prop), K a₁ W →
      assign.wpIn (F.inRound l) (n - 1 - 1) P (Exit.then K (fun _ _ _ => False)) { tmps := (ps.zip encs).foldl (fun t (p, v) => t.setIfInBounds p v) a.tmps, defers := [] } W)
    (hbody : ∀ (l k : Nat) (W : World), k < N → I k W → w.heap.size + 2 < W.heap.size → W.rowIs (w.heap.size + 2) rt rn (row k) → body.wpIn (F.inRound l) (n - 1 - 1) P (postL w.heap.size ((w.heap.size + 2) :: bs) (I (k + 1)) W) a₁ W)
    (hdone : ∀ (D : Nat) (W : World), w.heap.size ≤ D → I N W → W.heap[D]? = some (.deferred (some [])) → Q .normal { a with defers := { target := .collected D, args := #[] } :: a.defers } W) :
    (Code.rangeFunc g ps assign body).wpIn F n P Q a w := by
  refine wpIn_rangeFunc ?_
  intro fn hfn
  rw [hro]
  obtain ⟨rec, hrec⟩ : ∃ rec : LoopState → Option Code → Loop, rec = fun st pe => { state := st, pending := pe, fn, tmps := a.tmps, params := ps, assign, body, defers := w.heap.size } := ⟨_, rfl⟩
  obtain ⟨W1, hW1⟩ : ∃ W1, (w.alloc (.deferred (some []))).alloc (.loop (rec .ready none)) = W1 := ⟨_, rfl⟩
  have hL1 : W1.heap[w.heap.size + 1]? = some (.loop (rec .ready none)) := by
    rw [← hW1]; have := World.alloc_heap_new (w.alloc (.deferred (some []))) (.loop (rec .ready none)); rwa [World.size_alloc] at this
  have hK1 : W1.heap[w.heap.size]? = some (.deferred (some [])) := by
    rw [← hW1]; exact (Below.heap_alloc _ _ _ (by simp)).trans (World.alloc_heap_new w _)
  have hb1 : Below w.heap.size w W1 := by
    rw [← hW1]; exact ((Below.refl _ w).alloc (Nat.le_refl _) _).alloc (by simp) _
  have hs1 : W1.heap.size = w.heap.size + 2 := by rw [← hW1]; simp
  have hI1 : I 0 W1 := hI 0 w W1 h0 hb1
  refine ⟨w.heap.size + 1, [{ target := .collected w.heap.size, args := #[] }], W1, { target := .fn (.func gf) lb, args := #[.func (.yield (w.heap.size + 1)) #[] #[]] }, W1, gf,
    #[.func (.yield (w.heap.size + 1)) #[] #[]] ++ lb, W1, ?_, ?_, ?_, ?_, fun _ => h1, ?_⟩
  · rw [← hW1, hrec]; exact run_enterLoop_outer _ _ _ _ _
  · simp only [resolve, hg]
    simp [go_sem]
  · intro f' hf'; simp [Target.leads] at hf'; subst hf'; exact hFg
  · simp [invoke, go_sem, eg]
  · refine (hseq (w.heap.size + 1)
      (fun k W => I k W ∧ W.heap[w.heap.size + 1]? = some (.loop (rec .ready none)) ∧ W.heap[w.heap.size]? = some (.deferred (some [])))
      W1 hb1 hs1
      (fun k A B hs hb => ⟨hI k A B hs.1 (hb.mono (by omega)), (hb.block _ (by omega)).trans hs.2.1, (hb.block _ (by omega)).trans hs.2.2⟩)
      ?_ ⟨hI1, hL1, hK1⟩).mono ?_
    · rintro k W hk ⟨hi, hl, hkk⟩ hrow
      have hlt : w.heap.size + 1 < W.heap.size := (Array.getElem?_eq_some_iff.1 hl).1
      have hy := run_yield (P := P) (args := encs) hl (by rw [hrec]; exact hps)
      rw [hrec] at hy
      refine ⟨fn, _, assign, body, hy, roundIn_of_wpIn hfn (hassign _ W _ ⟨_, run_beginRound hl (by rw [hrec]), ?_⟩)⟩
      have hl2 : (W.putObj (w.heap.size + 1) (.loop { rec .ready none with state := .busy })).heap[w.heap.size + 1]? = some (.loop { rec .ready none with state := .busy }) := World.putObj_heap_same hlt
      have hk2 : (W.putObj (w.heap.size + 1) (.loop { rec .ready none with state := .busy })).heap[w.heap.size]? = some (.deferred (some [])) := (World.putObj_heap_other (by omega)).trans hkk
      have hr2 : (W.putObj (w.heap.size + 1) (.loop { rec .ready none with state := .busy })).rowIs (w.heap.size + 2) rt rn (row k) := hrow.of_block (World.putObj_heap_other (by omega))
      have hne : ∀ b ∈ (w.heap.size + 2) :: bs, b ≠ w.heap.size + 1 := fun b hb => by
        rcases List.mem_cons.1 hb with rfl | h
        · omega
        · have := hbs b h; omega
      have hlt2 : w.heap.size + 2 < W.heap.size := hrow.lt
      refine wpIn_mono (hbody _ k _ hk (hI k _ _ hi (below_put (by omega) (by omega))) (by rw [World.putObj_size]; exact hlt2) hr2) ?_
      rintro e a3 W3 hp
      cases e with
      | normal =>
        obtain ⟨hk3, hkp3, hi3⟩ := hp
        have hl3 := hk3.same _ _ (by omega) hl2 rfl
        have hk4 := hk3.same _ _ (Nat.le_refl _) hk2 rfl
        have hr := run_endRound (P := P) none hl3
        rw [hrec] at hr
        refine ⟨_, _, hr, rfl, ⟨hI _ _ _ hi3 (below_put (by omega) (by have := (Array.getElem?_eq_some_iff.1 hl3).1; omega)), ?_, (World.putObj_heap_other (by omega)).trans hk4⟩, ((KpB.put hne).t hkp3).t (KpB.put hne)⟩
        rw [hrec]
        exact World.putObj_heap_same (Array.getElem?_eq_some_iff.1 hl3).1
      | ret => exact hp.elim
      | exit id => exact hp.elim
      | goto t => exact hp.elim
      | panic ch => exact hp.elim
      | outgrown => exact hp.elim
    · rintro e W2 ⟨⟨v, rfl⟩, hi, hl, hk⟩
      refine ⟨none, _, by have := run_endLoop (P := P) hl (by rw [hrec]; simp); rw [hrec] at this; exact this, hdone _ _ (Nat.le_refl _) (hI _ _ _ hi (below_put (by omega) (by have := (Array.getElem?_eq_some_iff.1 hl).1; omega))) ((World.putObj_heap_other (by omega)).trans hk)⟩
end Go.Proofs.Ytmnleblbandghaa
