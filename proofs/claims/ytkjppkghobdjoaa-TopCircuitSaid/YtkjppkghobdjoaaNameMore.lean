/- An additional clause does not increase the number of satisfying assignments. No condition. -/
import Derived.Test.YtkjppkghobdjoaaNameIs
namespace Go.Proofs.Ytkjppkghobdjoaa.nameMore
open Go.ChangeShapes Go.WideShapes Go.ChangeAt Go.RowKit
set_option linter.unusedVariables false
theorem EC : Elem Try.prog 23 43 2 48 := Elem.of Try.underlying23 (by kernel_rfl : (Try.prog.info? 43).map (fun i => (i.zero, i.size, i.bytes)) = some (some (.agg #[.slice none 0 0, .slice none 0 0]), 2, 48)) rfl (by omega)
/-- one more -/
def snoc (Y : Nat → SI) (y : SI) (n : Nat) : Nat → SI := fun k => if k < n then Y k else y
theorem snoc_lt {Y : Nat → SI} {y : SI} {n k : Nat} (h : k < n) : snoc Y y n k = Y k := if_pos h
theorem snoc_eq {Y : Nat → SI} {y : SI} {n : Nat} : snoc Y y n n = y := if_neg (by omega)
theorem clE_lt {vars : Int} {Y N : Nat → SI} {y z : SI} {n k : Nat} (h : k < n) : clE vars (snoc Y y n) (snoc N z n) k = clE vars Y N k := by
  unfold clE; rw [snoc_lt h, snoc_lt h]
theorem wr_more {vars : Int} {Y N : Nat → SI} {y z : SI} {n : Nat} (h : wrC vars 8 (n + 1) (snoc Y y n) (snoc N z n) = 0) : wrC vars 8 n Y N = 0 := by
  unfold wrC at h ⊢
  by_cases e : vars < 0 ∨ 8 < vars ∨ 200 < n + 1
  · rw [if_pos e] at h; omega
  · rw [if_neg e] at h
    rw [if_neg (by omega)]
    exact fstE_zero.2 fun k hk => by rw [← clE_lt (Y := Y) (N := N) (y := y) (z := z) hk]; exact fstE_zero.1 h k (by omega)
theorem is_more {Y N : Nat → SI} {y z : SI} {n : Nat} {h : Nat → Bool} (e : isC (n + 1) (snoc Y y n) (snoc N z n) h = true) : isC n Y N h = true :=
  isC_iff.2 fun k hk => by
    have := isC_iff.1 e k (by omega)
    unfold holdsC at this ⊢
    rw [snoc_lt hk, snoc_lt hk] at this
    exact this
theorem cntB_mono {p q : Nat → Bool} (h : ∀ s, p s = true → q s = true) (k : Nat) : cntB p k ≤ cntB q k := by
  induction k with
  | zero => exact Nat.le_refl _
  | succ k ih =>
    simp only [cntB]
    cases e : p k with
    | false => simp only [Bool.toNat_false]; have := Nat.zero_le (q k).toNat; omega
    | true => rw [h k e]; omega
theorem cntB_all {p : Nat → Bool} (h : ∀ s, p s = true) (k : Nat) : cntB p k = k := by
  induction k with
  | zero => rfl
  | succ k ih => simp only [cntB]; rw [ih, h k]; rfl
theorem many_more (n : Nat) (Y N : Nat → SI) (y z : SI) (V : Nat) : manyC (n + 1) (snoc Y y n) (snoc N z n) V ≤ manyC n Y N V := cntB_mono (fun s h => is_more h) _
theorem many_none (Y N : Nat → SI) (V : Nat) : manyC 0 Y N V = 2 ^ V := cntB_all (fun s => isC_iff.2 fun k hk => absurd hk (Nat.not_lt_zero _)) _
theorem snoc_rd {w : World} {A : Option Addr} {Y N : Nat → SI} {y z : SI} {n : Nat} {C0 D : Nat → Value} (h : Rd w A ((n + 1) * 2) (cat (n * 2) (cat 0 C0 (clC Y N)) D)) (h0 : D 0 = y.val) (h1 : D 1 = z.val) : Rd w A ((n + 1) * 2) (clC (snoc Y y n) (snoc N z n)) :=
  h.congr fun q hq => by
    by_cases e : q < n * 2
    · rw [cat_lt e, cat_ge (Nat.zero_le _), Nat.sub_zero]
      unfold clC; rw [snoc_lt (by omega), snoc_lt (by omega)]
    · rw [cat_ge (by omega)]
      by_cases e0 : q = n * 2
      · subst e0; rw [clC_0, snoc_eq, Nat.sub_self, h0]
      · obtain rfl : q = n * 2 + 1 := by omega
        rw [clC_1, snoc_eq, Nat.add_sub_cancel_left, h1]
def pr (y z : SI) (q : Nat) : Value := if q = 0 then y.val else z.val
theorem pr_one (y z : SI) (q : Nat) : (pr y z q).oneCell' = true := by unfold pr; split <;> rfl
theorem rdp (W : World) (N : Nat) (hN : W.heap.size = N) (y z : SI) (e : TypeId) : Rd (W.alloc (.cells #[.slice y.A y.n y.c, .slice z.A z.n z.c] e)) (some ⟨N, 0, none⟩) 2 (pr y z) := by
  subst hN
  refine Rd.of_row (World.rowIs_alloc W _ e _ fun i hi => ?_) (Nat.le_refl 2)
  have : i < 2 := hi
  match i, this with
  | 0, _ => rfl
  | 1, _ => rfl
theorem Rd.grown {w w' : World} {row : Option Nat} {A : Option Addr} {n : Nat} {C : Nat → Value} (h : Rd w A n C) (hg : w.grownBy w' row) (hne : ∀ b off, A = some ⟨b, off, none⟩ → some b ≠ row) : Rd w' A n C := fun hn => by
  obtain ⟨b, off, e, hb, hc⟩ := h hn
  exact ⟨b, off, e, by have := hg.size; omega, fun i hi => (World.cell?_of_block (hg.block b hb (hne b off e))).trans (hc i hi)⟩
theorem snoc_cls {w w' : World} {A A' : Option Addr} {n : Nat} {Y N : Nat → SI} {y z : SI} (h : Cls w A n Y N) (hy : y.good w) (hz : z.good w) (hb : Below w.heap.size w w') (hr : Rd w' A' ((n + 1) * 2) (clC (snoc Y y n) (snoc N z n))) : Cls w' A' (n + 1) (snoc Y y n) (snoc N z n) :=
  ⟨hr, fun k hk => by
    unfold snoc
    split
    · exact (h.below hb).good k (by assumption)
    · exact ⟨hy.below hb, hz.below hb⟩⟩
theorem wrap8 {V : Nat} (h : V ≤ 8) : wrap64 ((2 : Int) ^ V) = 2 ^ V := by
  obtain ⟨p0, p1, _, _⟩ := pow8 h
  exact IntWalk.wrap64_in _ ⟨by omega, by omega⟩
theorem more1 {vars : Int} {n : Nat} {Y N : Nat → SI} {y z : SI} (h : wrC vars 8 n Y N ≠ 0) : mnC vars n Y N = 0 ∧ wrC vars 8 (n + 1) (snoc Y y n) (snoc N z n) ≠ 0 ∧ mnC vars (n + 1) (snoc Y y n) (snoc N z n) = 0 := by
  have h2 : wrC vars 8 (n + 1) (snoc Y y n) (snoc N z n) ≠ 0 := fun e => h (wr_more e)
  exact ⟨if_neg h, h2, if_neg h2⟩
theorem more3 {vars : Int} {n : Nat} {Y N : Nat → SI} {y z : SI} (h : wrC vars 8 (n + 1) (snoc Y y n) (snoc N z n) = 0) : (0 ≤ vars ∧ vars ≤ 8) ∧ 0 ≤ mnC vars (n + 1) (snoc Y y n) (snoc N z n) ∧ mnC vars (n + 1) (snoc Y y n) (snoc N z n) ≤ mnC vars n Y N ∧ (n = 0 → mnC vars n Y N = 2 ^ vars.toNat) := by
  have h1 := wr_more h
  obtain ⟨⟨v0, v8, _⟩, _⟩ := wrC_zero h1
  unfold mnC
  rw [if_pos h, if_pos h1]
  have := many_more n Y N y z vars.toNat
  refine ⟨⟨v0, v8⟩, by omega, by omega, fun e => ?_⟩
  subst e
  rw [many_none]; simp
end Go.Proofs.Ytkjppkghobdjoaa.nameMore
