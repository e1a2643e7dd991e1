/- Orders that come to a round just if something is so. No condition. -/
import Derived.Test.YtmhicimjoidonaaWideOrdLaw
import Derived.Test.YtmhicimjoidonaaWideThen
namespace Go.Proofs.Ytmhicimjoidonaa
set_option linter.unusedVariables false
/-- m orders, no more than M, that come to the round r just if v -/
def OrdP (inn : Int) (v : (Nat → Bool) → Bool) (r M m : Nat) (F : Nat → Int) : Prop :=
  1 ≤ m ∧ m ≤ M ∧ okF F m ∧ (∀ k, k < m → 0 ≤ F (11 * k) ∧ F (11 * k) < inn) ∧ ∀ g x, x < 5 → rn F g m x = if v g = true then eF r x else (x : Int)
def Made (inn : Int) (v : (Nat → Bool) → Bool) (r M base : Nat) (e : Ending) (w' : World) : Prop :=
  ∃ A m c F, e = .returned (.slice A m c) ∧ Own w' base 43 11 A m c (m * 11) (fun q => .int .i64 (F q)) ∧ OrdP inn v r M m F
theorem cyc_id {a b : Nat} (h : cmpC a b = idC) : ∀ x, x < 5 → eF b (eF a x).toNat = (x : Int) := fun x hx => by
  have h1 := eF_cmp a b x hx
  rw [h, eF_id x hx] at h1
  exact h1.symm
/-- a round behind orders that come to the round back: it is the other way round -/
theorem OrdP.beh {inn : Int} {v : (Nat → Bool) → Bool} {r M J : Nat} {F : Nat → Int} (h : OrdP inn v (backC r) M (J + 1) F) (hr : cyc r = true) : OrdP inn (fun g => !(v g)) r M (J + 1) (behF F J r) := by
  obtain ⟨h1, h2, h3, h4, h5⟩ := h
  refine ⟨h1, h2, okF_beh h3 (cyc_perm hr), fun k hk => by rw [behF_old (by omega)]; exact h4 k hk, fun g x hx => ?_⟩
  rw [rn_beh h3 x hx]
  show eF r (rn F g (J + 1) x).toNat = _
  rw [h5 g x hx]
  show _ = if (!(v g)) = true then eF r x else (x : Int)
  generalize v g = u
  cases u
  · rw [if_neg (by decide), if_pos (by decide), Int.toNat_natCast]
  · rw [if_pos rfl, if_neg (by decide)]
    exact cyc_id (facts_of hr).2.2.2.2.2.2.1 x hx
/-- the list a behind the first k orders of b -/
def catO (m : Nat) (F G : Nat → Int) : Nat → Int := fun q => if q < m * 11 then F q else G (q - m * 11)
theorem catO_low {m : Nat} {F G : Nat → Int} {k : Nat} (hk : k < m) : noF (catO m F G) k = (fun j => catO m F G (11 * k + 1 + j)) ∧ (∀ j, j < 5 → noF (catO m F G) k j = noF F k j) ∧ (∀ j, j < 5 → yesF (catO m F G) k j = yesF F k j) ∧ catO m F G (11 * k) = F (11 * k) :=
  ⟨rfl, fun j hj => if_pos (by omega), fun j hj => if_pos (by omega), if_pos (by omega)⟩
theorem catO_high {m : Nat} {F G : Nat → Int} (k : Nat) : (∀ j, noF (catO m F G) (m + k) j = noF G k j) ∧ (∀ j, yesF (catO m F G) (m + k) j = yesF G k j) ∧ catO m F G (11 * (m + k)) = G (11 * k) :=
  ⟨fun j => by
    show catO m F G (11 * (m + k) + 1 + j) = G (11 * k + 1 + j)
    unfold catO
    rw [if_neg (by omega), show 11 * (m + k) + 1 + j - m * 11 = 11 * k + 1 + j by omega], fun j => by
    show catO m F G (11 * (m + k) + 6 + j) = G (11 * k + 6 + j)
    unfold catO
    rw [if_neg (by omega), show 11 * (m + k) + 6 + j - m * 11 = 11 * k + 6 + j by omega], by
    unfold catO
    rw [if_neg (by omega), show 11 * (m + k) - m * 11 = 11 * k by omega]⟩
theorem okF_cat {m n : Nat} {F G : Nat → Int} (hF : okF F m) (hG : okF G n) : okF (catO m F G) (m + n) := fun k hk => by
  by_cases e : k < m
  · obtain ⟨_, a, b, _⟩ := catO_low (F := F) (G := G) e
    exact ⟨perm_congr (fun i hi => (a i hi).symm) (hF k e).1, perm_congr (fun i hi => (b i hi).symm) (hF k e).2⟩
  · obtain ⟨j, rfl⟩ : ∃ j, k = m + j := ⟨k - m, by omega⟩
    obtain ⟨a, b, _⟩ := catO_high (m := m) (F := F) (G := G) j
    exact ⟨perm_congr (fun i hi => (a i).symm) (hG j (by omega)).1, perm_congr (fun i hi => (b i).symm) (hG j (by omega)).2⟩
theorem rn_cat_low {m : Nat} {F G : Nat → Int} {g : Nat → Bool} (hF : okF F m) : ∀ k, k ≤ m → ∀ i, i < 5 → rn (catO m F G) g k i = rn F g k i := by
  intro k
  induction k with
  | zero => intro _ i _; rfl
  | succ k ih =>
    intro hk i hi
    have hb := (rn_bd (F := F) (g := g) (k := k) fun j hj => hF j (by omega)).1 i hi
    obtain ⟨_, a, b, c⟩ := catO_low (F := F) (G := G) (show k < m by omega)
    show (if g (catO m F G (11 * k)).toNat then yesF (catO m F G) k else noF (catO m F G) k) (rn (catO m F G) g k i).toNat = (if g (F (11 * k)).toNat then yesF F k else noF F k) (rn F g k i).toNat
    rw [ih (by omega) i hi, c]
    by_cases e : g (F (11 * k)).toNat = true
    · rw [if_pos e, if_pos e]; exact b _ (by omega)
    · rw [if_neg e, if_neg e]; exact a _ (by omega)
theorem rn_cat {m : Nat} {F G : Nat → Int} {g : Nat → Bool} (hF : okF F m) : ∀ k i, i < 5 → rn (catO m F G) g (m + k) i = rn G g k (rn F g m i).toNat := by
  intro k
  induction k with
  | zero =>
    intro i hi
    have hb := (rn_bd (F := F) (g := g) (k := m) hF).1 i hi
    have h0 := rn_cat_low (G := G) (g := g) hF m (Nat.le_refl _) i hi
    rw [Nat.add_zero, h0]
    show rn F g m i = (((rn F g m i).toNat : Nat) : Int)
    omega
  | succ k ih =>
    intro i hi
    obtain ⟨a, b, c⟩ := catO_high (m := m) (F := F) (G := G) k
    show (if g (catO m F G (11 * (m + k))).toNat then yesF (catO m F G) (m + k) else noF (catO m F G) (m + k)) (rn (catO m F G) g (m + k) i).toNat = (if g (G (11 * k)).toNat then yesF G k else noF G k) (rn G g k (rn F g m i).toNat).toNat
    rw [ih i hi, c]
    by_cases e : g (G (11 * k)).toNat = true
    · rw [if_pos e, if_pos e]; exact b _
    · rw [if_neg e, if_neg e]; exact a _
/-- what lists come to: a round, just if v -/
def wv (v : Bool) (r : Nat) (x : Nat) : Nat := if v = true then enc r x else x
theorem wv_lt {v : Bool} {r x : Nat} (hx : x < 5) : wv v r x < 5 := by
  unfold wv
  split
  · exact enc_lt _ _
  · exact hx
theorem OrdP.at_ {inn : Int} {v : (Nat → Bool) → Bool} {r M m : Nat} {F : Nat → Int} (h : OrdP inn v r M m F) (g : Nat → Bool) {x : Nat} (hx : x < 5) : rn F g m x = ((wv (v g) r x : Nat) : Int) := by
  rw [h.2.2.2.2 g x hx]
  unfold wv
  cases v g <;> rfl
theorem enc_cmp (a b x : Nat) (hx : x < 5) : enc (cmpC a b) x = enc b (enc a x) := enc_cod (fun i => enc_lt _ _) x hx
theorem enc_of {a b x : Nat} (h : cmpC a b = idC) (hx : x < 5) : enc b (enc a x) = x := by
  rw [← enc_cmp a b x hx, h]
  have := eF_id x hx
  unfold eF at this
  omega
/-- two rounds, one behind the other, and both back -/
theorem OrdP.four {inn : Int} {va vb : (Nat → Bool) → Bool} {r M N m n p q : Nat} {F G H K : Nat → Int} (hr : cyc r = true) (hF : OrdP inn va (fC r) M m F) (hG : OrdP inn vb (sC r) N n G) (hH : OrdP inn va (backC (fC r)) M p H) (hK : OrdP inn vb (backC (sC r)) N q K) :
    OrdP inn (fun g => va g && vb g) r (2 * M + 2 * N) (m + n + p + q) (catO (m + n + p) (catO (m + n) (catO m F G) H) K) := by
  have ok2 := okF_cat hF.2.2.1 hG.2.2.1
  have ok3 := okF_cat ok2 hH.2.2.1
  have ok4 := okF_cat ok3 hK.2.2.1
  have := hF.1
  have := hF.2.1
  have := hG.2.1
  have := hH.2.1
  have := hK.2.1
  refine ⟨by omega, by omega, ok4, fun k hk => ?_, fun g x hx => ?_⟩
  · by_cases e3 : k < m + n + p
    · rw [(catO_low (G := K) e3).2.2.2]
      by_cases e2 : k < m + n
      · rw [(catO_low (G := H) e2).2.2.2]
        by_cases e1 : k < m
        · rw [(catO_low (G := G) e1).2.2.2]; exact hF.2.2.2.1 k e1
        · obtain ⟨j, rfl⟩ : ∃ j, k = m + j := ⟨k - m, by omega⟩
          rw [(catO_high (m := m) (F := F) (G := G) j).2.2]; exact hG.2.2.2.1 j (by omega)
      · obtain ⟨j, rfl⟩ : ∃ j, k = m + n + j := ⟨k - (m + n), by omega⟩
        rw [(catO_high (m := m + n) (F := catO m F G) (G := H) j).2.2]; exact hH.2.2.2.1 j (by omega)
    · obtain ⟨j, rfl⟩ : ∃ j, k = m + n + p + j := ⟨k - (m + n + p), by omega⟩
      rw [(catO_high (m := m + n + p) (F := catO (m + n) (catO m F G) H) (G := K) j).2.2]; exact hK.2.2.2.1 j (by omega)
  · rw [rn_cat ok3 q x hx, rn_cat ok2 p x hx, rn_cat hF.2.2.1 n x hx, hF.at_ g hx, Int.toNat_natCast, hG.at_ g (wv_lt hx), Int.toNat_natCast, hH.at_ g (wv_lt (wv_lt hx)), Int.toNat_natCast, hK.at_ g (wv_lt (wv_lt (wv_lt hx)))]
    obtain ⟨c1, c2, c3, c4, c5, i1, i2, co, _, _⟩ := facts_of hr
    have fb := (facts_of c2).2.2.2.2.2.1
    have sb := (facts_of c3).2.2.2.2.2.1
    show _ = if (va g && vb g) = true then eF r x else (x : Int)
    unfold wv
    generalize va g = u
    generalize vb g = v
    cases u <;> cases v <;> simp only [Bool.false_eq_true, if_false, if_true, Bool.and_true, Bool.and_false]
    · rw [enc_of sb hx]
    · rw [enc_of fb hx]
    · show ((enc _ _ : Nat) : Int) = ((enc r x : Nat) : Int)
      congr 1
      have h1 := congrArg (fun z => enc z x) co
      rw [enc_cmp _ _ x hx, enc_cmp _ _ x hx, enc_cmp _ _ x hx] at h1
      exact h1
end Go.Proofs.Ytmhicimjoidonaa
