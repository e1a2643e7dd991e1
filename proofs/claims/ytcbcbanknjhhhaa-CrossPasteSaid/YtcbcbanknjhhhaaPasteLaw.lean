/- Two runs with the same crossings of a border, pasted together at it. No condition. -/
import Derived.Test.YtcbcbanknjhhhaaCrossAll
namespace Go.Proofs.Ytcbcbanknjhhhaa
open Go.ChangeShapes Go.WideShapes Go.ChangeAt Go.RowKit
set_option linter.unusedVariables false
def sd (p h : Int) : Bool := decide (p ≤ h)
theorem sd_true {p h : Int} : sd p h = true ↔ p ≤ h := by unfold sd; rw [decide_eq_true_eq]
theorem sd_false {p h : Int} : sd p h = false ↔ h < p := by unfold sd; rw [decide_eq_false_iff_not]; omega
/-- signs and state that may be -/
def Gv (n Y : Nat) (c : Cf) : Prop := ∀ x, 0 ≤ c.f x ∧ c.f x < Y
theorem Gv.rule {n Y : Nat} {T : Nat → Nat → Int} {c : Cf} (g : Gt n Y T) (h : Gv n Y c) (hs : c.s < n) : (0 ≤ ruW T c ∧ ruW T c < Y) ∧ (-1 ≤ ruM T c ∧ ruM T c ≤ 1) ∧ (0 ≤ ruN T c ∧ ruN T c ≤ n) := by
  have := h c.h
  exact g c.s hs _ (by omega)
theorem Gv.stp {n Y : Nat} {T : Nat → Nat → Int} {c : Cf} (g : Gt n Y T) (h : Gv n Y c) (hs : c.s < n) : Gv n Y (stp T c) := fun x => by
  obtain ⟨r0, _, _⟩ := h.rule g hs
  show 0 ≤ (if x = c.h then ruW T c else c.f x) ∧ (if x = c.h then ruW T c else c.f x) < _
  by_cases e : x = c.h
  · rw [if_pos e]; exact r0
  · rw [if_neg e]; exact h x
theorem Gv.it {n Y : Nat} {T : Nat → Nat → Int} {c : Cf} (g : Gt n Y T) (h : Gv n Y c) : ∀ d, (∀ j, j < d → (itC T j c).s < n) → Gv n Y (itC T d c) := by
  intro d
  induction d with
  | zero => intro _; exact h
  | succ d ih => intro hj; exact (ih fun j hj' => hj j (by omega)).stp g (hj d (by omega))
/-- what goes over the border p -/
def bcs (p : Int) (T : Nat → Nat → Int) (c : Cf) : Nat → List Int
  | 0 => []
  | d + 1 => if sd p (itC T d c).h = sd p (itC T (d + 1) c).h then bcs p T c d else bcs p T c d ++ [((itC T (d + 1) c).s : Int)]
theorem crs_bcs {n Y : Nat} {T : Nat → Nat → Int} {c : Cf} {m q : Nat} (g : Gt n Y T) (hc : Gv n Y c) (hq : q < m) : ∀ d, (∀ j, j < d → (itC T j c).s < n) → crs m T c d q = bcs q T c d := by
  intro d
  induction d with
  | zero => intro _; rfl
  | succ d ih =>
    intro hj
    have i1 := ih fun j hj' => hj j (by omega)
    obtain ⟨_, r1, _⟩ := (hc.it g d fun j hj' => hj j (by omega)).rule g (hj d (by omega))
    have hh : (itC T (d + 1) c).h = (itC T d c).h + ruM T (itC T d c) := rfl
    show crU m (crs m T c d) (itC T d c).h (itC T (d + 1) c).h (itC T (d + 1) c).s q = if _ then bcs q T c d else bcs q T c d ++ _
    unfold crU
    by_cases e : sd q (itC T d c).h = sd q (itC T (d + 1) c).h
    · rw [if_pos e, if_neg ?_, i1]
      rintro ⟨a1, a2, _⟩
      rw [hh] at a1 a2 e
      cases e1 : sd q (itC T d c).h
      · rw [e1] at e
        have := sd_false.1 e1; have := sd_false.1 e.symm
        split at a2 <;> omega
      · rw [e1] at e
        have := sd_true.1 e1; have := sd_true.1 e.symm
        split at a2 <;> omega
    · rw [if_neg e, if_pos ?_, i1]
      rw [hh] at e ⊢
      cases e1 : sd q (itC T d c).h
      · have e2 : sd q ((itC T d c).h + ruM T (itC T d c)) = true := by
          cases e2 : sd q ((itC T d c).h + ruM T (itC T d c))
          · rw [e1, e2] at e; exact absurd rfl e
          · rfl
        have := sd_false.1 e1; have := sd_true.1 e2
        exact ⟨by omega, by rw [if_pos (by omega)]; omega, hq⟩
      · have e2 : sd q ((itC T d c).h + ruM T (itC T d c)) = false := by
          cases e2 : sd q ((itC T d c).h + ruM T (itC T d c))
          · rfl
          · rw [e1, e2] at e; exact absurd rfl e
        have := sd_true.1 e1; have := sd_false.1 e2
        exact ⟨by omega, by rw [if_neg (by omega)]; omega, hq⟩
theorem sd_mv (p h b : Int) : sd (p + b) (h + b) = sd p h := by
  cases e : sd p h
  · rw [sd_false] at e ⊢; omega
  · rw [sd_true] at e ⊢; omega
theorem bcs_mv (p b : Int) (T : Nat → Nat → Int) (c : Cf) (d : Nat) : bcs (p + b) T (mvC b c) d = bcs p T c d := by
  induction d with
  | zero => rfl
  | succ d ih =>
    have e : ∀ j, sd (p + b) (itC T j (mvC b c)).h = sd p (itC T j c).h := fun j => by rw [mvC_it]; exact sd_mv _ _ _
    have e2 : (itC T (d + 1) (mvC b c)).s = (itC T (d + 1) c).s := by rw [mvC_it]; rfl
    show (if sd (p + b) (itC T d (mvC b c)).h = sd (p + b) (itC T (d + 1) (mvC b c)).h then bcs (p + b) T (mvC b c) d else bcs (p + b) T (mvC b c) d ++ [((itC T (d + 1) (mvC b c)).s : Int)]) = _
    rw [e, e, e2, ih]; rfl
theorem bcs_prefix (p : Int) (T : Nat → Nat → Int) (c : Cf) {j : Nat} : ∀ d, j ≤ d → bcs p T c j <+: bcs p T c d := by
  intro d
  induction d with
  | zero => intro h; rw [show j = 0 by omega]; exact List.prefix_refl _
  | succ d ih =>
    intro h
    by_cases e : j = d + 1
    · subst e; exact List.prefix_refl _
    · refine (ih (by omega)).trans ?_
      show bcs p T c d <+: if _ then bcs p T c d else bcs p T c d ++ _
      split
      · exact List.prefix_refl _
      · exact List.prefix_append _ _
/-- the next crossing -/
theorem next_cross {n Y : Nat} {T : Nat → Nat → Int} {c : Cf} {p : Int} (g : Gt n Y T) (hc : Gv n Y c) {D : Nat} (hD : ∀ j, j < D → (itC T j c).s < n) (σ : Bool) :
    ∀ (k j : Nat), D - j = k → j ≤ D → sd p (itC T j c).h = σ → (bcs p T c j).length < (bcs p T c D).length →
    ∃ j', j < j' ∧ j' ≤ D ∧ (itC T j' c).h = (if σ then p - 1 else p) ∧ bcs p T c j' = bcs p T c j ++ [((itC T j' c).s : Int)] ∧ ∀ x, sd p x ≠ σ → (itC T j' c).f x = (itC T j c).f x := by
  intro k
  induction k with
  | zero =>
    intro j hk hj hs hl
    have : j = D := by omega
    subst this; omega
  | succ k ih =>
    intro j hk hj hs hl
    have hjD : j < D := by omega
    obtain ⟨_, r1, _⟩ := (hc.it g j fun i hi => hD i (by omega)).rule g (hD j hjD)
    have hh : (itC T (j + 1) c).h = (itC T j c).h + ruM T (itC T j c) := rfl
    have hf : ∀ x, sd p x ≠ σ → (itC T (j + 1) c).f x = (itC T j c).f x := fun x hx => by
      show (if x = (itC T j c).h then ruW T (itC T j c) else (itC T j c).f x) = _
      rw [if_neg]
      intro e; rw [e] at hx; exact hx hs
    have hb : bcs p T c (j + 1) = if sd p (itC T j c).h = sd p (itC T (j + 1) c).h then bcs p T c j else bcs p T c j ++ [((itC T (j + 1) c).s : Int)] := rfl
    by_cases e : sd p (itC T j c).h = sd p (itC T (j + 1) c).h
    · rw [if_pos e] at hb
      obtain ⟨j', a1, a2, a3, a4, a5⟩ := ih (j + 1) (by omega) hjD (by rw [← e]; exact hs) (by rw [hb]; exact hl)
      exact ⟨j', by omega, a2, a3, by rw [a4, hb], fun x hx => by rw [a5 x hx, hf x hx]⟩
    · rw [if_neg e] at hb
      refine ⟨j + 1, by omega, hjD, ?_, hb, hf⟩
      rw [hs] at e
      cases σ with
      | true =>
        have h1 := sd_true.1 hs
        have h2 : sd p (itC T (j + 1) c).h = false := by
          cases h2 : sd p (itC T (j + 1) c).h
          · rfl
          · rw [h2] at e; exact absurd rfl e
        have := sd_false.1 h2
        show _ = p - 1
        omega
      | false =>
        have h1 := sd_false.1 hs
        have h2 : sd p (itC T (j + 1) c).h = true := by
          cases h2 : sd p (itC T (j + 1) c).h
          · rw [h2] at e; exact absurd rfl e
          · rfl
        have := sd_true.1 h2
        show _ = p
        omega
/-- the pasted run at one time: where it is in each of the two -/
structure Pst (T : Nat → Nat → Int) (p : Int) (U : Bool → Cf) (D : Bool → Nat) (c : Cf) (ix : Bool → Nat) (σ : Bool) : Prop where
  le : ∀ τ, ix τ ≤ D τ
  f : ∀ x, c.f x = (itC T (ix (sd p x)) (U (sd p x))).f x
  side : sd p c.h = σ
  s : c.s = (itC T (ix σ) (U σ)).s
  h : c.h = (itC T (ix σ) (U σ)).h
  other : sd p (itC T (ix !σ) (U !σ)).h = σ
  len : (bcs p T (U σ) (ix σ)).length = (bcs p T (U !σ) (ix !σ)).length
theorem paste_step {n Y : Nat} {T : Nat → Nat → Int} {p : Int} {U : Bool → Cf} {D : Bool → Nat} (g : Gt n Y T) (hU : ∀ σ, Gv n Y (U σ)) (hD : ∀ σ j, j < D σ → (itC T j (U σ)).s < n) (hend : ∀ σ, n ≤ (itC T (D σ) (U σ)).s)
    (hl : ∀ σ, bcs p T (U σ) (D σ) = bcs p T (U !σ) (D !σ)) {c : Cf} {ix : Bool → Nat} {σ : Bool} (hp : Pst T p U D c ix σ) (hs : c.s < n) : ∃ ix' σ', Pst T p U D (stp T c) ix' σ' := by
  obtain ⟨le, f, side, s, h, other, len⟩ := hp
  have hlt : ix σ < D σ := by
    by_cases e : ix σ = D σ
    · have := hend σ; rw [s, e] at hs; omega
    · have := le σ; omega
  obtain ⟨A, hA⟩ : ∃ A, A = itC T (ix σ) (U σ) := ⟨_, rfl⟩
  have hA1 : itC T (ix σ + 1) (U σ) = stp T A := by rw [hA]; rfl
  rw [← hA] at s h
  have hgA : Gv n Y A := by rw [hA]; exact (hU σ).it g _ fun j hj => hD σ j (by omega)
  have hread : c.f c.h = A.f A.h := by rw [f c.h, side, ← hA, h]
  have eW : ruW T c = ruW T A := by unfold ruW; rw [hread, s]
  have eM : ruM T c = ruM T A := by unfold ruM; rw [hread, s]
  have eN : ruN T c = ruN T A := by unfold ruN; rw [hread, s]
  obtain ⟨_, r1, _⟩ := hgA.rule g (by rw [← s]; exact hs)
  have hs1 : (stp T c).s = (stp T A).s := by show (ruN T c).toNat = (ruN T A).toNat; rw [eN]
  have hh1 : (stp T c).h = (stp T A).h := by show c.h + ruM T c = A.h + ruM T A; rw [eM, h]
  have hf1 : ∀ x, sd p x = σ → (stp T c).f x = (stp T A).f x := fun x hx => by
    show (if x = c.h then ruW T c else c.f x) = (if x = A.h then ruW T A else A.f x)
    rw [eW, h, f x, hx, ← hA]
  have hf2 : ∀ x, sd p x = (!σ) → (stp T c).f x = (itC T (ix !σ) (U !σ)).f x := fun x hx => by
    show (if x = c.h then ruW T c else c.f x) = _
    rw [if_neg, f x, hx]
    intro e; rw [e, side] at hx; cases σ <;> cases hx
  have hbs : bcs p T (U σ) (ix σ + 1) = if sd p (itC T (ix σ) (U σ)).h = sd p (itC T (ix σ + 1) (U σ)).h then bcs p T (U σ) (ix σ) else bcs p T (U σ) (ix σ) ++ [((itC T (ix σ + 1) (U σ)).s : Int)] := rfl
  rw [hA1, ← hA, ← h, side] at hbs
  have hcase : ∀ x, sd p x = σ ∨ sd p x = (!σ) := fun x => by cases sd p x <;> cases σ <;> simp
  have hnn : ∀ τ : Bool, τ ≠ (!τ) := fun τ => by cases τ <;> simp
  by_cases e : sd p (stp T A).h = σ
  · rw [if_pos e.symm] at hbs
    refine ⟨fun τ => if τ = σ then ix σ + 1 else ix τ, σ, fun τ => ?_, fun x => ?_, by rw [hh1]; exact e, ?_, ?_, ?_, ?_⟩
    · show (if τ = σ then ix σ + 1 else ix τ) ≤ D τ
      by_cases et : τ = σ
      · subst et; rw [if_pos rfl]; omega
      · rw [if_neg et]; exact le τ
    · rcases hcase x with hx | hx
      · rw [hx, hf1 x hx]
        show _ = (itC T (if σ = σ then ix σ + 1 else ix σ) (U σ)).f x
        rw [if_pos rfl, hA1]
      · rw [hx, hf2 x hx]
        show _ = (itC T (if (!σ) = σ then ix σ + 1 else ix !σ) (U !σ)).f x
        rw [if_neg (Ne.symm (hnn σ))]
    · show _ = (itC T (if σ = σ then ix σ + 1 else ix σ) (U σ)).s
      rw [if_pos rfl, hA1, hs1]
    · show _ = (itC T (if σ = σ then ix σ + 1 else ix σ) (U σ)).h
      rw [if_pos rfl, hA1, hh1]
    · show sd p (itC T (if (!σ) = σ then ix σ + 1 else ix !σ) (U !σ)).h = σ
      rw [if_neg (Ne.symm (hnn σ))]; exact other
    · show (bcs p T (U σ) (if σ = σ then ix σ + 1 else ix σ)).length = (bcs p T (U !σ) (if (!σ) = σ then ix σ + 1 else ix !σ)).length
      rw [if_pos rfl, if_neg (Ne.symm (hnn σ)), hbs]; exact len
  · rw [if_neg (Ne.symm e)] at hbs
    have e' : sd p (stp T A).h = (!σ) := (hcase _).resolve_left e
    have hpre := bcs_prefix p T (U σ) (j := ix σ + 1) (D σ) hlt
    have hlen : (bcs p T (U σ) (ix σ + 1)).length = (bcs p T (U !σ) (ix !σ)).length + 1 := by rw [hbs, List.length_append, len]; rfl
    have hlt2 : (bcs p T (U !σ) (ix !σ)).length < (bcs p T (U !σ) (D !σ)).length := by
      have := hpre.length_le
      rw [hl σ] at this
      omega
    obtain ⟨j', a1, a2, a3, a4, a5⟩ := next_cross g (hU !σ) (hD !σ) σ _ (ix !σ) rfl (le _) other hlt2
    have hpre2 := bcs_prefix p T (U !σ) (j := j') (D !σ) a2
    rw [← hl σ] at hpre2
    have heq : bcs p T (U σ) (ix σ + 1) = bcs p T (U !σ) j' := by
      have hl2 : (bcs p T (U σ) (ix σ + 1)).length = (bcs p T (U !σ) j').length := by rw [hlen, a4, List.length_append]; rfl
      exact (List.prefix_of_prefix_length_le hpre hpre2 (Nat.le_of_eq hl2)).eq_of_length hl2
    have hst : (stp T A).s = (itC T j' (U !σ)).s := by
      have h3 := heq
      rw [hbs, a4] at h3
      have := (List.append_inj' h3 rfl).2
      simp only [List.cons.injEq, and_true] at this
      omega
    have hhd : (stp T A).h = (if σ then p - 1 else p) := by
      have hhA : (stp T A).h = A.h + ruM T A := rfl
      have hsA : sd p A.h = σ := by rw [← h]; exact side
      cases σ with
      | true =>
        have h1 := sd_true.1 hsA
        have h2 := sd_false.1 e'
        show _ = p - 1
        omega
      | false =>
        have h1 := sd_false.1 hsA
        have h2 := sd_true.1 e'
        show _ = p
        omega
    refine ⟨fun τ => if τ = σ then ix σ + 1 else j', !σ, fun τ => ?_, fun x => ?_, by rw [hh1]; exact e', ?_, ?_, ?_, ?_⟩
    · show (if τ = σ then ix σ + 1 else j') ≤ D τ
      by_cases et : τ = σ
      · subst et; rw [if_pos rfl]; omega
      · rw [if_neg et]
        have : τ = (!σ) := by cases τ <;> cases σ <;> first | rfl | exact absurd rfl et
        rw [this]; exact a2
    · rcases hcase x with hx | hx
      · rw [hx, hf1 x hx]
        show _ = (itC T (if σ = σ then ix σ + 1 else j') (U σ)).f x
        rw [if_pos rfl, hA1]
      · rw [hx, hf2 x hx]
        show _ = (itC T (if (!σ) = σ then ix σ + 1 else j') (U !σ)).f x
        rw [if_neg (Ne.symm (hnn σ)), a5 x (by rw [hx]; exact Ne.symm (hnn σ))]
    · show _ = (itC T (if (!σ) = σ then ix σ + 1 else j') (U !σ)).s
      rw [if_neg (Ne.symm (hnn σ)), hs1, hst]
    · show _ = (itC T (if (!σ) = σ then ix σ + 1 else j') (U !σ)).h
      rw [if_neg (Ne.symm (hnn σ)), hh1, hhd, a3]
    · show sd p (itC T (if (!(!σ)) = σ then ix σ + 1 else j') (U !(!σ))).h = (!σ)
      rw [Bool.not_not, if_pos rfl, hA1]; exact e'
    · show (bcs p T (U !σ) (if (!σ) = σ then ix σ + 1 else j')).length = (bcs p T (U !(!σ)) (if (!(!σ)) = σ then ix σ + 1 else j')).length
      rw [Bool.not_not, if_pos rfl, if_neg (Ne.symm (hnn σ)), heq]
/-- the pasted run stands as the first one -/
theorem paste_end {n Y : Nat} {T : Nat → Nat → Int} {p : Int} {U : Bool → Cf} {D : Bool → Nat} (g : Gt n Y T) (hU : ∀ σ, Gv n Y (U σ)) (hD : ∀ σ j, j < D σ → (itC T j (U σ)).s < n) (hend : ∀ σ, n ≤ (itC T (D σ) (U σ)).s)
    (hl : bcs p T (U false) (D false) = bcs p T (U true) (D true)) (hleft : sd p (itC T (D true) (U true)).h = false) {c : Cf} (h0 : Pst T p U D c (fun _ => 0) false) {d : Nat} (hd : ∀ j, j < d → (itC T j c).s < n) (hdn : n ≤ (itC T d c).s) :
    (itC T d c).h = (itC T (D false) (U false)).h ∧ ∀ x, x < p → (itC T d c).f x = (itC T (D false) (U false)).f x := by
  have hl2 : ∀ σ, bcs p T (U σ) (D σ) = bcs p T (U !σ) (D !σ) := fun σ => by
    cases σ
    · exact hl
    · exact hl.symm
  have all : ∀ t, t ≤ d → ∃ ix σ, Pst T p U D (itC T t c) ix σ := by
    intro t
    induction t with
    | zero => intro _; exact ⟨_, _, h0⟩
    | succ t ih =>
      intro ht
      obtain ⟨ix, σ, hp⟩ := ih (by omega)
      exact paste_step g hU hD hend hl2 hp (hd t (by omega))
  obtain ⟨ix, σ, hp⟩ := all d (Nat.le_refl _)
  have hix : ix σ = D σ := by
    have h1 := hp.le σ
    by_cases e : ix σ < D σ
    · have := hD σ _ e
      rw [← hp.s] at this; omega
    · omega
  cases σ with
  | true =>
    have h1 := hp.side
    rw [hp.h, hix, hleft] at h1
    cases h1
  | false =>
    refine ⟨by rw [hp.h, hix], fun x hx => ?_⟩
    rw [hp.f x, sd_false.2 hx, hix]
end Go.Proofs.Ytcbcbanknjhhhaa
