/- The plain law of taking a variable out: parallel steps, confluence, normal forms. No condition. -/
import Derived.Test.YtmbemikhbcjfmaaCombVarLaw
namespace Go.Proofs.Ytmbemikhbcjfmaa
set_option linter.unusedVariables false
/-- parallel steps -/
inductive Pr : Tm → Tm → Prop
  | refl (t : Tm) : Pr t t
  | ap (a a' b b' : Tm) : Pr a a' → Pr b b' → Pr (.ap a b) (.ap a' b')
  | k (v : Int) (p p' q : Tm) : Pr p p' → Pr (.ap (.ap (.lf 2 v) p) q) p'
  | s (v : Int) (x x' y y' z z' : Tm) : Pr x x' → Pr y y' → Pr z z' → Pr (.ap (.ap (.ap (.lf 1 v) x) y) z) (.ap (.ap x' z') (.ap y' z'))
theorem pr_lf {k v : Int} {a : Tm} (h : Pr (.lf k v) a) : a = .lf k v := by cases h; rfl
theorem pr_l1 {k v : Int} {p r : Tm} (h : Pr (.ap (.lf k v) p) r) : ∃ p', r = .ap (.lf k v) p' ∧ Pr p p' := by
  cases h with
  | refl => exact ⟨p, rfl, .refl _⟩
  | ap _ a' _ b' h1 h2 => rw [pr_lf h1]; exact ⟨b', rfl, h2⟩
theorem pr_l2 {v : Int} {x y r : Tm} (h : Pr (.ap (.ap (.lf 1 v) x) y) r) : ∃ x' y', r = .ap (.ap (.lf 1 v) x') y' ∧ Pr x x' ∧ Pr y y' := by
  cases h with
  | refl => exact ⟨x, y, rfl, .refl _, .refl _⟩
  | ap _ a' _ b' h1 h2 =>
    obtain ⟨x', rfl, hx⟩ := pr_l1 h1
    exact ⟨x', b', rfl, hx, h2⟩
theorem pr_full : ∀ (g : Nat) (t : Tm), t.sz < g → ∃ d, ∀ a, Pr t a → Pr a d
  | 0, _, h => absurd h (Nat.not_lt_zero _)
  | g + 1, .lf k v, _ => ⟨.lf k v, fun a h => by rw [pr_lf h]; exact .refl _⟩
  | g + 1, .ap f q, hg => by
    have hs : (Tm.ap f q).sz = 1 + f.sz + q.sz := rfl
    have hfp := f.sz_pos
    have hqp := q.sz_pos
    obtain ⟨df, hdf⟩ := pr_full g f (by omega)
    obtain ⟨dq, hdq⟩ := pr_full g q (by omega)
    by_cases hk : ∃ v p, f = .ap (.lf 2 v) p
    · obtain ⟨v, p, rfl⟩ := hk
      have hs2 : (Tm.ap (.lf 2 v) p).sz = 1 + 1 + p.sz := rfl
      obtain ⟨dp, hdp⟩ := pr_full g p (by omega)
      refine ⟨dp, fun a h => ?_⟩
      cases h with
      | refl => exact .k v p dp q (hdp p (.refl _))
      | ap _ a' _ b' h1 h2 =>
        obtain ⟨p', rfl, hp⟩ := pr_l1 h1
        exact .k v p' dp b' (hdp p' hp)
      | k _ _ p' _ h1 => exact hdp _ h1
    · by_cases hs1 : ∃ v x y, f = .ap (.ap (.lf 1 v) x) y
      · obtain ⟨v, x, y, rfl⟩ := hs1
        have hs2 : (Tm.ap (.ap (.lf 1 v) x) y).sz = 1 + (1 + 1 + x.sz) + y.sz := rfl
        obtain ⟨dx, hdx⟩ := pr_full g x (by omega)
        obtain ⟨dy, hdy⟩ := pr_full g y (by omega)
        refine ⟨.ap (.ap dx dq) (.ap dy dq), fun a h => ?_⟩
        cases h with
        | refl => exact .s v x dx y dy q dq (hdx x (.refl _)) (hdy y (.refl _)) (hdq q (.refl _))
        | ap _ a' _ b' h1 h2 =>
          obtain ⟨x', y', rfl, hx, hy⟩ := pr_l2 h1
          exact .s v x' dx y' dy b' dq (hdx x' hx) (hdy y' hy) (hdq b' h2)
        | s _ _ x' _ y' _ z' h1 h2 h3 => exact .ap _ _ _ _ (.ap _ _ _ _ (hdx _ h1) (hdq _ h3)) (.ap _ _ _ _ (hdy _ h2) (hdq _ h3))
      · refine ⟨.ap df dq, fun a h => ?_⟩
        cases h with
        | refl => exact .ap _ _ _ _ (hdf f (.refl _)) (hdq q (.refl _))
        | ap _ a' _ b' h1 h2 => exact .ap _ _ _ _ (hdf a' h1) (hdq b' h2)
        | k v p _ _ _ => exact absurd ⟨v, p, rfl⟩ hk
        | s v x _ y _ _ _ _ _ _ => exact absurd ⟨v, x, y, rfl⟩ hs1
inductive Prs : Tm → Tm → Prop
  | refl (t : Tm) : Prs t t
  | step (a b c : Tm) : Prs a b → Pr b c → Prs a c
theorem Prs.trans {a b c : Tm} (h : Prs a b) (h2 : Prs b c) : Prs a c := by
  induction h2 with
  | refl => exact h
  | step c d _ hcd ih => exact .step _ _ _ ih hcd
theorem pr_diamond {t a b : Tm} (h : Pr t a) (h2 : Pr t b) : ∃ c, Pr a c ∧ Pr b c := by
  obtain ⟨d, hd⟩ := pr_full (t.sz + 1) t (by omega)
  exact ⟨d, hd a h, hd b h2⟩
theorem prs_strip {t a b : Tm} (h : Prs t a) (h2 : Pr t b) : ∃ c, Pr a c ∧ Prs b c := by
  induction h with
  | refl => exact ⟨b, h2, .refl _⟩
  | step x y _ hxy ih =>
    obtain ⟨c, h3, h4⟩ := ih
    obtain ⟨d, h5, h6⟩ := pr_diamond hxy h3
    exact ⟨d, h5, .step _ _ _ h4 h6⟩
theorem prs_conf {t a b : Tm} (h : Prs t a) (h2 : Prs t b) : ∃ c, Prs a c ∧ Prs b c := by
  induction h2 with
  | refl => exact ⟨a, .refl _, h⟩
  | step x y _ hxy ih =>
    obtain ⟨c, h3, h4⟩ := ih
    obtain ⟨d, h5, h6⟩ := prs_strip h4 hxy
    exact ⟨d, .step _ _ _ h3 h5, h6⟩
theorem stp_none {a b : Tm} (h : stp (.ap a b) = none) : rdx (.ap a b) = none ∧ stp a = none ∧ stp b = none := by
  have := stp_some a b
  rw [h] at this
  have e : ((rdx (.ap a b)).isSome || (stp a).isSome || (stp b).isSome) = false := this.symm
  simp only [Bool.or_eq_false_iff, Option.isSome_eq_false_iff, Option.isNone_iff_eq_none] at e
  exact ⟨e.1.1, e.1.2, e.2⟩
theorem rdx_k (v : Int) (p q : Tm) : rdx (.ap (.ap (.lf 2 v) p) q) = some p := by
  have h : isK (.ap (.ap (.lf 2 v) p) q) := ⟨fun j hj => (by
    match j, hj with
    | 0, _ => rfl
    | 1, _ => rfl), rfl⟩
  unfold rdx
  rw [if_pos h]; rfl
theorem rdx_s (v : Int) (x y z : Tm) : rdx (.ap (.ap (.ap (.lf 1 v) x) y) z) = some (.ap (.ap x z) (.ap y z)) := by
  have h : isS (.ap (.ap (.ap (.lf 1 v) x) y) z) := ⟨fun j hj => (by
    match j, hj with
    | 0, _ => rfl
    | 1, _ => rfl
    | 2, _ => rfl), rfl⟩
  have hk : ¬ isK (.ap (.ap (.ap (.lf 1 v) x) y) z) := fun h => by
    have : (4 : Int) = 2 := h.2
    omega
  unfold rdx
  rw [if_neg hk, if_pos h]; rfl
theorem pr_norm {t a : Tm} (h : Pr t a) : stp t = none → a = t := by
  induction h with
  | refl => exact fun _ => rfl
  | ap a a' b b' _ _ ih1 ih2 =>
    intro hn
    obtain ⟨_, h1, h2⟩ := stp_none hn
    rw [ih1 h1, ih2 h2]
  | k v p p' q _ _ =>
    intro hn
    have := (stp_none hn).1
    rw [rdx_k] at this; cases this
  | s v x x' y y' z z' _ _ _ _ _ _ =>
    intro hn
    have := (stp_none hn).1
    rw [rdx_s] at this; cases this
theorem prs_norm {t a : Tm} (h : Prs t a) (hn : stp t = none) : a = t := by
  induction h with
  | refl => rfl
  | step x y _ hxy ih => subst ih; exact pr_norm hxy hn
/-- two that come to nothing more are the same -/
theorem norm_same {t a b : Tm} (h : Prs t a) (h2 : Prs t b) (ha : stp a = none) (hb : stp b = none) : a = b := by
  obtain ⟨c, h3, h4⟩ := prs_conf h h2
  rw [← prs_norm h3 ha, prs_norm h4 hb]
theorem rdx_pr {t r : Tm} (h : rdx t = some r) : Pr t r := by
  unfold rdx at h
  split at h
  · rename_i hk
    injection h with h
    subst h
    match t, hk with
    | .lf k v, hk => exact absurd hk (lf_noK k v)
    | .ap (.lf k v) q, hk => have := hk.1 1 (by omega); cases this
    | .ap (.ap (.ap s x) p) q, hk => have : (4 : Int) = 2 := hk.2; omega
    | .ap (.ap (.lf k v) p) q, hk =>
      have : k = 2 := hk.2
      subst this
      exact .k v p p q (.refl _)
  · split at h
    · rename_i hs
      injection h with h
      subst h
      match t, hs with
      | .lf k v, hs => exact absurd hs (lf_noS k v)
      | .ap (.lf k v) q, hs => have := hs.1 1 (by omega); cases this
      | .ap (.ap (.lf k v) p) q, hs => have := hs.1 2 (by omega); cases this
      | .ap (.ap (.ap (.ap s y) x) p) q, hs => have : (4 : Int) = 1 := hs.2; omega
      | .ap (.ap (.ap (.lf k v) x) p) q, hs =>
        have : k = 1 := hs.2
        subst this
        exact .s v x x p p q q (.refl _) (.refl _) (.refl _)
    · cases h
theorem stp_pr : ∀ {t r : Tm}, stp t = some r → Pr t r
  | .lf _ _, r, h => by cases h
  | .ap a b, r, h => by
    have hst : stp (.ap a b) = match rdx (.ap a b) with
      | some r => some r
      | none => match stp a with
        | some a' => some (.ap a' b)
        | none => match stp b with
          | some b' => some (.ap a b')
          | none => none := rfl
    rw [hst] at h
    cases hr : rdx (.ap a b) with
    | some x => rw [hr] at h; injection h with h; rw [← h]; exact rdx_pr hr
    | none =>
      rw [hr] at h
      cases ha : stp a with
      | some a' => rw [ha] at h; injection h with h; rw [← h]; exact .ap _ _ _ _ (stp_pr ha) (.refl _)
      | none =>
        rw [ha] at h
        cases hb : stp b with
        | some b' => rw [hb] at h; injection h with h; rw [← h]; exact .ap _ _ _ _ (.refl _) (stp_pr hb)
        | none => rw [hb] at h; cases h
theorem nrm_prs {t u : Tm} {i : Nat} (h : Nrm t i u) : Prs t u := by
  induction h with
  | zero => exact .refl _
  | more u v i _ hs _ ih => exact .step _ _ _ ih (stp_pr hs)
/-- without a variable -/
def oT (v : Int) : Tm → Tm
  | .lf k x => if stT v (.lf k x) = true then .ap (.ap (.lf 1 0) (.lf 2 0)) (.lf 2 0) else .ap (.lf 2 0) (.lf k x)
  | .ap a b => if stT v (.ap a b) = true then .ap (.ap (.lf 1 0) (oT v a)) (oT v b) else .ap (.lf 2 0) (.ap a b)
/-- with another tree in a variable's place -/
def iT (v : Int) (x : Tm) : Tm → Tm
  | .lf k y => if k = 3 ∧ y = v then x else .lf k y
  | .ap a b => .ap (iT v x a) (iT v x b)
theorem iT_no {v : Int} {x : Tm} : ∀ {t : Tm}, stT v t = false → iT v x t = t
  | .lf k y, h => by
    unfold iT
    rw [if_neg fun e => by
      have : (k == 3 && y == v) = true := by rw [e.1, e.2]; simp
      rw [show stT v (.lf k y) = (k == 3 && y == v) from rfl, this] at h; cases h]
  | .ap a b, h => by
    have h2 : (stT v a || stT v b) = false := h
    simp only [Bool.or_eq_false_iff] at h2
    unfold iT
    rw [iT_no h2.1, iT_no h2.2]
theorem prs_ap {a a' b b' : Tm} (h : Prs a a') (h2 : Prs b b') : Prs (.ap a b) (.ap a' b') := by
  have h1 : Prs (.ap a b) (.ap a' b) := by
    induction h with
    | refl => exact .refl _
    | step x y _ hxy ih => exact .step _ _ _ ih (.ap _ _ _ _ hxy (.refl _))
  refine h1.trans ?_
  clear h1 h
  induction h2 with
  | refl => exact .refl _
  | step x y _ hxy ih => exact .step _ _ _ ih (.ap _ _ _ _ (.refl _) hxy)
theorem oT_prs (v : Int) (x : Tm) : ∀ t, Prs (.ap (oT v t) x) (iT v x t)
  | .lf k y => by
    unfold oT
    by_cases h : stT v (.lf k y) = true
    · rw [if_pos h]
      have e : k = 3 ∧ y = v := by
        rw [show stT v (.lf k y) = (k == 3 && y == v) from rfl] at h
        simp only [Bool.and_eq_true, beq_iff_eq] at h
        exact h
      unfold iT
      rw [if_pos e]
      exact .step _ _ _ (.step _ _ _ (.refl _) (.s 0 (.lf 2 0) (.lf 2 0) (.lf 2 0) (.lf 2 0) x x (.refl _) (.refl _) (.refl _))) (.k 0 x x _ (.refl _))
    · rw [if_neg h, iT_no (by simpa using h)]
      exact .step _ _ _ (.refl _) (.k 0 _ _ x (.refl _))
  | .ap a b => by
    unfold oT
    by_cases h : stT v (.ap a b) = true
    · rw [if_pos h]
      exact (Prs.step _ _ _ (.refl _) (.s 0 (oT v a) (oT v a) (oT v b) (oT v b) x x (.refl _) (.refl _) (.refl _))).trans (prs_ap (oT_prs v x a) (oT_prs v x b))
    · rw [if_neg h, iT_no (by simpa using h)]
      exact .step _ _ _ (.refl _) (.k 0 _ _ x (.refl _))
theorem oT_st (v : Int) : ∀ t, stT v (oT v t) = false
  | .lf k y => by
    unfold oT
    by_cases h : stT v (.lf k y) = true
    · rw [if_pos h]; rfl
    · rw [if_neg h]; show (stT v (.lf 2 0) || stT v (.lf k y)) = false
      rw [show stT v (.lf k y) = false by simpa using h]; rfl
  | .ap a b => by
    unfold oT
    by_cases h : stT v (.ap a b) = true
    · rw [if_pos h]; show ((stT v (.lf 1 0) || stT v (oT v a)) || stT v (oT v b)) = false
      rw [oT_st v a, oT_st v b]; rfl
    · rw [if_neg h]; show (stT v (.lf 2 0) || stT v (.ap a b)) = false
      rw [show stT v (.ap a b) = false by simpa using h]; rfl
theorem gd_sk : Gd (.lf 1 0) ∧ Gd (.lf 2 0) := ⟨⟨by omega, by omega, fun _ => rfl⟩, ⟨by omega, by omega, fun _ => rfl⟩⟩
theorem oT_gd (v : Int) : ∀ t, Gd t → Gd (oT v t)
  | .lf k y, h => by
    unfold oT
    split
    · exact ⟨⟨gd_sk.1, gd_sk.2⟩, gd_sk.2⟩
    · exact ⟨gd_sk.2, h⟩
  | .ap a b, h => by
    unfold oT
    split
    · exact ⟨⟨gd_sk.1, oT_gd v a h.1⟩, oT_gd v b h.2⟩
    · exact ⟨gd_sk.2, h⟩
theorem iT_gd (v : Int) {x : Tm} (hx : Gd x) : ∀ t, Gd t → Gd (iT v x t)
  | .lf k y, h => by
    unfold iT
    split
    · exact hx
    · exact h
  | .ap a b, h => ⟨iT_gd v hx a h.1, iT_gd v hx b h.2⟩
theorem oT_sz (v : Int) : ∀ t, (oT v t).sz ≤ 5 * t.sz
  | .lf k y => by
    unfold oT
    split
    · exact Nat.le_refl _
    · show 1 + 1 + 1 ≤ 5 * 1; omega
  | .ap a b => by
    have ha := oT_sz v a
    have hb := oT_sz v b
    unfold oT
    split
    · show 1 + (1 + 1 + (oT v a).sz) + (oT v b).sz ≤ 5 * (1 + a.sz + b.sz); omega
    · show 1 + 1 + (1 + a.sz + b.sz) ≤ 5 * (1 + a.sz + b.sz); omega
theorem iT_sz (v : Int) {k y : Int} : ∀ t, (iT v (.lf k y) t).sz = t.sz
  | .lf k' y' => by unfold iT; split <;> rfl
  | .ap a b => by show 1 + (iT v (.lf k y) a).sz + (iT v (.lf k y) b).sz = 1 + a.sz + b.sz; rw [iT_sz v a, iT_sz v b]
end Go.Proofs.Ytmbemikhbcjfmaa
