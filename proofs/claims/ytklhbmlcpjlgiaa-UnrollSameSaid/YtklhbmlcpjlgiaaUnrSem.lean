/- A machine's configurations, as its circuit says them. Plain law. No condition. -/
import Derived.Test.YtklhbmlcpjlgiaaUnrLaw
namespace Go.Proofs.Ytklhbmlcpjlgiaa
set_option linter.unusedVariables false
theorem goU_succ {n : Nat} {T : Nat → Nat → Int} {K : Nat} : ∀ (k : Nat) (c : Cf), goU n T K (k + 1) c = if (goU n T K k c).s < n then stU T K (goU n T K k c) else goU n T K k c
  | 0, c => rfl
  | k + 1, c => by
    by_cases h : c.s < n
    · have e : ∀ j, goU n T K (j + 1) c = goU n T K j (stU T K c) := fun j => if_pos h
      rw [e (k + 1), e k]
      exact goU_succ k _
    · rw [goU_stop (by omega), goU_stop (by omega), if_neg h]
theorem lstU_succ {n : Nat} {R : Nat → SI} {K : Nat} {B : Nat → Bool} (t : Nat) : lstU n R K B (t + 1) = if (lstU n R K B t).s < n then stU (TR R) K (lstU n R K B t) else lstU n R K B t := goU_succ t _
theorem lst_gu {n : Nat} {R : Nat → SI} {K : Nat} (hK : 0 < K) (g : Gt n 2 (TR R)) (B : Nat → Bool) : ∀ t, Gu n 2 K (lstU n R K B t)
  | 0 => laid_gu hK (Nat.le_refl _)
  | t + 1 => by
    rw [lstU_succ]
    split
    · exact (lst_gu hK g B t).st hK g (by assumption)
    · exact lst_gu hK g B t
def hhU (n : Nat) (R : Nat → SI) (K t : Nat) (g : Gs) : Nat := (lstU n R K g t).h.toNat
def ssU (n : Nat) (R : Nat → SI) (K t : Nat) (g : Gs) : Nat := (lstU n R K g t).s
def fbU (n : Nat) (R : Nat → SI) (K t : Nat) (g : Gs) : Nat := ((lstU n R K g t).f (lstU n R K g t).h).toNat
def fU (n : Nat) (R : Nat → SI) (K t : Nat) (g : Gs) (c : Nat) : Prop := (lstU n R K g t).f (c : Int) = 1
theorem tgU {n : Nat} {R : Nat → SI} {K : Nat} (hK : 0 < K) (g : Gt n 2 (TR R)) (t : Nat) : TG K n (TR R) (hhU n R K t) (ssU n R K t) (fbU n R K t) (hhU n R K (t + 1)) (ssU n R K (t + 1)) := by
  refine ⟨fun B => ?_, fun B => ?_, fun B => ?_, fun B => ?_, fun B => ?_, fun B hs => ?_, fun B hs => ?_⟩
  · obtain ⟨_, _, h1, h2⟩ := lst_gu hK g B t
    unfold hhU; omega
  · exact (lst_gu hK g B t).2.1
  · have := (lst_gu hK g B t).1 (lstU n R K B t).h
    unfold fbU; omega
  · obtain ⟨_, _, h1, h2⟩ := lst_gu hK g B (t + 1)
    unfold hhU; omega
  · exact (lst_gu hK g B (t + 1)).2.1
  · change (lstU n R K B t).s < n at hs
    obtain ⟨h0, _, h1, h2⟩ := lst_gu hK g B t
    have h3 := h0 (lstU n R K B t).h
    have hr := g _ hs ((lstU n R K B t).f (lstU n R K B t).h).toNat (by omega)
    unfold hhU ssU fbU
    rw [lstU_succ, if_pos hs]
    show (((clU K ((lstU n R K B t).h + ruM (TR R) (lstU n R K B t))).toNat : Nat) : Int) = _ ∧ (((ruN (TR R) (lstU n R K B t)).toNat : Nat) : Int) = _
    have hc := clU_bd hK ((lstU n R K B t).h + ruM (TR R) (lstU n R K B t))
    refine ⟨?_, ?_⟩
    · rw [Int.toNat_of_nonneg hc.1, Int.toNat_of_nonneg h1]; rfl
    · exact Int.toNat_of_nonneg hr.2.2.1
  · change (lstU n R K B t).s = n at hs
    unfold hhU ssU
    rw [lstU_succ, if_neg (by omega)]
    exact ⟨rfl, hs⟩
theorem fbU_iff {n : Nat} {R : Nat → SI} {K : Nat} (hK : 0 < K) (g : Gt n 2 (TR R)) (t : Nat) (B : Gs) : fbU n R K t B = 1 ↔ fU n R K t B (hhU n R K t B) := by
  obtain ⟨h0, _, h1, h2⟩ := lst_gu hK g B t
  have h3 := h0 (lstU n R K B t).h
  unfold fbU fU hhU
  rw [Int.toNat_of_nonneg h1]
  omega
theorem fU_succ {n : Nat} {R : Nat → SI} {K : Nat} (hK : 0 < K) (g : Gt n 2 (TR R)) (t : Nat) (B : Gs) (c : Nat) (hc : c < K) :
    fU n R K (t + 1) B c ↔ (hhU n R K t B = c ∧ ssU n R K t B < n ∧ TR R (ssU n R K t B) (3 * fbU n R K t B) = 1) ∨ (¬ (hhU n R K t B = c ∧ ssU n R K t B < n) ∧ fU n R K t B c) := by
  obtain ⟨h0, _, h1, h2⟩ := lst_gu hK g B t
  unfold fU hhU ssU fbU
  rw [lstU_succ]
  by_cases hs : (lstU n R K B t).s < n
  · rw [if_pos hs]
    show (if (c : Int) = (lstU n R K B t).h then ruW (TR R) (lstU n R K B t) else (lstU n R K B t).f c) = 1 ↔ _
    by_cases e : (c : Int) = (lstU n R K B t).h
    · rw [if_pos e]
      have e2 : (lstU n R K B t).h.toNat = c := by omega
      constructor
      · intro h; exact .inl ⟨e2, hs, h⟩
      · rintro (⟨_, _, h⟩ | ⟨h, _⟩)
        · exact h
        · exact absurd ⟨e2, hs⟩ h
    · rw [if_neg e]
      have e2 : ¬ (lstU n R K B t).h.toNat = c := by omega
      constructor
      · intro h; exact .inr ⟨fun h => e2 h.1, h⟩
      · rintro (⟨h, _⟩ | ⟨_, h⟩)
        · exact absurd h e2
        · exact h
  · rw [if_neg hs]
    constructor
    · intro h; exact .inr ⟨fun h => hs h.2, h⟩
    · rintro (⟨_, h, _⟩ | ⟨_, h⟩)
      · exact absurd h hs
      · exact h
theorem fU_zero {n : Nat} {R : Nat → SI} {K : Nat} (B : Gs) (c : Nat) (hc : c < K) : fU n R K 0 B c ↔ B c = true := by
  show laid (gb B) K 0 (c : Int) = 1 ↔ _
  unfold laid
  rw [if_pos (by omega)]
  have e : ((c : Int) - 0).toNat = c := by omega
  rw [e]
  unfold gb
  cases B c <;> simp
theorem hhU_zero {n : Nat} {R : Nat → SI} {K : Nat} (B : Gs) : hhU n R K 0 B = 0 := rfl
theorem ssU_zero {n : Nat} {R : Nat → SI} {K : Nat} (B : Gs) : ssU n R K 0 B = 0 := rfl
theorem orV_iff {F : Nat → Int} {g : Nat → Bool} {f : Nat → Int} : ∀ {m : Nat}, orV F g f m = true ↔ ∃ q, q < m ∧ vx F g (f q) = true
  | 0 => ⟨fun h => (by cases h), fun ⟨q, h, _⟩ => absurd h (by omega)⟩
  | m + 1 => by
    show (orV F g f m || vx F g (f m)) = true ↔ _
    rw [Bool.or_eq_true, orV_iff]
    constructor
    · rintro (⟨q, h1, h2⟩ | h)
      · exact ⟨q, by omega, h2⟩
      · exact ⟨m, by omega, h⟩
    · rintro ⟨q, h1, h2⟩
      by_cases e : q = m
      · subst e; exact .inr h2
      · exact .inl ⟨q, by omega, h2⟩
theorem orV_ans {F : Nat → Int} {g : Gs} {f : Nat → Int} {n : Nat} {R : Nat → SI} {K t : Nat} (hK : 0 < K) (hg : Gt n 2 (TR R)) (h : ∀ q, q < K → (vx F g (f q) = true ↔ (hhU n R K t g = q ∧ ssU n R K t g = n) ∧ fU n R K t g q)) : orV F g f K = ansU n R K g t := by
  rw [Bool.eq_iff_iff, orV_iff]
  unfold ansU
  rw [decide_eq_true_eq]
  obtain ⟨h0, _, h1, h2⟩ := lst_gu hK hg g t
  have e : (((lstU n R K g t).h.toNat : Nat) : Int) = (lstU n R K g t).h := Int.toNat_of_nonneg h1
  constructor
  · rintro ⟨q, hq, hv⟩
    obtain ⟨⟨a1, a2⟩, a3⟩ := (h q hq).1 hv
    refine ⟨a2, ?_⟩
    rw [← a1] at a3
    unfold fU hhU at a3
    rw [e] at a3
    exact a3
  · rintro ⟨a1, a2⟩
    refine ⟨hhU n R K t g, by unfold hhU; omega, (h _ (by unfold hhU; omega)).2 ⟨⟨rfl, a1⟩, ?_⟩⟩
    unfold fU hhU
    rw [e]; exact a2
end Go.Proofs.Ytklhbmlcpjlgiaa
