/- What a tag system's turns make of a word, in plain Lean; and tag.Run. Conditions: as each theorem states. -/
import Derived.Test.YthogpdlfjnkmdaaTagWrong
import Derived.Test.YthogpdlfjnkmdaaClone
namespace Go.Proofs.Ythogpdlfjnkmdaa
open Go.ChangeShapes Go.WideShapes Go.ChangeAt Go.RowKit
set_option linter.unusedVariables false
/-- at most that many turns: the word and how many were made; none: too long a word -/
def goT (d : Nat) (R : Nat → SI) : Nat → List Int → Option (List Int × Nat)
  | 0, l => some (l, 0)
  | r + 1, l => if d ≤ l.length then (if 40 < (turnL d R l).length then none else (goT d R r (turnL d R l)).map (fun p => (p.1, p.2 + 1))) else some (l, 0)
theorem goT_short {d : Nat} {R : Nat → SI} {l : List Int} (h : ¬ d ≤ l.length) (r : Nat) : goT d R r l = some (l, 0) := by
  cases r with
  | zero => rfl
  | succ r => exact if_neg h
theorem goT_add (d : Nat) (R : Nat → SI) (m r : Nat) : ∀ l, goT d R (m + r) l = (goT d R m l).bind (fun p => (goT d R r p.1).map (fun q => (q.1, q.2 + p.2))) := by
  induction m with
  | zero =>
    intro l
    rw [Nat.zero_add]
    show _ = (goT d R r l).map (fun q => (q.1, q.2 + 0))
    cases goT d R r l <;> rfl
  | succ m ih =>
    intro l
    rw [show m + 1 + r = (m + r) + 1 by omega]
    by_cases h : d ≤ l.length
    · by_cases h2 : 40 < (turnL d R l).length
      · show (if _ then _ else _) = (if _ then _ else _ : Option (List Int × Nat)).bind _
        rw [if_pos h, if_pos h2, if_pos h, if_pos h2]; rfl
      · show (if _ then _ else _) = (if _ then _ else _ : Option (List Int × Nat)).bind _
        rw [if_pos h, if_neg h2, if_pos h, if_neg h2, ih]
        cases goT d R m (turnL d R l) with
        | none => rfl
        | some p =>
          show ((goT d R r p.1).map _).map _ = (goT d R r p.1).map _
          cases goT d R r p.1 with
          | none => rfl
          | some q => rfl
    · rw [goT_short h, goT_short h]
      show _ = (goT d R r l).map _
      rw [goT_short h]; rfl
/-- the letters stay within -/
def LetS (S : Int) (l : List Int) : Prop := ∀ x, x ∈ l → 0 ≤ x ∧ x < S
/-- a system whose rows are short and within -/
def TagOk (S : Int) (nb : Nat) (R : Nat → SI) : Prop := (nb : Int) = S ∧ ∀ i, i < nb → (R i).n ≤ 8 ∧ ∀ j, j < (R i).n → 0 ≤ (R i).f j ∧ (R i).f j < S
theorem LetS.row {S : Int} {s : SI} (h : ∀ j, j < s.n → 0 ≤ s.f j ∧ s.f j < S) : LetS S s.list := fun x hx => by
  unfold SI.list at hx
  obtain ⟨j, hj, rfl⟩ := List.mem_map.mp hx
  exact h j (List.mem_range.mp hj)
theorem LetS.head {S : Int} {l : List Int} (h : LetS S l) (hS : 1 ≤ S) : 0 ≤ l.headD 0 ∧ l.headD 0 < S := by
  cases l with
  | nil => exact ⟨Int.le_refl _, by show (0 : Int) < S; omega⟩
  | cons x r => exact h x (List.mem_cons_self)
theorem LetS.turn {S : Int} {nb d : Nat} {R : Nat → SI} {l : List Int} (hT : TagOk S nb R) (hS : 1 ≤ S) (h : LetS S l) : LetS S (turnL d R l) := fun x hx => by
  unfold turnL at hx
  have hh := h.head hS
  have hT1 := hT.1
  rcases List.mem_append.mp hx with e | e
  · exact h x (List.mem_of_mem_drop e)
  · exact LetS.row (hT.2 (l.headD 0).toNat (by omega)).2 x e
theorem rowG_no {S : Int} {s : SI} (h : rowG S s = false) (j : Nat) (hj : j < s.n) : 0 ≤ s.f j ∧ s.f j < S := by
  have := anyB_false.mp h j hj
  unfold outG at this
  have := of_decide_eq_false this
  omega
theorem tgE_zero {S D : Int} {nb : Nat} {R : Nat → SI} {X : SI} (h : tgE S D nb R X = 0) : (1 ≤ S ∧ S ≤ 4 ∧ 1 ≤ D ∧ D ≤ 4 ∧ X.n ≤ 40) ∧ TagOk S nb R ∧ LetS S X.list := by
  unfold tgE at h
  split at h
  · cases h
  · rename_i h1
    split at h
    · cases h
    · rename_i h2
      split at h
      · cases h
      · rename_i h3
        have hl : anyB (lnG R) nb = false := by
          cases e : anyB (lnG R) nb with
          | false => rfl
          | true => exact absurd (by simp [e]) h1
        have ha : anyB (fun i => rowG S (R i)) nb = false := by
          cases e : anyB (fun i => rowG S (R i)) nb with
          | false => rfl
          | true => exact absurd (.inl e) h3
        have hx : rowG S X = false := by
          cases e : rowG S X with
          | false => rfl
          | true => exact absurd (.inr e) h3
        refine ⟨by omega, ⟨by omega, fun i hi => ⟨?_, fun j hj => rowG_no (anyB_false.mp ha i hi) j hj⟩⟩, LetS.row (fun j hj => rowG_no hx j hj)⟩
        have := of_decide_eq_false (anyB_false.mp hl i hi)
        omega
theorem goT_let {S : Int} {nb d : Nat} {R : Nat → SI} (hT : TagOk S nb R) (hS : 1 ≤ S) : ∀ (r : Nat) (l l' : List Int) (k : Nat), LetS S l → l.length ≤ 40 → goT d R r l = some (l', k) → LetS S l' ∧ l'.length ≤ 40 ∧ k ≤ r := by
  intro r
  induction r with
  | zero => intro l l' k h hl e; cases e; exact ⟨h, hl, Nat.le_refl _⟩
  | succ r ih =>
    intro l l' k h hl e
    by_cases h1 : d ≤ l.length
    · by_cases h2 : 40 < (turnL d R l).length
      · rw [goT, if_pos h1, if_pos h2] at e; cases e
      · rw [goT, if_pos h1, if_neg h2] at e
        cases hq : goT d R r (turnL d R l) with
        | none => rw [hq] at e; cases e
        | some p =>
          rw [hq] at e
          obtain ⟨p1, p2⟩ := p
          cases e
          obtain ⟨a, b, c⟩ := ih _ _ _ (h.turn hT hS) (by omega) hq
          exact ⟨a, b, by omega⟩
    · rw [goT_short h1] at e; cases e; exact ⟨h, hl, by omega⟩
end Go.Proofs.Ythogpdlfjnkmdaa
