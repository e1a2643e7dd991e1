/- The plain law of variables: no step brings one in; a list written is the tree that it was written of. No condition. -/
import Derived.Test.YtmbemikhbcjfmaaCombNorm
import Derived.Test.YtmbemikhbcjfmaaCombStd
namespace Go.Proofs.Ytmbemikhbcjfmaa
set_option linter.unusedVariables false
/-- letters and variables as they are written -/
def Gd : Tm → Prop
  | .lf k v => (1 ≤ k ∧ k ≤ 3) ∧ (k = 3 → 0 ≤ v ∧ v ≤ 1000) ∧ (k ≠ 3 → v = 0)
  | .ap a b => Gd a ∧ Gd b
theorem gd_dec {L : Nat → Cb} {n : Nat} (h : OkC L n) : ∀ g i, i < g → i < n → Gd (dec L i)
  | 0, _, h, _ => absurd h (Nat.not_lt_zero _)
  | g + 1, i, hg, hi => by
    obtain ⟨v1, v2, v3⟩ := cC_zero (h i hi)
    by_cases e : (L i).1 = 4
    · obtain ⟨⟨a1, a2⟩, b1, b2⟩ := v3 e
      obtain ⟨a, ha⟩ := Int.eq_ofNat_of_zero_le a1
      obtain ⟨b, hb⟩ := Int.eq_ofNat_of_zero_le b1
      obtain ⟨da, db, hd⟩ := dec_ap h hi e ha hb
      rw [hd]
      exact ⟨gd_dec h g a (by omega) (by omega), gd_dec h g b (by omega) (by omega)⟩
    · rw [dec_lf e]
      refine ⟨by omega, fun e3 => by rw [if_pos e3]; exact v2 e3, fun e3 => by rw [if_neg e3]⟩
theorem gd_hd : ∀ i {t : Tm}, Gd t → Gd (hdT i t)
  | 0, _, h => h
  | i + 1, t, h => by
    have := gd_hd i h
    unfold hdT
    split
    · rename_i a b e; rw [e] at this; exact this.1
    · rename_i k v e; rw [e] at this; exact this
theorem gd_ag (i : Nat) {t : Tm} (h : Gd t) : Gd (agT i t) := by
  have := gd_hd i h
  unfold agT
  split
  · rename_i a b e; rw [e] at this; exact this.2
  · rename_i k v e; rw [e] at this; exact this
theorem gd_stp : ∀ {t r : Tm}, Gd t → stp t = some r → Gd r
  | .lf _ _, r, _, h => by cases h
  | .ap a b, r, hg, h => by
    have hst : stp (.ap a b) = match rdx (.ap a b) with
      | some r => some r
      | none => match stp a with
        | some a' => some (.ap a' b)
        | none => match stp b with
          | some b' => some (.ap a b')
          | none => none := rfl
    rw [hst] at h
    cases hr : rdx (.ap a b) with
    | some x =>
      rw [hr] at h; injection h with h; rw [← h]
      unfold rdx at hr
      split at hr
      · injection hr with hr; rw [← hr]; exact gd_ag 1 hg
      · split at hr
        · injection hr with hr; rw [← hr]; exact ⟨⟨gd_ag 2 hg, gd_ag 0 hg⟩, gd_ag 1 hg, gd_ag 0 hg⟩
        · cases hr
    | none =>
      rw [hr] at h
      cases ha : stp a with
      | some a' => rw [ha] at h; injection h with h; rw [← h]; exact ⟨gd_stp hg.1 ha, hg.2⟩
      | none =>
        rw [ha] at h
        cases hb : stp b with
        | some b' => rw [hb] at h; injection h with h; rw [← h]; exact ⟨hg.1, gd_stp hg.2 hb⟩
        | none => rw [hb] at h; cases h
theorem st_hd (v : Int) : ∀ i {t : Tm}, stT v (hdT i t) = true → stT v t = true
  | 0, _, h => h
  | i + 1, t, h => by
    refine st_hd v i ?_
    unfold hdT at h
    split at h
    · rename_i a b e; rw [e]; show (stT v a || stT v b) = true; rw [h]; rfl
    · rename_i k x e; rw [e]; exact h
theorem st_ag (v : Int) (i : Nat) {t : Tm} (h : stT v (agT i t) = true) : stT v t = true := by
  refine st_hd v i ?_
  unfold agT at h
  split at h
  · rename_i a b e; rw [e]; show (stT v a || stT v b) = true; rw [h, Bool.or_true]
  · rename_i k x e; rw [e]; exact h
theorem st_stp (v : Int) : ∀ {t r : Tm}, stp t = some r → stT v r = true → stT v t = true
  | .lf _ _, r, h, _ => by cases h
  | .ap a b, r, h, hv => by
    have hst : stp (.ap a b) = match rdx (.ap a b) with
      | some r => some r
      | none => match stp a with
        | some a' => some (.ap a' b)
        | none => match stp b with
          | some b' => some (.ap a b')
          | none => none := rfl
    rw [hst] at h
    cases hr : rdx (.ap a b) with
    | some x =>
      rw [hr] at h; injection h with h; rw [← h] at hv
      unfold rdx at hr
      split at hr
      · injection hr with hr; rw [← hr] at hv; exact st_ag v 1 hv
      · split at hr
        · injection hr with hr; rw [← hr] at hv
          have hv2 : ((stT v (agT 2 (.ap a b)) || stT v (agT 0 (.ap a b))) || (stT v (agT 1 (.ap a b)) || stT v (agT 0 (.ap a b)))) = true := hv
          simp only [Bool.or_eq_true] at hv2
          rcases hv2 with (h | h) | (h | h)
          · exact st_ag v 2 h
          · exact st_ag v 0 h
          · exact st_ag v 1 h
          · exact st_ag v 0 h
        · cases hr
    | none =>
      rw [hr] at h
      show (stT v a || stT v b) = true
      cases ha : stp a with
      | some a' =>
        rw [ha] at h; injection h with h; rw [← h] at hv
        have hv2 : (stT v a' || stT v b) = true := hv
        simp only [Bool.or_eq_true] at hv2 ⊢
        rcases hv2 with h | h
        · exact .inl (st_stp v ha h)
        · exact .inr h
      | none =>
        rw [ha] at h
        cases hb : stp b with
        | some b' =>
          rw [hb] at h; injection h with h; rw [← h] at hv
          have hv2 : (stT v a || stT v b') = true := hv
          simp only [Bool.or_eq_true] at hv2 ⊢
          rcases hv2 with h | h
          · exact .inl h
          · exact .inr (st_stp v hb h)
        | none => rw [hb] at h; cases h
theorem nrm_gd {t u : Tm} {i : Nat} (h : Nrm t i u) (hg : Gd t) : Gd u := by
  induction h with
  | zero => exact hg
  | more u v i h1 hs hz ih => exact gd_stp ih hs
theorem nrm_st {t u : Tm} {i : Nat} (v : Int) (h : Nrm t i u) : stT v u = true → stT v t = true := by
  induction h with
  | zero => exact id
  | more u x i h1 hs hz ih => exact fun h => ih (st_stp v hs h)
theorem wrF_lt : ∀ (t : Tm) (L : Nat → Cb) (n q : Nat), q < n → wrF t L n q = L q
  | .lf k v, L, n, q, h => exC_lt h
  | .ap a b, L, n, q, h => by
    unfold wrF
    rw [exC_lt (by omega), wrF_lt b _ _ q (by omega), wrF_lt a L n q h]
theorem ok_agree {L L' : Nat → Cb} {n : Nat} (h : OkC L n) (e : ∀ q, q < n → L' q = L q) : OkC L' n := fun i hi => by rw [cC_congr (e i hi)]; exact h i hi
theorem dec_agree {L L' : Nat → Cb} {n i : Nat} (h : OkC L n) (e : ∀ q, q < n → L' q = L q) (hi : i < n) : dec L' i = dec L i := (dec_congr h (fun q hq => (e q hq).symm) _ i (by omega) hi).symm
/-- the list that a tree is written to may be, and its last is the tree -/
theorem wr_ok : ∀ (t : Tm) (L : Nat → Cb) (n : Nat), Gd t → OkC L n → OkC (wrF t L n) (n + t.sz) ∧ dec (wrF t L n) (n + t.sz - 1) = t
  | .lf k v, L, n, hg, ho => by
    obtain ⟨⟨k1, k3⟩, hv, h0⟩ := hg
    have en : wrF (.lf k v) L n n = (k, 0, 0, v) := exC_eq
    constructor
    · intro i hi
      by_cases e : i < n
      · rw [cC_congr (wrF_lt (.lf k v) L n i e)]; exact ho i e
      · have : i = n := by have : i < n + 1 := hi; omega
        subst this
        unfold cC
        rw [en]
        rw [if_neg (fun e => e ⟨k1, by show k ≤ 4; omega⟩), if_neg (fun e => e.2 (hv e.1)), if_neg (fun e => absurd (show k = 4 from e.1) (by omega))]
    · show dec (wrF (.lf k v) L n) (n + 1 - 1) = _
      rw [show n + 1 - 1 = n by omega, dec_lf (by rw [en]; show k ≠ 4; omega), en]
      show Tm.lf k (if k = 3 then v else 0) = _
      by_cases e : k = 3
      · rw [if_pos e]
      · rw [if_neg e, h0 e]
  | .ap a b, L, n, hg, ho => by
    obtain ⟨o1, d1⟩ := wr_ok a L n hg.1 ho
    obtain ⟨o2, d2⟩ := wr_ok b (wrF a L n) (n + a.sz) hg.2 o1
    have pa := a.sz_pos
    have pb := b.sz_pos
    have hsz : (Tm.ap a b).sz = 1 + a.sz + b.sz := rfl
    have en : wrF (.ap a b) L n (n + a.sz + b.sz) = (4, ((n + a.sz : Nat) : Int) - 1, ((n + a.sz + b.sz : Nat) : Int) - 1, 0) := exC_eq
    have hlt : ∀ q, q < n + a.sz + b.sz → wrF (.ap a b) L n q = wrF b (wrF a L n) (n + a.sz) q := fun q hq => exC_lt hq
    have hok : OkC (wrF (.ap a b) L n) (n + a.sz + b.sz + 1) := fun i hi => by
      by_cases e : i < n + a.sz + b.sz
      · rw [cC_congr (hlt i e)]; exact o2 i e
      · have : i = n + a.sz + b.sz := by omega
        rw [this]
        unfold cC
        rw [en]
        rw [if_neg (fun e => e ⟨show (1 : Int) ≤ 4 by decide, show (4 : Int) ≤ 4 by decide⟩), if_neg (fun e => absurd (show (4 : Int) = 3 from e.1) (by decide)), if_neg (fun e => e.2 ⟨⟨by show 0 ≤ ((n + a.sz : Nat) : Int) - 1; omega, by show ((n + a.sz : Nat) : Int) - 1 < _; omega⟩, by show 0 ≤ ((n + a.sz + b.sz : Nat) : Int) - 1; omega, by show ((n + a.sz + b.sz : Nat) : Int) - 1 < _; omega⟩)]
    refine ⟨by rw [hsz, show n + (1 + a.sz + b.sz) = n + a.sz + b.sz + 1 by omega]; exact hok, ?_⟩
    rw [hsz, show n + (1 + a.sz + b.sz) - 1 = n + a.sz + b.sz by omega]
    obtain ⟨_, _, hd⟩ := dec_ap (a := n + a.sz - 1) (b := n + a.sz + b.sz - 1) hok (show n + a.sz + b.sz < n + a.sz + b.sz + 1 by omega) (by rw [en]) (by rw [en]; show ((n + a.sz : Nat) : Int) - 1 = _; omega) (by rw [en]; show ((n + a.sz + b.sz : Nat) : Int) - 1 = _; omega)
    rw [hd, dec_agree o2 hlt (by omega), dec_agree o2 hlt (by omega), d2]
    rw [dec_agree o1 (fun q hq => wrF_lt b (wrF a L n) (n + a.sz) q hq) (by omega), d1]
end Go.Proofs.Ytmbemikhbcjfmaa
