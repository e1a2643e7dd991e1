/- Lists of terms: which may be, and the trees they are. No condition. -/
import Derived.Test.YtmbemikhbcjfmaaCombWrite
import Derived.Test.YtmbemikhbcjfmaaFirst
namespace Go.Proofs.Ytmbemikhbcjfmaa
open Go.ChangeShapes Go.WideShapes Go.ChangeAt Go.RowKit
set_option linter.unusedVariables false
/-- what is wrong with one -/
def cC (L : Nat → Cb) (i : Nat) : Int := if ¬ (1 ≤ (L i).1 ∧ (L i).1 ≤ 4) then 6 else if (L i).1 = 3 ∧ ¬ (0 ≤ (L i).2.2.2 ∧ (L i).2.2.2 ≤ 1000) then 4 else if (L i).1 = 4 ∧ ¬ ((0 ≤ (L i).2.1 ∧ (L i).2.1 < (i : Int)) ∧ 0 ≤ (L i).2.2.1 ∧ (L i).2.2.1 < (i : Int)) then 2 else 0
def OkC (L : Nat → Cb) (n : Nat) : Prop := ∀ i, i < n → cC L i = 0
theorem cC_zero {L : Nat → Cb} {i : Nat} (h : cC L i = 0) : (1 ≤ (L i).1 ∧ (L i).1 ≤ 4) ∧ ((L i).1 = 3 → 0 ≤ (L i).2.2.2 ∧ (L i).2.2.2 ≤ 1000) ∧ ((L i).1 = 4 → (0 ≤ (L i).2.1 ∧ (L i).2.1 < (i : Int)) ∧ 0 ≤ (L i).2.2.1 ∧ (L i).2.2.1 < (i : Int)) := by
  unfold cC at h
  split at h
  · omega
  · rename_i h1
    split at h
    · omega
    · rename_i h2
      split at h
      · omega
      · rename_i h3
        exact ⟨Classical.not_not.1 h1, fun e => Classical.byContradiction fun hc => h2 ⟨e, hc⟩, fun e => Classical.byContradiction fun hc => h3 ⟨e, hc⟩⟩
def decF (L : Nat → Cb) : Nat → Nat → Tm
  | 0, _ => .lf 1 0
  | g + 1, i => if (L i).1 = 4 then .ap (decF L g (L i).2.1.toNat) (decF L g (L i).2.2.1.toNat) else .lf (L i).1 (if (L i).1 = 3 then (L i).2.2.2 else 0)
theorem dec_fuel {L : Nat → Cb} {n : Nat} (h : OkC L n) : ∀ g g' i, i < g → i < g' → i < n → decF L g i = decF L g' i
  | 0, _, i, a, _, _ => absurd a (Nat.not_lt_zero _)
  | _, 0, i, _, a, _ => absurd a (Nat.not_lt_zero _)
  | g + 1, g' + 1, i, a, b, c => by
    unfold decF
    by_cases e : (L i).1 = 4
    · obtain ⟨_, _, h4⟩ := cC_zero (h i c)
      have h4 := h4 e
      rw [if_pos e, if_pos e, dec_fuel h g g' _ (by omega) (by omega) (by omega), dec_fuel h g g' (L i).2.2.1.toNat (by omega) (by omega) (by omega)]
    · rw [if_neg e, if_neg e]
def dec (L : Nat → Cb) (i : Nat) : Tm := decF L (i + 1) i
theorem dec_ap {L : Nat → Cb} {n i a b : Nat} (h : OkC L n) (hi : i < n) (e : (L i).1 = 4) (ha : (L i).2.1 = (a : Int)) (hb : (L i).2.2.1 = (b : Int)) : a < i ∧ b < i ∧ dec L i = .ap (dec L a) (dec L b) := by
  obtain ⟨_, _, h4⟩ := cC_zero (h i hi)
  have h4 := h4 e
  rw [ha, hb] at h4
  refine ⟨by omega, by omega, ?_⟩
  unfold dec
  rw [decF, if_pos e, ha, hb, Int.toNat_natCast, Int.toNat_natCast, dec_fuel h i (a + 1) a (by omega) (by omega) (by omega), dec_fuel h i (b + 1) b (by omega) (by omega) (by omega)]
theorem dec_lf {L : Nat → Cb} {i : Nat} (e : (L i).1 ≠ 4) : dec L i = .lf (L i).1 (if (L i).1 = 3 then (L i).2.2.2 else 0) := by
  unfold dec
  rw [decF, if_neg e]
theorem ok_le {L : Nat → Cb} {n m : Nat} (h : OkC L n) (hm : m ≤ n) : OkC L m := fun i hi => h i (by omega)
theorem cC_congr {L L' : Nat → Cb} {i : Nat} (h : L i = L' i) : cC L i = cC L' i := by unfold cC; rw [h]
theorem dec_congr {L L' : Nat → Cb} {n : Nat} (h : OkC L n) (e : ∀ i, i < n → L i = L' i) : ∀ g i, i < g → i < n → decF L g i = decF L' g i
  | 0, _, a, _ => absurd a (Nat.not_lt_zero _)
  | g + 1, i, a, b => by
    unfold decF
    rw [← e i b]
    by_cases e4 : (L i).1 = 4
    · obtain ⟨_, _, h4⟩ := cC_zero (h i b)
      have h4 := h4 e4
      rw [if_pos e4, if_pos e4, dec_congr h e g _ (by omega) (by omega), dec_congr h e g (L i).2.2.1.toNat (by omega) (by omega)]
    · rw [if_neg e4, if_neg e4]
/-- the size, no more than one more than may be -/
def clS (t : Tm) : Nat := min t.sz 301
theorem clS_ap (a b : Tm) : clS (.ap a b) = min (1 + clS a + clS b) 301 := by
  show min (1 + a.sz + b.sz) 301 = min (1 + min a.sz 301 + min b.sz 301) 301
  omega
theorem lc_at {L : Nat → Cb} {w : World} {b o n i : Nat} (h : Rd w (some ⟨b, o, none⟩) (n * 4) (lcC L)) (hi : i < n) : w.cell? ⟨b, o + i * 4, none⟩ = some (.int .i64 (L i).1) ∧ w.cell? ⟨b, o + i * 4 + 1, none⟩ = some (.int .i64 (L i).2.1) ∧ w.cell? ⟨b, o + i * 4 + 2, none⟩ = some (.int .i64 (L i).2.2.1) ∧ w.cell? ⟨b, o + i * 4 + 3, none⟩ = some (.int .i64 (L i).2.2.2) := by
  have g : ∀ q, q < 4 → w.cell? ⟨b, o + (i * 4 + q), none⟩ = some (c1C (L i) q) := fun q hq => by
    obtain ⟨b', o', e, _, hc⟩ := h.at_ (show i * 4 + q < n * 4 by omega)
    cases e
    rw [hc]; unfold lcC
    rw [show (i * 4 + q) / 4 = i by omega, show (i * 4 + q) % 4 = q by omega]
  exact ⟨g 0 (by omega), g 1 (by omega), g 2 (by omega), g 3 (by omega)⟩
theorem own_obj {W : World} {base s : Nat} {e : TypeId} {A : Option Addr} {n c k : Nat} {C : Nat → Value} (h : Own W base e s A n c k C) : ∀ g, (Value.slice A n c).ownBlock = some g → ∃ cur, W.heap[g]? = some (.cells cur e (0, 0)) := fun g hg => by
  rcases h.1.2 with ⟨hv, _⟩ | ⟨g', cap, cur, hv, hge, hb, _⟩
  · rw [hv] at hg; cases hg
  · rw [hv] at hg
    cases hg
    exact ⟨cur, hb⟩
/-- trees stay where a row of another type grows -/
theorem TAt.grown {e e' : TypeId} {W W' : World} {row : Option Nat} (hg : W.grownBy W' row) (hne : e ≠ e') (hr : ∀ g, row = some g → ∃ cur, W.heap[g]? = some (.cells cur e' (0, 0))) : ∀ {t : Tm} {g : Nat}, TAt e W t g → TAt e W' t g := by
  have hrow : ∀ g n F, W.rowIs g e n F → W'.rowIs g e n F := fun g n F h => h.of_block (hg.block g h.lt fun e2 => by
    obtain ⟨cur, hc⟩ := hr g e2.symm
    obtain ⟨cs, h1, _⟩ := h
    rw [h1] at hc; cases hc; exact hne rfl)
  intro t
  induction t with
  | lf k v => exact fun h => ⟨h.1, h.2.1, h.2.2.1, hrow _ _ _ h.2.2.2⟩
  | ap a b iha ihb => exact fun ⟨ga, gb, h1, h2, h3⟩ => ⟨ga, gb, hrow _ _ _ h1, iha h2, ihb h3⟩
end Go.Proofs.Ytmbemikhbcjfmaa
