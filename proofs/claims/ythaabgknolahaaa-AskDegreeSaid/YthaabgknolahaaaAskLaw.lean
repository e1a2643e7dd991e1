/- The plain law of questions: what ask.least computes; trees of questions; what is known at their ends. Conditions: as each theorem states. -/
import Derived.Test.YthaabgknolahaaaOnes
namespace Go.Proofs.Ythaabgknolahaaa
set_option linter.unusedVariables false
set_option linter.unusedSimpArgs false
set_option synthInstance.maxHeartbeats 400000
set_option synthInstance.maxSize 4000
def setB (k i : Nat) : Nat := k ||| 2 ^ i
def clrB (x i : Nat) : Nat := x ^^^ (x &&& 2 ^ i)
def hasBit (k i : Nat) : Bool := k / 2 ^ i % 2 == 1
/-- does the table say one thing of all words that have the known bits as x? -/
def smW (F : Nat → Bool) (m k x : Nat) : Bool := decide (∀ y, y < m → (x ^^^ y) &&& k = 0 → F y = F x)
theorem smW_iff {F : Nat → Bool} {m k x : Nat} : smW F m k x = true ↔ ∀ y, y < m → (x ^^^ y) &&& k = 0 → F y = F x := by simp [smW]
/-- the first best bit among those below i: what is got, and which -/
def fdL (n : Nat) (c : Nat → Nat) (k : Nat) : Nat → Nat × Int
  | 0 => (n + 1, -1)
  | i + 1 => if hasBit k i = true then fdL n c k i else if c i < (fdL n c k i).1 then (c i, (i : Int)) else fdL n c k i
def lsF (n : Nat) (F : Nat → Bool) : Nat → Nat → Nat → Nat × Int
  | 0, _, _ => (0, -1)
  | g + 1, k, x => if smW F (2 ^ n) k x = true then (0, -1) else fdL n (fun i => 1 + max (lsF n F g (setB k i) (clrB x i)).1 (lsF n F g (setB k i) (setB x i)).1) k n
theorem setB_gt : ∀ n : Nat, n < 5 → ∀ k : Nat, k < 16 → ∀ i : Nat, i < 4 → k < 2 ^ n → i < n → hasBit k i = false → k < setB k i ∧ setB k i < 2 ^ n ∧ popc (setB k i) = popc k + 1 := by decide +kernel
theorem sets_lt : ∀ n : Nat, n < 5 → ∀ x : Nat, x < 16 → ∀ i : Nat, i < 4 → x < 2 ^ n → i < n → setB x i < 2 ^ n ∧ clrB x i < 2 ^ n := by decide +kernel
theorem popc_le : ∀ n : Nat, n < 5 → ∀ k : Nat, k < 16 → k < 2 ^ n → popc k ≤ n := by decide +kernel
theorem all_bits : ∀ n : Nat, n < 5 → ∀ k : Nat, k < 16 → k < 2 ^ n → (∀ i : Nat, i < 4 → i < n → hasBit k i = true) → k = 2 ^ n - 1 := by decide +kernel
theorem xor_full : ∀ n : Nat, n < 5 → ∀ x : Nat, x < 16 → ∀ y : Nat, y < 16 → x < 2 ^ n → y < 2 ^ n → (x ^^^ y) &&& (2 ^ n - 1) = 0 → y = x := by decide +kernel
theorem p16 {n : Nat} (h : n ≤ 4) : 1 ≤ 2 ^ n ∧ 2 ^ n ≤ 16 := by
  match n, h with
  | 0, _ => decide
  | 1, _ => decide
  | 2, _ => decide
  | 3, _ => decide
  | 4, _ => decide
theorem sm_full {n : Nat} (h : n ≤ 4) {F : Nat → Bool} {k x : Nat} (hk : k < 2 ^ n) (hx : x < 2 ^ n) (ha : ∀ i, i < n → hasBit k i = true) : smW F (2 ^ n) k x = true := by
  have hp := (p16 h).2
  have := all_bits n (by omega) k (by omega) hk fun i _ hi => ha i hi
  exact smW_iff.2 fun y hy e => by
    rw [this] at e
    rw [xor_full n (by omega) x (by omega) y (by omega) hx hy e]
/-- what the fold tells: nothing, or the best -/
theorem fd_ok (n : Nat) (c : Nat → Nat) (k : Nat) : ∀ i, ((fdL n c k i).2 = -1 ∧ (fdL n c k i).1 = n + 1 ∧ ∀ j, j < i → hasBit k j = false → n + 1 ≤ c j) ∨ ∃ j, j < i ∧ hasBit k j = false ∧ (fdL n c k i).2 = (j : Int) ∧ (fdL n c k i).1 = c j ∧ ∀ q, q < i → hasBit k q = false → c j ≤ c q
  | 0 => .inl ⟨rfl, rfl, fun j hj => absurd hj (Nat.not_lt_zero _)⟩
  | i + 1 => by
    unfold fdL
    by_cases hb : hasBit k i = true
    · rw [if_pos hb]
      rcases fd_ok n c k i with ⟨a, b, d⟩ | ⟨j, a, b, d, e, f⟩
      · exact .inl ⟨a, b, fun j hj h => d j (by
          rcases Nat.lt_or_ge j i with l | l
          · exact l
          · rw [show j = i by omega, hb] at h; cases h) h⟩
      · exact .inr ⟨j, by omega, b, d, e, fun q hq h => f q (by
          rcases Nat.lt_or_ge q i with l | l
          · exact l
          · rw [show q = i by omega, hb] at h; cases h) h⟩
    · rw [if_neg hb]
      have hb' : hasBit k i = false := by simpa using hb
      by_cases hc : c i < (fdL n c k i).1
      · rw [if_pos hc]
        refine .inr ⟨i, by omega, hb', rfl, rfl, fun q hq h => ?_⟩
        rcases Nat.lt_or_ge q i with l | l
        · rcases fd_ok n c k i with ⟨a, b, d⟩ | ⟨j, a, b, d, e, f⟩
          · have := d q l h; omega
          · have := f q l h; omega
        · rw [show q = i by omega]; exact Nat.le_refl _
      · rw [if_neg hc]
        rcases fd_ok n c k i with ⟨a, b, d⟩ | ⟨j, a, b, d, e, f⟩
        · refine .inl ⟨a, b, fun j hj h => ?_⟩
          rcases Nat.lt_or_ge j i with l | l
          · exact d j l h
          · rw [show j = i by omega]; omega
        · refine .inr ⟨j, by omega, b, d, e, fun q hq h => ?_⟩
          rcases Nat.lt_or_ge q i with l | l
          · exact f q l h
          · rw [show q = i by omega]; omega
/-- with fuel enough: no more than the bits that are not known; and which is a bit not known unless the table says one thing -/
theorem ls_ok {n : Nat} (h4 : n ≤ 4) (F : Nat → Bool) : ∀ g k x, k < 2 ^ n → x < 2 ^ n → 2 ^ n ≤ k + g → (lsF n F g k x).1 + popc k ≤ n ∧
    (smW F (2 ^ n) k x = false → ∃ i g', g = g' + 1 ∧ i < n ∧ hasBit k i = false ∧ (lsF n F g k x).2 = (i : Int) ∧ (lsF n F g k x).1 = 1 + max (lsF n F g' (setB k i) (clrB x i)).1 (lsF n F g' (setB k i) (setB x i)).1)
  | 0, k, x, hk, hx, hg => absurd hg (by omega)
  | g + 1, k, x, hk, hx, hg => by
    have hp := (p16 h4).2
    have hpk := popc_le n (by omega) k (by omega) hk
    by_cases hs : smW F (2 ^ n) k x = true
    · rw [show lsF n F (g + 1) k x = (0, -1) by unfold lsF; rw [if_pos hs]]
      exact ⟨by simpa using hpk, fun e => by rw [hs] at e; cases e⟩
    · have hc : ∀ j, j < n → hasBit k j = false → (1 + max (lsF n F g (setB k j) (clrB x j)).1 (lsF n F g (setB k j) (setB x j)).1) + popc k ≤ n := fun j hj hb => by
        obtain ⟨a1, a2, a3⟩ := setB_gt n (by omega) k (by omega) j (by omega) hk hj hb
        obtain ⟨b1, b2⟩ := sets_lt n (by omega) x (by omega) j (by omega) hx hj
        have h1 := (ls_ok h4 F g (setB k j) (clrB x j) a2 b2 (by omega)).1
        have h2 := (ls_ok h4 F g (setB k j) (setB x j) a2 b1 (by omega)).1
        omega
      rw [show lsF n F (g + 1) k x = fdL n (fun i => 1 + max (lsF n F g (setB k i) (clrB x i)).1 (lsF n F g (setB k i) (setB x i)).1) k n by rw [lsF, if_neg hs]]
      rcases fd_ok n (fun i => 1 + max (lsF n F g (setB k i) (clrB x i)).1 (lsF n F g (setB k i) (setB x i)).1) k n with ⟨a, b, d⟩ | ⟨j, a, b, d, e, f⟩
      · exfalso
        apply hs
        refine sm_full h4 hk hx fun i hi => ?_
        cases hb : hasBit k i with
        | true => rfl
        | false =>
          have h1 := hc i hi hb
          have h2 := d i hi hb
          have h3 : n + 1 ≤ 1 + max (lsF n F g (setB k i) (clrB x i)).1 (lsF n F g (setB k i) (setB x i)).1 := h2
          omega
      · refine ⟨?_, fun _ => ⟨j, g, rfl, a, b, d, e⟩⟩
        rw [e]; exact hc j a b
/-- the fuel doesn't matter -/
theorem fd_congr {n : Nat} {c c' : Nat → Nat} {k : Nat} : ∀ i, (∀ j, j < i → hasBit k j = false → c j = c' j) → fdL n c k i = fdL n c' k i
  | 0, _ => rfl
  | i + 1, h => by
    unfold fdL
    rw [fd_congr i fun j hj => h j (by omega)]
    by_cases hb : hasBit k i = true
    · rw [if_pos hb, if_pos hb]
    · rw [if_neg hb, if_neg hb, h i (by omega) (by simpa using hb)]
theorem ls_fuel {n : Nat} (h4 : n ≤ 4) (F : Nat → Bool) : ∀ g g' k x, k < 2 ^ n → x < 2 ^ n → 2 ^ n ≤ k + g → 2 ^ n ≤ k + g' → lsF n F g k x = lsF n F g' k x
  | 0, _, k, x, hk, hx, h1, h2 => absurd h1 (by omega)
  | _, 0, k, x, hk, hx, h1, h2 => absurd h2 (by omega)
  | g + 1, g' + 1, k, x, hk, hx, h1, h2 => by
    have hp := (p16 h4).2
    rw [lsF, lsF]
    by_cases hs : smW F (2 ^ n) k x = true
    · rw [if_pos hs, if_pos hs]
    · rw [if_neg hs, if_neg hs]
      refine fd_congr n fun j hj hb => ?_
      obtain ⟨a1, a2, a3⟩ := setB_gt n (by omega) k (by omega) j (by omega) hk hj hb
      obtain ⟨b1, b2⟩ := sets_lt n (by omega) x (by omega) j (by omega) hx hj
      rw [ls_fuel h4 F g g' (setB k j) (clrB x j) a2 b2 (by omega) (by omega), ls_fuel h4 F g g' (setB k j) (setB x j) a2 b1 (by omega) (by omega)]
/-- with as much fuel as ever needed -/
def lst (n : Nat) (F : Nat → Bool) (k x : Nat) : Nat × Int := lsF n F 16 k x
theorem lst_of {n : Nat} (h4 : n ≤ 4) (F : Nat → Bool) {g k x : Nat} (hk : k < 2 ^ n) (hx : x < 2 ^ n) (hg : 2 ^ n ≤ k + g) : lsF n F g k x = lst n F k x :=
  ls_fuel h4 F g 16 k x hk hx hg (by have := (p16 h4).2; omega)
theorem lst_ok {n : Nat} (h4 : n ≤ 4) (F : Nat → Bool) {k x : Nat} (hk : k < 2 ^ n) (hx : x < 2 ^ n) (hs : smW F (2 ^ n) k x = false) :
    ∃ i, i < n ∧ hasBit k i = false ∧ (lst n F k x).2 = (i : Int) ∧ (lst n F k x).1 = 1 + max (lst n F (setB k i) (clrB x i)).1 (lst n F (setB k i) (setB x i)).1 := by
  have hp := (p16 h4).2
  obtain ⟨i, g', e, a, b, c, d⟩ := (ls_ok h4 F 16 k x hk hx (by omega)).2 hs
  obtain ⟨a1, a2, a3⟩ := setB_gt n (by omega) k (by omega) i (by omega) hk a b
  obtain ⟨b1, b2⟩ := sets_lt n (by omega) x (by omega) i (by omega) hx a
  refine ⟨i, a, b, c, ?_⟩
  show (lsF n F 16 k x).1 = _
  rw [d, lst_of h4 F a2 b2 (by omega), lst_of h4 F a2 b1 (by omega)]
theorem lst_same {n : Nat} {F : Nat → Bool} {k x : Nat} (hs : smW F (2 ^ n) k x = true) : lst n F k x = (0, -1) := by
  show lsF n F (15 + 1) k x = _
  rw [lsF, if_pos hs]
theorem lst_le {n : Nat} (h4 : n ≤ 4) (F : Nat → Bool) {k x : Nat} (hk : k < 2 ^ n) (hx : x < 2 ^ n) : (lst n F k x).1 + popc k ≤ n :=
  (ls_ok h4 F 16 k x hk hx (by have := (p16 h4).2; omega)).1
/-- a question: the bit; where to go for no; for yes -/
abbrev Qn := Nat × Int × Int
/-- from r on, with k known of x, no more than d questions -/
inductive Tr (n : Nat) (F : Nat → Bool) (T : Nat → Qn) (j : Nat) : Int → Nat → Nat → Nat → Prop
  | leaf (r : Int) (k x : Nat) : r = (if F x = true then -2 else -1) → smW F (2 ^ n) k x = true → Tr n F T j r k x 0
  | node (q i k x d1 d2 : Nat) : q < j → (T q).1 = i → i < n → hasBit k i = false → Tr n F T j (T q).2.1 (setB k i) (clrB x i) d1 → Tr n F T j (T q).2.2 (setB k i) (setB x i) d2 → Tr n F T j (q : Int) k x (1 + max d1 d2)
theorem Tr.mono {n : Nat} {F : Nat → Bool} {T T' : Nat → Qn} {j j' : Nat} {r : Int} {k x d : Nat} (h : Tr n F T j r k x d) (hj : j ≤ j') (e : ∀ q, q < j → T' q = T q) : Tr n F T' j' r k x d := by
  induction h with
  | leaf r k x hr hs => exact .leaf r k x hr hs
  | node q i k x d1 d2 hq hi hin hb h1 h2 ih1 ih2 =>
    rw [← e q hq] at ih1 ih2
    exact .node q i k x d1 d2 (by omega) (by rw [e q hq]; exact hi) hin hb ih1 ih2
theorem st_yes : ∀ x : Nat, x < 16 → ∀ w : Nat, w < 16 → ∀ k : Nat, k < 16 → ∀ i : Nat, i < 4 → (x ^^^ w) &&& k = 0 → hasBit w i = true → (setB x i ^^^ w) &&& setB k i = 0 := by decide +kernel
theorem st_no : ∀ x : Nat, x < 16 → ∀ w : Nat, w < 16 → ∀ k : Nat, k < 16 → ∀ i : Nat, i < 4 → (x ^^^ w) &&& k = 0 → hasBit w i = false → (clrB x i ^^^ w) &&& setB k i = 0 := by decide +kernel
theorem xor_and0 {x y w k : Nat} (h : (x ^^^ w) &&& k = 0) (h2 : (w ^^^ y) &&& k = 0) : (x ^^^ y) &&& k = 0 := by
  apply Nat.eq_of_testBit_eq
  intro i
  have a := congrArg (·.testBit i) h
  have b := congrArg (·.testBit i) h2
  simp only [Nat.testBit_and, Nat.testBit_xor, Nat.zero_testBit] at a b ⊢
  revert a b
  generalize x.testBit i = p1; generalize y.testBit i = p2; generalize w.testBit i = p3; generalize k.testBit i = p4
  revert p1 p2 p3 p4
  decide
/-- a word that has the known bits is known as well -/
theorem sm_move {F : Nat → Bool} {m k x w : Nat} (h : smW F m k x = true) (hw : w < m) (e : (x ^^^ w) &&& k = 0) : F w = F x ∧ smW F m k w = true := by
  have h1 := smW_iff.1 h
  have h2 := h1 w hw e
  exact ⟨h2, smW_iff.2 fun y hy e2 => by rw [h2]; exact h1 y hy (xor_and0 e e2)⟩
/-- one question of the walk -/
theorem Tr.step {n : Nat} (h4 : n ≤ 4) {F : Nat → Bool} {T : Nat → Qn} {j q k x d w : Nat} (h : Tr n F T j (q : Int) k x d) (hk : k < 2 ^ n) (hx : x < 2 ^ n) (hw : w < 2 ^ n) (e : (x ^^^ w) &&& k = 0) :
    q < j ∧ (T q).1 < n ∧ ∃ k' x' d', Tr n F T j (if hasBit w (T q).1 = true then (T q).2.2 else (T q).2.1) k' x' d' ∧ k' < 2 ^ n ∧ x' < 2 ^ n ∧ (x' ^^^ w) &&& k' = 0 ∧ popc k' = popc k + 1 ∧ d' + 1 ≤ d := by
  have hp := (p16 h4).2
  generalize hr : (q : Int) = r at h
  cases h with
  | leaf _ _ _ hr' hs => exfalso; subst hr; split at hr' <;> omega
  | node q' i _ _ d1 d2 hq hi hin hb h1 h2 =>
    have : q = q' := by omega
    subst this
    obtain ⟨a1, a2, a3⟩ := setB_gt n (by omega) k (by omega) i (by omega) hk hin hb
    obtain ⟨b1, b2⟩ := sets_lt n (by omega) x (by omega) i (by omega) hx hin
    refine ⟨hq, by rw [hi]; exact hin, ?_⟩
    rw [hi]
    cases hbw : hasBit w i with
    | true =>
      rw [if_pos rfl]
      exact ⟨_, _, d2, h2, a2, b1, st_yes x (by omega) w (by omega) k (by omega) i (by omega) e hbw, a3, by omega⟩
    | false =>
      rw [if_neg (by decide)]
      exact ⟨_, _, d1, h1, a2, b2, st_no x (by omega) w (by omega) k (by omega) i (by omega) e hbw, a3, by omega⟩
/-- at an end it is known what the table says of the word -/
theorem Tr.end_ {n : Nat} (h4 : n ≤ 4) {F : Nat → Bool} {T : Nat → Qn} {j k x d w : Nat} {r : Int} (h : Tr n F T j r k x d) (hn : r < 0) (hw : w < 2 ^ n) (e : (x ^^^ w) &&& k = 0) :
    r = (if F w = true then -2 else -1) ∧ smW F (2 ^ n) k w = true := by
  cases h with
  | leaf _ _ _ hr' hs =>
    obtain ⟨a, b⟩ := sm_move hs hw e
    exact ⟨by rw [a]; exact hr', b⟩
  | node q' i _ _ d1 d2 hq hi hin hb h1 h2 => omega
end Go.Proofs.Ythaabgknolahaaa
