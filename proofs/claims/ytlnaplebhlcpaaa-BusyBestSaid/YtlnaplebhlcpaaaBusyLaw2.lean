/- What a run of one machine from an empty tape says for the longest and the most. No condition. -/
import Derived.Test.YtlnaplebhlcpaaaBusyLaw
import Derived.Test.YtlnaplebhlcpaaaBusyNum
import Derived.Test.YtlnaplebhlcpaaaTapeMach
namespace Go.Proofs.Ytlnaplebhlcpaaa
set_option linter.unusedVariables false
def y00 : Ab := ⟨0, 0, 0, 0, 0⟩
def c00 : Cf := ⟨fun _ => 0, 0, 0⟩
theorem begin_c00 (g : Nat → Int) : begin0 g 0 = c00 := by unfold begin0 c00; rw [laid_zero]
theorem smF_zero (a : Int) (k : Nat) : smF (fun _ => 0) a k = 0 := by
  induction k with
  | zero => rfl
  | succ k ih => show smF (fun _ => 0) a k + 0 = 0; rw [ih]; rfl
theorem smF_out {f : Int → Int} {a : Int} {k : Nat} (h : ∀ i : Nat, i < k → f (a + i) = 0) : smF f a k = 0 := by
  induction k with
  | zero => rfl
  | succ k ih => show smF f a k + f (a + k) = 0; rw [ih fun i hi => h i (by omega), h k (by omega)]; rfl
theorem smF_add (f : Int → Int) (a : Int) (p q : Nat) : smF f a (p + q) = smF f a p + smF f (a + p) q := by
  induction q with
  | zero => show smF f a p = smF f a p + 0; omega
  | succ q ih =>
    show smF f a (p + q) + f (a + ((p + q : Nat) : Int)) = smF f a p + (smF f (a + p) q + f (a + p + q))
    rw [ih, show a + ((p + q : Nat) : Int) = a + p + q by omega]; omega
theorem smF_win {f : Int → Int} {h lo hi : Int} {N : Nat} (a : Sp f h lo hi) (hN : (N : Int) = hi - lo + 1) (h0 : -61 ≤ lo) (h1 : hi ≤ 61) : smF f lo N = smF f (-61) 123 := by
  obtain ⟨p, hp⟩ := Int.eq_ofNat_of_zero_le (show 0 ≤ lo + 61 by omega)
  obtain ⟨q, hq⟩ := Int.eq_ofNat_of_zero_le (show 0 ≤ 61 - hi by omega)
  have e : 123 = p + (N + q) := by omega
  rw [e, smF_add, smF_add, smF_out (k := p) (fun i hi => ?_), smF_out (a := -61 + (p : Int) + (N : Int)) (k := q) (fun i hi => ?_), show -61 + (p : Int) = lo by omega]
  · omega
  · by_cases e0 : f (-61 + (p : Int) + (N : Int) + i) = 0
    · exact e0
    · have := a.2.1 _ e0; omega
  · by_cases e0 : f (-61 + (i : Int)) = 0
    · exact e0
    · have := a.2.1 _ e0; omega
theorem c00_re (n : Nat) : ReA n c00 y00 := ⟨rfl, rfl, fun i => by show (0 : Int) = ((0 / 2 ^ i % 2 : Nat) : Int); rw [Nat.zero_div]; rfl, fun i => by show (0 : Int) = ((0 / 2 ^ i % 2 : Nat) : Int); rw [Nat.zero_div]; rfl, smF_zero _ _, Nat.le_refl _⟩
theorem c00_gc (n : Nat) : Gc n 2 0 c00 := ⟨fun x => by show (0 : Int) ≤ 0 ∧ (0 : Int) < (2 : Nat); omega, Nat.zero_le _, by show -((0 : Nat) : Int) ≤ (0 : Int) ∧ (0 : Int) ≤ ((0 : Nat) : Int); omega, fun x hx => absurd rfl hx⟩
theorem TbA.gt {n : Nat} {T : Nat → Nat → Int} (h : TbA n T) : Gt n 2 T := fun s hs k hk => by
  obtain ⟨a, b, c⟩ := h s hs k hk
  exact ⟨by omega, by omega, c⟩
theorem run_re {n : Nat} {T : Nat → Nat → Int} (hT : TbA n T) : ∀ d, d ≤ 60 → (∀ j, j < d → (itC T j c00).s < n) → ReA n (itC T d c00) (itA n (cdA n T) d y00) ∧ (itA n (cdA n T) d y00).s < 2 := by
  intro d
  induction d with
  | zero => intro _ _; exact ⟨c00_re n, by show 0 < 2; omega⟩
  | succ d ih =>
    intro hd hj
    obtain ⟨i1, i2⟩ := ih (by omega) fun j hj' => hj j (by omega)
    have g := ((c00_gc n).it hT.gt d fun j hj' => hj j (by omega)).2.2.1
    rw [itA_snoc]
    exact i1.step hT (hj d (by omega)) (by omega) i2
theorem itA_o {n : Nat} {Q : Nat → Nat} (hQ : ∀ i, Q i < 4 * (n + 1)) : ∀ d, (itA n Q d y00).o ≤ d := by
  intro d
  induction d with
  | zero => exact Nat.le_refl _
  | succ d ih =>
    rw [itA_snoc]
    have hw : Q (2 * (itA n Q d y00).st + (itA n Q d y00).s) / (2 * (n + 1)) < 2 := by
      rw [Nat.div_lt_iff_lt_mul (by omega)]
      have := hQ (2 * (itA n Q d y00).st + (itA n Q d y00).s)
      omega
    unfold stA mvA
    cases Nat.beq (Q (2 * (itA n Q d y00).st + (itA n Q d y00).s) / (n + 1) % 2) 1
    · show (itA n Q d y00).o + _ - _ ≤ _; omega
    · show (itA n Q d y00).o + _ - _ ≤ _; omega
theorem BkR.tb {n : Nat} {R : Nat → SI} (h : BkR n R) : TbA n (TR R) := fun q hq j hj => (h q hq).2 j hj
/-- what one machine's run has: does it stand, and with how many 1s -/
def StB (n : Nat) (T : Nat → Nat → Int) (d : Nat) : Prop := n ≤ (itC T d c00).s
def onB (T : Nat → Nat → Int) (d : Nat) : Int := smF (itC T d c00).f (-61) 123
theorem busy_bound {n : Nat} {T : Nat → Nat → Int} (hn : n = 1 ∨ n = 2) (hT : TbA n T) {d steps : Nat} (hst : steps ≤ 60) (hd : Dn n T steps d c00) (hh : StB n T d) :
    (0 ≤ onB T d ∧ onB T d ≤ d) ∧ (n = 1 → d ≤ 1 ∧ onB T d ≤ 1) ∧ (n = 2 → d ≤ 6 ∧ onB T d ≤ 4) := by
  have hd60 : d ≤ 60 := by have := hd.1; omega
  obtain ⟨r1, r2⟩ := run_re hT d hd60 hd.2.1
  have e : onB T d = ((itA n (cdA n T) d y00).o : Nat) := r1.o
  have hle := itA_o (cdA_lt hT) d
  have hs : (itA n (cdA n T) d y00).st = n := by
    have h1 : n ≤ (itC T d c00).s := hh
    have h2 := ((c00_gc n).it hT.gt d hd.2.1).2.1
    rw [← r1.st]; omega
  have hb : ∀ i, i < d → (itA n (cdA n T) i y00).st ≠ n := fun i hi h => by
    have h1 := (run_re hT i (by omega) fun j hj => hd.2.1 j (by omega)).1.st
    have h2 := hd.2.1 i hi
    omega
  have hu : ∀ i, (fun _ : Nat => 100) i < 4 * (n + 1) → (fun _ : Nat => 100) i = cdA n T i := fun i hi => by
    have hi' : 100 < 4 * (n + 1) := hi
    omega
  refine ⟨⟨by omega, by omega⟩, fun h => ?_, fun h => ?_⟩
  · subst h
    have := chk_sound (cdA_lt hT) 60 _ y00 0 chk1 hu d hd60 hb hs
    rw [e]; omega
  · subst h
    have := chk_sound (cdA_lt hT) 60 _ y00 0 chk2 hu d hd60 hb hs
    rw [e]; omega
theorem cdA_vl {n : Nat} {R : Nat → SI} {i : Nat} (h : i < 2 * n) : cdA n (TR R) i = (vlB n R i).toNat := by unfold cdA; rw [if_pos h]; rfl
/-- the digits of the machine 13652 -/
def Q4 (i : Nat) : Nat := if i = 0 then 7 else if i = 1 then 10 else if i = 2 then 9 else if i = 3 then 8 else 0
theorem q4_runs : (itA 2 Q4 6 y00).st = 2 ∧ (itA 2 Q4 6 y00).o = 4 ∧ ∀ i, i < 6 → (itA 2 Q4 i y00).st ≠ 2 := by
  refine ⟨by decide, by decide, by decide⟩
theorem busy_two {R : Nat → SI} (hB : BkR 2 R) (hk : nmB 2 R 4 = 13652) {d steps : Nat} (h6 : 6 ≤ steps) (hst : steps ≤ 60) (hd : Dn 2 (TR R) steps d c00) : StB 2 (TR R) d ∧ d = 6 ∧ onB (TR R) d = 4 := by
  have v0 := vlB_bd hB (.inr rfl) (x := 0) (by omega)
  have v1 := vlB_bd hB (.inr rfl) (x := 1) (by omega)
  have v2 := vlB_bd hB (.inr rfl) (x := 2) (by omega)
  have v3 := vlB_bd hB (.inr rfl) (x := 3) (by omega)
  have e : ((((0 : Int) * (4 * ((2 : Nat) + 1)) + vlB 2 R 0) * (4 * ((2 : Nat) + 1)) + vlB 2 R 1) * (4 * ((2 : Nat) + 1)) + vlB 2 R 2) * (4 * ((2 : Nat) + 1)) + vlB 2 R 3 = 13652 := hk
  have hv : vlB 2 R 0 = 7 ∧ vlB 2 R 1 = 10 ∧ vlB 2 R 2 = 9 ∧ vlB 2 R 3 = 8 := by omega
  have hQ : cdA 2 (TR R) = Q4 := by
    funext i
    by_cases hi : i < 4
    · rw [cdA_vl (by omega)]
      have : i = 0 ∨ i = 1 ∨ i = 2 ∨ i = 3 := by omega
      rcases this with rfl | rfl | rfl | rfl
      · rw [hv.1]; rfl
      · rw [hv.2.1]; rfl
      · rw [hv.2.2.1]; rfl
      · rw [hv.2.2.2]; rfl
    · unfold cdA Q4
      rw [if_neg (by omega), if_neg (by omega), if_neg (by omega), if_neg (by omega), if_neg (by omega)]
  obtain ⟨q1, q2, q3⟩ := q4_runs
  have hlt : ∀ m, m ≤ 6 → ∀ j, j < m → (itC (TR R) j c00).s < 2 := by
    intro m
    induction m with
    | zero => intro _ j hj; omega
    | succ m ih =>
      intro hm j hj
      by_cases ej : j = m
      · subst ej
        have := (run_re hB.tb j (by omega) (ih (by omega))).1.st
        rw [hQ] at this
        have h2 := q3 j (by omega)
        have h3 := ((c00_gc 2).it hB.tb.gt j (ih (by omega))).2.1
        omega
      · exact ih (by omega) j (by omega)
  have h6s := (run_re hB.tb 6 (by omega) (hlt 6 (by omega))).1
  rw [hQ] at h6s
  have hd6 : Dn 2 (TR R) steps 6 c00 := ⟨h6, hlt 6 (by omega), .inr (by rw [h6s.st, q1]; exact Nat.le_refl _)⟩
  obtain rfl := hd.uniq hd6
  exact ⟨by show 2 ≤ _; rw [h6s.st, q1]; exact Nat.le_refl _, rfl, by show smF _ _ _ = _; rw [h6s.o, q2]; rfl⟩
theorem busy_one {R : Nat → SI} (hB : BkR 1 R) {k : Int} (hk : nmB 1 R 2 = k) {d steps : Nat} (h6 : 6 ≤ steps) (hst : steps ≤ 60) (hd : Dn 1 (TR R) steps d c00) :
    (StB 1 (TR R) d ↔ k / 8 % 2 = 1) ∧ (k = 40 → d = 1 ∧ onB (TR R) d = 1) := by
  have v0 := vlB_bd hB (.inl rfl) (x := 0) (by omega)
  have v1 := vlB_bd hB (.inl rfl) (x := 1) (by omega)
  have e : ((0 : Int) * (4 * ((1 : Nat) + 1)) + vlB 1 R 0) * (4 * ((1 : Nat) + 1)) + vlB 1 R 1 = k := hk
  have hk8 : k / 8 = vlB 1 R 0 := by omega
  obtain ⟨b0, b1, b2⟩ := hB.tb 0 (by omega) 0 (by omega)
  have ev : vlB 1 R 0 = (2 * TR R 0 (3 * 0) + (TR R 0 (3 * 0 + 1) + 1) / 2) * (((1 : Nat) : Int) + 1) + TR R 0 (3 * 0 + 2) := rfl
  have hs1 : (itC (TR R) 1 c00).s = (TR R 0 (3 * 0 + 2)).toNat := rfl
  have hf1 : (itC (TR R) 1 c00).f = fun y => if y = 0 then TR R 0 (3 * 0) else 0 := rfl
  have hh : (StB 1 (TR R) d ↔ TR R 0 (3 * 0 + 2) = 1) := by
    constructor
    · intro h
      have hb := (busy_bound (.inl rfl) hB.tb hst hd h).2.1 rfl
      have h1 : 1 ≤ (itC (TR R) d c00).s := h
      have : d = 0 ∨ d = 1 := by omega
      rcases this with rfl | rfl
      · have : (itC (TR R) 0 c00).s = 0 := rfl
        omega
      · rw [hs1] at h1; omega
    · intro h
      have h1 : Dn 1 (TR R) steps 1 c00 := ⟨by omega, fun j hj => (by rw [show j = 0 by omega]; show 0 < 1; omega), .inr (by rw [hs1, h]; decide)⟩
      obtain rfl := hd.uniq h1
      show 1 ≤ (itC (TR R) 1 c00).s
      rw [hs1, h]; decide
  refine ⟨hh.trans ?_, fun h40 => ?_⟩
  · rw [hk8, ev]
    constructor
    · intro h; omega
    · intro h; omega
  · have hn : TR R 0 (3 * 0 + 2) = 1 ∧ TR R 0 (3 * 0) = 1 := by omega
    have h1 : Dn 1 (TR R) steps 1 c00 := ⟨by omega, fun j hj => (by rw [show j = 0 by omega]; show 0 < 1; omega), .inr (by rw [hs1, hn.1]; decide)⟩
    obtain rfl := hd.uniq h1
    refine ⟨rfl, ?_⟩
    show smF (itC (TR R) 1 c00).f (-61) 123 = 1
    rw [hf1, hn.2, smF_set (f := fun _ => 0) (by omega), smF_zero]; rfl
/-- how many of the first j machines of one state stand -/
def cn1 : Nat → Int
  | 0 => 0
  | j + 1 => cn1 j + if (j : Int) / 8 % 2 = 1 then 1 else 0
theorem cn1_64 : cn1 64 = 32 := by decide
/-- where the walk over the machines is -/
def MsB (n steps j : Nat) (long ones many : Int) : Prop :=
  (0 ≤ long ∧ long ≤ steps) ∧ (0 ≤ ones ∧ ones ≤ long) ∧ (0 ≤ many ∧ many ≤ j) ∧ (6 ≤ steps → n = 1 → long ≤ 1 ∧ many = cn1 j ∧ (40 < j → 1 ≤ long ∧ 1 ≤ ones)) ∧ (6 ≤ steps → n = 2 → long ≤ 6 ∧ ones ≤ 4 ∧ (13652 < j → 6 ≤ long ∧ 4 ≤ ones))
theorem MsB.start (n steps : Nat) : MsB n steps 0 0 0 0 := ⟨by omega, by omega, by omega, fun _ _ => ⟨by omega, rfl, by omega⟩, fun _ _ => ⟨by omega, by omega, by omega⟩⟩
theorem MsB.skip {n steps j d : Nat} {long ones many : Int} {R : Nat → SI} (h : MsB n steps j long ones many) (hn : n = 1 ∨ n = 2) (hB : BkR n R) (hk : nmB n R (2 * n) = j) (hst : steps ≤ 60) (hd : Dn n (TR R) steps d c00) (hs : ¬ StB n (TR R) d) : MsB n steps (j + 1) long ones many := by
  obtain ⟨a, b, c, h1, h2⟩ := h
  refine ⟨a, b, by omega, fun h6 e => ?_, fun h6 e => ?_⟩
  · obtain ⟨x, y, z⟩ := h1 h6 e
    subst e
    obtain ⟨o1, o2⟩ := busy_one hB hk h6 hst hd
    refine ⟨x, ?_, fun hj => ?_⟩
    · show many = cn1 j + if (j : Int) / 8 % 2 = 1 then 1 else 0
      rw [if_neg (fun h => hs (o1.2 h)), y]; omega
    · by_cases e : j = 40
      · subst e; exact absurd (o1.2 (by decide)) hs
      · exact z (by omega)
  · obtain ⟨x, y, z⟩ := h2 h6 e
    subst e
    refine ⟨x, y, fun hj => ?_⟩
    by_cases e : j = 13652
    · subst e; exact absurd (busy_two hB hk h6 hst hd).1 hs
    · exact z (by omega)
theorem MsB.take {n steps j d : Nat} {long ones many : Int} {R : Nat → SI} (h : MsB n steps j long ones many) (hn : n = 1 ∨ n = 2) (hB : BkR n R) (hk : nmB n R (2 * n) = j) (hst : steps ≤ 60) (hd : Dn n (TR R) steps d c00) (hs : StB n (TR R) d) :
    MsB n steps (j + 1) (if long < (d : Int) then (d : Int) else long) (if ones < onB (TR R) d then onB (TR R) d else ones) (many + 1) := by
  obtain ⟨a, b, c, h1, h2⟩ := h
  obtain ⟨b1, b2, b3⟩ := busy_bound hn hB.tb hst hd hs
  have hds := hd.1
  have q1 : long ≤ (if long < (d : Int) then (d : Int) else long) ∧ (d : Int) ≤ (if long < (d : Int) then (d : Int) else long) ∧ ((if long < (d : Int) then (d : Int) else long) = d ∨ (if long < (d : Int) then (d : Int) else long) = long) := by
    split <;> omega
  have q2 : ones ≤ (if ones < onB (TR R) d then onB (TR R) d else ones) ∧ onB (TR R) d ≤ (if ones < onB (TR R) d then onB (TR R) d else ones) ∧ ((if ones < onB (TR R) d then onB (TR R) d else ones) = onB (TR R) d ∨ (if ones < onB (TR R) d then onB (TR R) d else ones) = ones) := by
    split <;> omega
  generalize (if long < (d : Int) then (d : Int) else long) = L at q1 ⊢
  generalize (if ones < onB (TR R) d then onB (TR R) d else ones) = O at q2 ⊢
  refine ⟨by omega, by omega, by omega, fun h6 e => ?_, fun h6 e => ?_⟩
  · obtain ⟨x, y, z⟩ := h1 h6 e
    have b2' := b2 e
    subst e
    obtain ⟨o1, o2⟩ := busy_one hB hk h6 hst hd
    refine ⟨by omega, ?_, fun hj => ?_⟩
    · show many + 1 = cn1 j + if (j : Int) / 8 % 2 = 1 then 1 else 0
      rw [if_pos (o1.1 hs), y]
    · by_cases e : j = 40
      · have := o2 (by omega); omega
      · have := z (by omega); omega
  · obtain ⟨x, y, z⟩ := h2 h6 e
    have b3' := b3 e
    subst e
    refine ⟨by omega, by omega, fun hj => ?_⟩
    by_cases e : j = 13652
    · have := busy_two hB (hk.trans (by omega)) h6 hst hd; omega
    · have := z (by omega); omega
end Go.Proofs.Ytlnaplebhlcpaaa
