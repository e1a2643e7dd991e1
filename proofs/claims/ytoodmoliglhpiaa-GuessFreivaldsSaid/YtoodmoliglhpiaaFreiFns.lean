/- What guess.wrong says of three squares. Condition: the rows read as told. -/
import Derived.Test.YtoodmoliglhpiaaConcat
import Derived.Test.YtoodmoliglhpiaaConcatV
import Derived.Test.YtoodmoliglhpiaaPredW
import Derived.Test.YtoodmoliglhpiaaInside
import Derived.Test.YtoodmoliglhpiaaFreiLaw
import Derived.WalkSpells
namespace Go.Proofs.Ytoodmoliglhpiaa
open Go.ChangeShapes Go.WideShapes Go.ChangeAt Go.RowKit
set_option linter.unusedVariables false
set_option linter.unusedSimpArgs false
theorem anyB_iffF {p : Nat → Bool} {m : Nat} : anyB p m = true ↔ ∃ i, i < m ∧ p i = true := by unfold anyB; exact decide_eq_true_iff
structure MX where
  A : Option Addr
  n : Nat
  c : Nat
  R : Nat → SI
def MX.val (m : MX) : Value := .slice m.A m.n m.c
def MX.good (w : World) (m : MX) : Prop := Rd w m.A m.n (fun i => (m.R i).val) ∧ (∀ i, i < m.n → (m.R i).good w) ∧ m.n ≤ m.c ∧ m.c ≤ maxLen
theorem MX.good.below {w w' : World} {m : MX} (h : m.good w) (hb : Below w.heap.size w w') : m.good w' := ⟨h.1.below hb, fun i hi => (h.2.1 i hi).below hb, h.2.2⟩
/-- the squares may be -/
def okM (L : Nat → MX) : Prop := (1 ≤ (L 0).n ∧ (L 0).n ≤ 4) ∧ (∀ k, k < 3 → (L k).n = (L 0).n ∧ ∀ i, i < (L 0).n → ((L k).R i).n = (L 0).n) ∧ ∀ k, k < 3 → ∀ i, i < (L 0).n → ∀ j, j < (L 0).n → 0 ≤ ((L k).R i).f j ∧ ((L k).R i).f j < 7
/-- the numbers of the first i rows, one row behind the other -/
def ccI (R : Nat → SI) : Nat → Nat → Int
  | 0 => fun _ => 0
  | i + 1 => fun q => if q < szR R i then ccI R i q else (R i).f (q - szR R i)
theorem ccI_eq (R : Nat → SI) : ∀ i q, ccR R i q = .int .i64 (ccI R i q)
  | 0, _ => rfl
  | i + 1, q => by
    simp only [ccR, ccI]
    unfold cat
    split
    · exact ccI_eq R i q
    · rfl
theorem any_cc (p : Int → Bool) (R : Nat → SI) : ∀ n, anyB (fun q => p (ccI R n q)) (szR R n) = anyB (fun i => anyB (fun j => p ((R i).f j)) (R i).n) n
  | 0 => rfl
  | n + 1 => by
    have ih := any_cc p R n
    rw [Bool.eq_iff_iff, anyB_iffF, anyB_iffF] at ih ⊢
    constructor
    · rintro ⟨q, hq, hp⟩
      simp only [ccI] at hp
      by_cases h : q < szR R n
      · rw [if_pos h] at hp
        obtain ⟨i, hi, h1⟩ := ih.1 ⟨q, h, hp⟩
        exact ⟨i, by omega, h1⟩
      · rw [if_neg h] at hp
        exact ⟨n, by omega, anyB_iffF.2 ⟨q - szR R n, by simp only [szR] at hq; omega, hp⟩⟩
    · rintro ⟨i, hi, hp⟩
      by_cases e : i = n
      · subst e
        obtain ⟨j, hj, h1⟩ := anyB_iffF.1 hp
        refine ⟨szR R i + j, by simp only [szR]; omega, ?_⟩
        simp only [ccI]
        rw [if_neg (by omega), show szR R i + j - szR R i = j by omega]; exact h1
      · obtain ⟨q, hq, h1⟩ := ih.2 ⟨i, by omega, hp⟩
        refine ⟨q, by simp only [szR]; omega, ?_⟩
        simp only [ccI]
        rw [if_pos hq]; exact h1
theorem szR_all {R : Nat → SI} {s : Nat} : ∀ {n : Nat}, (∀ i, i < n → (R i).n = s) → szR R n = n * s
  | 0, _ => by simp [szR]
  | n + 1, h => by
    simp only [szR]
    rw [szR_all (n := n) fun i hi => h i (by omega), h n (by omega), Nat.succ_mul]
/-- all rows of the squares, one behind the other -/
def allR (L : Nat → MX) (n : Nat) (q : Nat) : SI := (L (q / n)).R (q % n)
def svL (L : Nat → MX) (n k : Nat) : SV := ⟨(L k).A, n, (L k).c, fun i => ((L k).R i).val⟩
theorem szV_all (L : Nat → MX) (n : Nat) : ∀ k, szRV (svL L n) k = k * n
  | 0 => by simp [szRV]
  | k + 1 => by simp only [szRV]; rw [szV_all L n k, Nat.succ_mul]; rfl
theorem ccV_eq (L : Nat → MX) {n : Nat} (hn : 0 < n) : ∀ k q, q < k * n → ccRV (svL L n) k q = (allR L n q).val
  | 0, q, h => by omega
  | k + 1, q, h => by
    simp only [ccRV]
    rw [szV_all]
    by_cases e : q < k * n
    · rw [cat_lt e]; exact ccV_eq L hn k q e
    · rw [cat_ge (by omega)]
      rw [Nat.succ_mul] at h
      have e1 : q / n = k := by
        rw [show q = (q - k * n) + k * n by omega, Nat.add_mul_div_right _ _ hn, Nat.div_eq_of_lt (by omega), Nat.zero_add]
      have e2 : q % n = q - k * n := by
        have := Nat.div_add_mod q n
        rw [e1, Nat.mul_comm] at this; omega
      unfold allR
      rw [e1, e2]; rfl
theorem any_all (L : Nat → MX) (p : SI → Bool) {n : Nat} (hn : 0 < n) : anyB (fun q => p (allR L n q)) (3 * n) = true ↔ ∃ k, k < 3 ∧ ∃ i, i < n ∧ p ((L k).R i) = true := by
  rw [anyB_iffF]
  constructor
  · rintro ⟨q, hq, h⟩
    exact ⟨q / n, by rw [Nat.div_lt_iff_lt_mul hn]; exact hq, q % n, Nat.mod_lt _ hn, h⟩
  · rintro ⟨k, hk, i, hi, h⟩
    refine ⟨i + k * n, ?_, ?_⟩
    · have : k * n ≤ 2 * n := Nat.mul_le_mul_right n (by omega)
      omega
    · unfold allR
      rw [Nat.add_mul_div_right _ _ hn, Nat.div_eq_of_lt hi, Nat.zero_add, Nat.add_mul_mod_self_right, Nat.mod_eq_of_lt hi]; exact h
def lnS (n : Nat) (R : Nat → SI) (i : Nat) : Bool := ((R i).n : Int) != (n : Int)
def outS (x : Int) : Bool := decide (x < 0 ∨ 7 ≤ x)
set_option maxRecDepth 100000 in
theorem lenS_any (A : Option Addr) (m c n g : Nat) (w : World) (h : w.cell? ⟨g, 0, none⟩ = some (.int .i64 (n : Nat))) : Calls Try.prog 33 #[.slice A m c, .pointer (some ⟨g, 0, none⟩)] w fun e w' => e = .returned (.bool ((m : Int) != (n : Int))) ∧ w = w' := by
  go_enter Try.func33, Try.ntmps33
  go_wp2_with fail
  go_ret
  exact ⟨rfl, rfl⟩
set_option maxRecDepth 100000 in
theorem outS_any (x : Int) (w : World) : Calls Try.prog 36 #[.int .i64 x] w fun e w' => e = .returned (.bool (outS x)) ∧ w = w' := by
  by_cases h1 : x < 0
  · have e1 := Lib.hid (show outS x = true by unfold outS; rw [decide_eq_true_eq]; exact .inl h1)
    go_enter Try.func36, Try.ntmps36
    go_wp2_with fail
    go_ret
    exact ⟨ret_bool e1.out.symm, rfl⟩
  · by_cases h2 : 7 ≤ x
    · have e1 := Lib.hid (show outS x = true by unfold outS; rw [decide_eq_true_eq]; exact .inr h2)
      go_enter Try.func36, Try.ntmps36
      go_wp2_with fail
      go_ret
      exact ⟨ret_bool e1.out.symm, rfl⟩
    · have e1 := Lib.hid (show outS x = false by unfold outS; rw [decide_eq_false_iff_not]; omega)
      go_enter Try.func36, Try.ntmps36
      go_wp2_with fail
      go_ret
      exact ⟨ret_bool e1.out.symm, rfl⟩
set_option maxRecDepth 100000 in
set_option maxHeartbeats 2000000 in
theorem wrongS_any (g0 : Nat) (L : Nat → MX) (w : World) (h : Rd w (some ⟨g0, 0, none⟩) 3 (fun k => (L k).val)) (hL : ∀ k, k < 3 → (L k).good w) :
    Calls Try.prog 25 #[.slice (some ⟨g0, 0, none⟩) 3 3] w fun e w' => (∃ x : Int, e = .returned (.int .i64 x) ∧ (x = 0 ↔ okM L)) ∧ Below w.heap.size w w' := by
  obtain ⟨b0, o0, e0, hgl, hc00⟩ := h (by omega)
  cases e0
  have c0 := hc00 0 (by omega)
  have HL := Lib.hid hL
  have H := Lib.hid h
  obtain ⟨n, hn⟩ : ∃ n, n = (L 0).n := ⟨_, rfl⟩
  obtain ⟨A0, hA0⟩ : ∃ n, n = (L 0).A := ⟨_, rfl⟩
  obtain ⟨cc0, hcc0⟩ : ∃ n, n = (L 0).c := ⟨_, rfl⟩
  have c0' : w.cell? ⟨g0, 0, none⟩ = some (.slice A0 n cc0) := by rw [c0, hn, hA0, hcc0]; rfl
  have hnm : n ≤ 9223372036854775807 := by have := (hL 0 (by omega)).2.2; rw [← hn] at this; unfold maxLen at this; omega
  have HN := Lib.hid hn
  clear h hL hc00 c0 hn hA0 hcc0
  have hok : okM L ↔ (1 ≤ n ∧ n ≤ 4) ∧ (∀ k, k < 3 → (L k).n = n ∧ ∀ i, i < n → ((L k).R i).n = n) ∧ ∀ k, k < 3 → ∀ i, i < n → ∀ j, j < n → 0 ≤ ((L k).R i).f j ∧ ((L k).R i).f j < 7 := by unfold okM; rw [← HN.out]
  have HOK := Lib.hid hok
  clear hok
  have HB1 : Hid (Below w.heap.size w (w.alloc (.cells #[.int .i64 (n : Nat)] 3))) := Lib.hid ((Below.refl w.heap.size w).alloc (Nat.le_refl _) (.cells #[.int .i64 (n : Nat)] 3))
  by_cases h1 : n < 1
  · go_enter Try.func25, Try.ntmps25
    go_wp2_with fail
    go_ret
    exact ⟨⟨1, rfl, (fun h => by omega), fun h => absurd (HOK.out.1 h).1.1 (by omega)⟩, HB1.out⟩
  by_cases h2 : 4 < n
  · go_enter Try.func25, Try.ntmps25
    go_wp2_with fail
    go_ret
    exact ⟨⟨1, rfl, (fun h => by omega), fun h => absurd (HOK.out.1 h).1.2 (by omega)⟩, HB1.out⟩
  obtain ⟨W1, hW1⟩ : ∃ W, W = w.alloc (.cells #[.int .i64 (n : Nat)] 3) := ⟨_, rfl⟩
  have hcell : W1.cell? ⟨w.heap.size, 0, none⟩ = some (.int .i64 (n : Nat)) := by rw [hW1]; simp
  have HC1 := Lib.hid hcell
  have HW1 := Lib.hid hW1
  rw [← hW1] at HB1
  clear hcell hW1
  go_enter Try.func25, Try.ntmps25
  go_wp2_with fail
  rw [← HW1.out]
  clear c0'
  have hcn := HC1.out
  go_loop [18] (fun s18 => ∃ k : Nat, k ≤ 3 ∧ s18 = .int .i64 (k : Nat) ∧ Hid (∀ k', k' < k → (L k').n = n ∧ ∀ i, i < n → ((L k').R i).n = n)) (fun s18 => 3 - (intOf s18).toNat)
  case atStart => exact ⟨0, by omega, rfl, Lib.hid (fun k' h => absurd h (Nat.not_lt_zero _))⟩
  case round =>
    obtain ⟨k, hk, rfl, HALL⟩ := hrel
    by_cases hlt : k < 3
    · obtain ⟨b, off, e', _, hc⟩ := (H.out.below HB1.out).at_ hlt
      cases e'
      rw [Nat.zero_add] at hc
      have hgd := (HL.out k hlt).below HB1.out
      obtain ⟨m, hm⟩ : ∃ m, m = L k := ⟨_, rfl⟩
      rw [← hm] at hc hgd
      have HM := Lib.hid hm
      obtain ⟨mA, mn, mc, mR⟩ := m
      have hc' : W1.cell? ⟨g0, k, none⟩ = some (.slice mA mn mc) := hc
      have hmm : mn ≤ 9223372036854775807 := by have := hgd.2.2; unfold maxLen at this; simp only at this; omega
      by_cases hmn : mn = n
      · subst hmn
        have hcl := containsW_any 33 #[.pointer (some ⟨w.heap.size, 0, none⟩)] mA mn mc (fun i => (mR i).val) (lnS mn mR) W1 hgd.1 (Nat.le_trans hgd.2.2.1 hgd.2.2.2) (fun _ _ => rfl) (fun i hi => lenS_any _ _ _ _ _ _ HC1.out)
        obtain ⟨r, hr⟩ : ∃ r, r = anyB (lnS mn mR) mn := ⟨_, rfl⟩
        rw [← hr] at hcl
        have HCL := Lib.hid hcl
        have HR := Lib.hid hr
        have q1 : ((mn : Int) != (mn : Int)) = false := by simp
        clear hc hgd hm hcl hr
        go_wp2_with fail
        refine HCL.out.mono ?_
        rintro e w' ⟨rfl, rfl⟩
        clear HCL
        cases r
        · go_wp2_with fail
          go_round
          case rel => exact ⟨k + 1, by omega, by go_num, Lib.hid (fun k' h => by
            by_cases e : k' = k
            · subst e
              rw [← HM.out]
              refine ⟨rfl, fun i hi => ?_⟩
              have := anyB_false.1 HR.out.symm i hi
              unfold lnS at this
              have e := bne_eq_false_iff_eq.1 this
              show (mR i).n = mn
              omega
            · exact HALL.out k' (by omega))⟩
          case measure => simp [intOf]; omega
        · have HNO : Hid (¬ okM L) := Lib.hid (fun h => by
            obtain ⟨i, hi, e⟩ := anyB_iffF.1 HR.out.symm
            have := ((HOK.out.1 h).2.1 k hlt).2 i hi
            rw [← HM.out] at this
            have this' : (mR i).n = mn := this
            unfold lnS at e
            rw [this'] at e
            simp at e)
          go_wp2_with fail
          go_ret
          exact ⟨⟨3, rfl, (fun h => by omega), fun h => absurd h HNO.out⟩, HB1.out⟩
      · have HNO : Hid (¬ okM L) := Lib.hid (fun h => by
          have := ((HOK.out.1 h).2.1 k hlt).1
          rw [← HM.out] at this
          exact hmn this)
        have q1 : ((mn : Int) != (n : Int)) = true := by rw [bne_iff_ne]; omega
        clear hc hgd hm
        go_wp2_with fail
        go_ret
        exact ⟨⟨3, rfl, (fun h => by omega), fun h => absurd h HNO.out⟩, HB1.out⟩
    · obtain rfl : k = 3 := by omega
      have hlen := HALL.out
      have hok2 : okM L ↔ ∀ k, k < 3 → ∀ i, i < n → ∀ j, j < n → 0 ≤ ((L k).R i).f j ∧ ((L k).R i).f j < 7 := by
        rw [HOK.out]
        exact ⟨fun h => h.2.2, fun h => ⟨by omega, hlen, h⟩⟩
      have HOK2 := Lib.hid hok2
      have n0 : 0 < n := by omega
      clear hok2
      have hc3 := concat_anyV (some ⟨g0, 0, none⟩) 3 3 (svL L n) W1 ((H.out.below HB1.out).congr fun k hk => by
        show _ = SV.val (svL L n k)
        unfold svL SV.val MX.val
        rw [(hlen k hk).1]) (fun k hk => by
          have := ((HL.out k hk).below HB1.out).1
          rw [(hlen k hk).1] at this
          exact this) (fun i j => rfl) (by omega) (by rw [szV_all]; omega)
      have HC3 := Lib.hid hc3
      clear hc3 hlen hcn
      go_wp2_with fail
      refine HC3.out.mono ?_
      rintro e w2 ⟨⟨A1, c1, rfl, hown⟩, hb2⟩
      clear HC3
      rw [szV_all] at hown ⊢
      have hb2w := HB1.out.trans (hb2.mono HB1.out.size)
      have hr2 : Rd w2 A1 (3 * n) (fun q => (allR L n q).val) := hown.rd.congr fun q hq => ccV_eq L n0 3 q hq
      have hlen := HALL.out
      have hrows : ∀ q, q < 3 * n → (allR L n q).good w2 := fun q hq => by
        have hk3 : q / n < 3 := by rw [Nat.div_lt_iff_lt_mul n0]; exact hq
        have := (HL.out (q / n) hk3).2.1 (q % n) (by rw [(hlen _ hk3).1]; exact Nat.mod_lt _ n0)
        exact this.below hb2w
      have hcnt : ∀ q, q < 3 * n → (allR L n q).n = n := fun q hq => by
        have hk3 : q / n < 3 := by rw [Nat.div_lt_iff_lt_mul n0]; exact hq
        exact (hlen (q / n) hk3).2 (q % n) (Nat.mod_lt _ n0)
      have hnn : n * n ≤ 16 := by
        have := Nat.mul_le_mul (show n ≤ 4 by omega) (show n ≤ 4 by omega); omega
      have hs3 : szR (allR L n) (3 * n) ≤ 48 := by
        rw [szR_all hcnt, Nat.mul_assoc]; omega
      have hc4 := concat_any A1 (3 * n) c1 (allR L n) w2 hr2 (fun q hq => (hrows q hq).1) (by omega) (by omega)
      have hany : anyB (fun q => outS (ccI (allR L n) (3 * n) q)) (szR (allR L n) (3 * n)) = true ↔ ¬ okM L := by
        rw [any_cc outS, HOK2.out]
        rw [any_all L (fun s => anyB (fun j => outS (s.f j)) s.n) n0]
        constructor
        · rintro ⟨k, hk, i, hi, h⟩ hh
          obtain ⟨j, hj, h'⟩ := anyB_iffF.1 h
          rw [(hlen k hk).2 i hi] at hj
          have := hh k hk i hi j hj
          have := of_decide_eq_true h'
          omega
        · intro hh
          refine Classical.byContradiction fun hc => hh fun k hk i hi j hj => ?_
          refine Classical.byContradiction fun hb => hc ⟨k, hk, i, hi, anyB_iffF.2 ⟨j, by rw [(hlen k hk).2 i hi]; exact hj, decide_eq_true (by omega)⟩⟩
      have HANY := Lib.hid hany
      have HC4 := Lib.hid hc4
      have HB2 := Lib.hid hb2w
      have HS3 := Lib.hid hs3
      clear hown hb2 hb2w hr2 hlen hrows hcnt hc4 hany hs3
      go_wp2_with fail
      refine HC4.out.mono ?_
      rintro e w3 ⟨⟨A3, c3, rfl, hown3⟩, hb3⟩
      clear HC4
      have hcp := containsP_any 36 #[] A3 (szR (allR L n) (3 * n)) c3 (ccI (allR L n) (3 * n)) (fun q => outS (ccI (allR L n) (3 * n) q)) w3 (hown3.rd.congr fun q _ => ccI_eq _ _ q) (by have := HS3.out; unfold maxLen; omega) (fun _ _ => rfl) (fun i hi => outS_any _ _)
      obtain ⟨r, hr⟩ : ∃ r, r = anyB (fun q => outS (ccI (allR L n) (3 * n) q)) (szR (allR L n) (3 * n)) := ⟨_, rfl⟩
      rw [← hr] at hcp HANY
      obtain ⟨z, hz⟩ : ∃ z, z = szR (allR L n) (3 * n) := ⟨_, rfl⟩
      rw [← hz] at hcp ⊢
      have HCP := Lib.hid hcp
      have HB3 := Lib.hid (HB2.out.trans (hb3.mono HB2.out.size))
      clear hown3 hb3 hcp hr hz
      go_wp2_with fail
      refine HCP.out.mono ?_
      rintro e w4 ⟨rfl, rfl⟩
      clear HCP
      cases r
      · go_wp2_with fail
        go_ret
        exact ⟨⟨0, rfl, (fun _ => Classical.byContradiction fun h => by cases HANY.out.2 h), fun _ => rfl⟩, HB3.out⟩
      · go_wp2_with fail
        go_ret
        exact ⟨⟨4, rfl, (fun h => by omega), fun h => absurd h (HANY.out.1 (by simp))⟩, HB3.out⟩
set_option maxRecDepth 100000 in
set_option maxHeartbeats 2000000 in
theorem squares_any (a b c : MX) (w : World) (ha : a.good w) (hb : b.good w) (hc : c.good w) :
    Calls Try.prog 13 #[a.val, b.val, c.val] w fun e w' => (∃ x : Int, e = .returned (.int .i64 x) ∧ (x = 0 ↔ okM (fun k => if k = 0 then a else if k = 1 then b else c))) ∧ Below w.heap.size w w' := by
  obtain ⟨aA, n, ac, aR⟩ := a
  obtain ⟨bA, bn, bc, bR⟩ := b
  obtain ⟨cA, cn, cc, cR⟩ := c
  obtain ⟨L, hL⟩ : ∃ L : Nat → MX, L = fun k => if k = 0 then (⟨aA, n, ac, aR⟩ : MX) else if k = 1 then ⟨bA, bn, bc, bR⟩ else ⟨cA, cn, cc, cR⟩ := ⟨_, rfl⟩
  rw [← hL]
  have L0 : L 0 = ⟨aA, n, ac, aR⟩ := by rw [hL]; rfl
  have hgood : ∀ k, k < 3 → (L k).good w := fun k hk => by
    rw [hL]
    match k, hk with
    | 0, _ => exact ha
    | 1, _ => exact hb
    | 2, _ => exact hc
  have hval : ∀ W : World, ∀ e, Rd (W.alloc (.cells #[.slice aA n ac, .slice bA bn bc, .slice cA cn cc] e)) (some ⟨W.heap.size, 0, none⟩) 3 (fun k => (L k).val) := fun W e => fun _ => ⟨W.heap.size, 0, rfl, by simp, fun k hk => by
    rw [cell_of_row _ W.heap.size (0 + k) #[.slice aA n ac, .slice bA bn bc, .slice cA cn cc] e (0, 0) (heap_alloc_new W _), hL]
    match k, hk with
    | 0, _ => rfl
    | 1, _ => rfl
    | 2, _ => rfl⟩
  have hok : okM L ↔ (1 ≤ n ∧ n ≤ 4) ∧ (∀ k, k < 3 → (L k).n = n ∧ ∀ i, i < n → ((L k).R i).n = n) ∧ ∀ k, k < 3 → ∀ i, i < n → ∀ j, j < n → 0 ≤ ((L k).R i).f j ∧ ((L k).R i).f j < 7 := by unfold okM; rw [L0]
  have hnm : n ≤ 9223372036854775807 := by have := ha.2.2; unfold maxLen at this; simp only at this; omega
  have HG := Lib.hid hgood
  have HV := Lib.hid hval
  have HOK := Lib.hid hok
  clear hgood hval hok ha hb hc hL L0
  show Calls Try.prog 13 #[.slice aA n ac, .slice bA bn bc, .slice cA cn cc] w _
  by_cases hn : ¬ (1 ≤ n ∧ n ≤ 4)
  · have hin : inB 1 (n : Int) 4 = false := inB_no (by omega)
    have HIN := Lib.hid hin
    clear hin
    go_enter Try.func13, Try.ntmps13
    go_wp2_with fail
    refine (within_any 1 n 4 w).mono ?_
    rintro e w' ⟨rfl, rfl⟩
    rw [HIN.out]
    go_wp2_with fail
    go_ret
    exact ⟨⟨1, rfl, (fun h => by omega), fun h => absurd (HOK.out.1 h).1 hn⟩, Below.refl _ _⟩
  · have n1 : 1 ≤ n := by omega
    have n4 : n ≤ 4 := by omega
    have hin : inB 1 (n : Int) 4 = true := inB_yes (by omega) (by omega)
    have HIN := Lib.hid hin
    clear hin hn
    obtain ⟨W1, hW1⟩ : ∃ W, W = w.alloc (.cells #[.slice aA n ac, .slice bA bn bc, .slice cA cn cc] 35) := ⟨_, rfl⟩
    have hb1 : Below w.heap.size w W1 := by rw [hW1]; exact (Below.refl _ _).alloc (Nat.le_refl _) _
    have hr1 : Rd W1 (some ⟨w.heap.size, 0, none⟩) 3 (fun k => (L k).val) := by rw [hW1]; exact HV.out w _
    have HB1 := Lib.hid hb1
    have HR1 := Lib.hid hr1
    have HW1 := Lib.hid hW1
    clear hb1 hr1 hW1
    go_enter Try.func13, Try.ntmps13
    go_wp2_with fail
    refine (within_any 1 n 4 w).mono ?_
    rintro e w' ⟨rfl, rfl⟩
    rw [HIN.out]
    go_wp2_with fail
    rw [← HW1.out]
    go_loop [26] (fun s26 => ∃ k : Nat, k ≤ 3 ∧ s26 = .int .i64 (k : Nat) ∧ Hid (∀ k', k' < k → (L k').n = n ∧ ∀ i, i < n → ((L k').R i).n = n)) (fun s26 => 3 - (intOf s26).toNat)
    case atStart => exact ⟨0, by omega, rfl, Lib.hid (fun k' h => absurd h (Nat.not_lt_zero _))⟩
    case round =>
      obtain ⟨k, hk, rfl, HALL⟩ := hrel
      by_cases hlt : k < 3
      · obtain ⟨b, off, e', _, hc⟩ := HR1.out.at_ hlt
        cases e'
        rw [Nat.zero_add] at hc
        have hgd := (HG.out k hlt).below HB1.out
        obtain ⟨m, hm⟩ : ∃ m, m = L k := ⟨_, rfl⟩
        rw [← hm] at hc hgd
        have HM := Lib.hid hm
        obtain ⟨mA, mn, mc, mR⟩ := m
        have hc' : W1.cell? ⟨w.heap.size, k, none⟩ = some (.slice mA mn mc) := hc
        have hmm : mn ≤ 9223372036854775807 := by have := hgd.2.2; unfold maxLen at this; simp only at this; omega
        by_cases hmn : mn = n
        · subst hmn
          have q1 : ((mn : Int) != (mn : Int)) = false := by simp
          have HRM : Hid (Rd W1 mA mn (fun i => (mR i).val)) := Lib.hid hgd.1
          have HGM : Hid (∀ i, i < mn → (mR i).good W1) := Lib.hid hgd.2.1
          clear hc hgd hm
          go_wp2_with fail
          go_loop [36] (fun s36 => ∃ i : Nat, i ≤ mn ∧ s36 = .int .i64 (i : Nat) ∧ Hid (∀ i', i' < i → (mR i').n = mn)) (fun s36 => mn - (intOf s36).toNat)
          case atStart => exact ⟨0, Nat.zero_le _, rfl, Lib.hid (fun i' h => absurd h (Nat.not_lt_zero _))⟩
          case round =>
            obtain ⟨i, hi, rfl, HI⟩ := hrel
            by_cases hlt2 : i < mn
            · obtain ⟨b2, o2, rfl, _, hcr⟩ := HRM.out.at_ hlt2
              have hg2 := HGM.out i hlt2
              obtain ⟨y, hy⟩ : ∃ y, y = mR i := ⟨_, rfl⟩
              rw [← hy] at hcr hg2
              have HY := Lib.hid hy
              obtain ⟨ya, yn, yc, yf⟩ := y
              have hcr' : W1.cell? ⟨b2, o2 + i, none⟩ = some (.slice ya yn yc) := hcr
              have hym : yn ≤ 9223372036854775807 := by have := hg2.2.2; unfold maxLen at this; simp only at this; omega
              clear hcr hg2 hy
              by_cases hyn : yn = mn
              · have q2 : ((yn : Int) != (mn : Int)) = false := by rw [hyn]; simp
                have HYN := Lib.hid hyn
                clear hyn
                go_wp2_with fail
                go_round
                case rel => exact ⟨i + 1, by omega, by go_num, Lib.hid (fun i' h => by
                  by_cases e : i' = i
                  · subst e; rw [← HY.out]; exact HYN.out
                  · exact HI.out i' (by omega))⟩
                case measure => simp [intOf]; omega
              · have q2 : ((yn : Int) != (mn : Int)) = true := by rw [bne_iff_ne]; omega
                have HNO : Hid (¬ okM L) := Lib.hid (fun h => by
                  have := ((HOK.out.1 h).2.1 k hlt).2 i hlt2
                  rw [← HM.out] at this
                  have this' : (mR i).n = mn := this
                  rw [← HY.out] at this'
                  exact hyn this')
                go_wp2_with fail
                go_ret
                exact ⟨⟨3, rfl, (fun h => by omega), fun h => absurd h HNO.out⟩, HB1.out⟩
            · obtain rfl : i = mn := by omega
              go_wp2_with fail
              go_round
              case rel => exact ⟨k + 1, by omega, by go_num, Lib.hid (fun k' h => by
                by_cases e : k' = k
                · subst e; rw [← HM.out]; exact ⟨rfl, HI.out⟩
                · exact HALL.out k' (by omega))⟩
              case measure => simp [intOf]; omega
        · have HNO : Hid (¬ okM L) := Lib.hid (fun h => by
            have := ((HOK.out.1 h).2.1 k hlt).1
            rw [← HM.out] at this
            exact hmn this)
          have q1 : ((mn : Int) != (n : Int)) = true := by rw [bne_iff_ne]; omega
          clear hc hgd hm
          go_wp2_with fail
          go_ret
          exact ⟨⟨3, rfl, (fun h => by omega), fun h => absurd h HNO.out⟩, HB1.out⟩
      · obtain rfl : k = 3 := by omega
        have hlen := HALL.out
        have hok2 : okM L ↔ ∀ k, k < 3 → ∀ i, i < n → ∀ j, j < n → 0 ≤ ((L k).R i).f j ∧ ((L k).R i).f j < 7 := by
          rw [HOK.out]
          exact ⟨fun h => h.2.2, fun h => ⟨by omega, hlen, h⟩⟩
        have HOK2 := Lib.hid hok2
        obtain ⟨W2, hW2⟩ : ∃ W, W = W1.alloc (.cells #[.slice aA n ac, .slice bA bn bc, .slice cA cn cc] 35) := ⟨_, rfl⟩
        have hb2 : Below w.heap.size w W2 := HB1.out.trans (by rw [hW2]; exact ((Below.refl _ _).alloc (Nat.le_refl _) _).mono HB1.out.size)
        have hr2 : Rd W2 (some ⟨W1.heap.size, 0, none⟩) 3 (fun k => (L k).val) := by rw [hW2]; exact HV.out W1 _
        have HB2 := Lib.hid hb2
        have HR2 := Lib.hid hr2
        have HW2 := Lib.hid hW2
        clear hok2 hb2 hr2 hW2 hlen
        go_wp2_with fail
        rw [← HW2.out]
        go_loop [51] (fun s51 => ∃ k : Nat, k ≤ 3 ∧ s51 = .int .i64 (k : Nat) ∧ Hid (∀ k', k' < k → ∀ i, i < n → ∀ j, j < n → 0 ≤ ((L k').R i).f j ∧ ((L k').R i).f j < 7)) (fun s51 => 3 - (intOf s51).toNat)
        case atStart => exact ⟨0, by omega, rfl, Lib.hid (fun k' h => absurd h (Nat.not_lt_zero _))⟩
        case round =>
          obtain ⟨k, hk, rfl, HA2⟩ := hrel
          by_cases hlt3 : k < 3
          · obtain ⟨b, off, e', _, hc⟩ := HR2.out.at_ hlt3
            cases e'
            rw [Nat.zero_add] at hc
            have hgd := (HG.out k hlt3).below HB2.out
            have hln := HALL.out k hlt3
            obtain ⟨m, hm⟩ : ∃ m, m = L k := ⟨_, rfl⟩
            rw [← hm] at hc hgd hln
            have HM := Lib.hid hm
            obtain ⟨mA, mn, mc, mR⟩ := m
            obtain rfl : mn = n := hln.1
            have hc' : W2.cell? ⟨W1.heap.size, k, none⟩ = some (.slice mA mn mc) := hc
            have HRM : Hid (Rd W2 mA mn (fun i => (mR i).val)) := Lib.hid hgd.1
            have HGM : Hid (∀ i, i < mn → (mR i).good W2) := Lib.hid hgd.2.1
            have HLN : Hid (∀ i, i < mn → (mR i).n = mn) := Lib.hid hln.2
            clear hc hgd hm hln
            go_wp2_with fail
            go_loop [57] (fun s57 => ∃ i : Nat, i ≤ mn ∧ s57 = .int .i64 (i : Nat) ∧ Hid (∀ i', i' < i → ∀ j, j < mn → 0 ≤ (mR i').f j ∧ (mR i').f j < 7)) (fun s57 => mn - (intOf s57).toNat)
            case atStart => exact ⟨0, Nat.zero_le _, rfl, Lib.hid (fun i' h => absurd h (Nat.not_lt_zero _))⟩
            case round =>
              obtain ⟨i, hi, rfl, HI⟩ := hrel
              by_cases hlt2 : i < mn
              · obtain ⟨b2, o2, rfl, _, hcr⟩ := HRM.out.at_ hlt2
                have hg2 := HGM.out i hlt2
                have hyl := HLN.out i hlt2
                obtain ⟨y, hy⟩ : ∃ y, y = mR i := ⟨_, rfl⟩
                rw [← hy] at hcr hg2 hyl
                have HY := Lib.hid hy
                obtain ⟨ya, yn, yc, yf⟩ := y
                obtain rfl : yn = mn := hyl
                have hcr' : W2.cell? ⟨b2, o2 + i, none⟩ = some (.slice ya yn yc) := hcr
                have hins := inside_any 7 ya yn yc yf W2 hg2.1 (Nat.le_trans hg2.2.2.1 hg2.2.2.2)
                obtain ⟨r, hr⟩ : ∃ r, r = insB 7 yn yf := ⟨_, rfl⟩
                rw [← hr] at hins
                have HINS := Lib.hid hins
                have HR := Lib.hid hr
                clear hcr hg2 hy hins hr
                go_wp2_with fail
                refine HINS.out.mono ?_
                rintro e w5 ⟨rfl, rfl⟩
                clear HINS
                cases r
                · have HNO : Hid (¬ okM L) := Lib.hid (fun h => by
                    have h1 := HOK2.out.1 h k hlt3 i hlt2
                    rw [← HM.out] at h1
                    have h2 : insB 7 yn yf = true := insB_iff.2 fun j hj => by
                      have h3 := h1 j hj
                      have h4 : 0 ≤ (mR i).f j ∧ (mR i).f j < 7 := h3
                      rw [← HY.out] at h4
                      exact h4
                    rw [← HR.out] at h2; cases h2)
                  go_wp2_with fail
                  go_ret
                  exact ⟨⟨4, rfl, (fun h => by omega), fun h => absurd h HNO.out⟩, HB2.out⟩
                · go_wp2_with fail
                  go_round
                  case rel => exact ⟨i + 1, by omega, by go_num, Lib.hid (fun i' h => by
                    by_cases e : i' = i
                    · subst e; rw [← HY.out]; exact insB_iff.1 HR.out.symm
                    · exact HI.out i' (by omega))⟩
                  case measure => simp [intOf]; omega
              · obtain rfl : i = mn := by omega
                go_wp2_with fail
                go_round
                case rel => exact ⟨k + 1, by omega, by go_num, Lib.hid (fun k' h => by
                  by_cases e : k' = k
                  · subst e; rw [← HM.out]; exact HI.out
                  · exact HA2.out k' (by omega))⟩
                case measure => simp [intOf]; omega
          · obtain rfl : k = 3 := by omega
            go_wp2_with fail
            go_ret
            exact ⟨⟨0, rfl, (fun _ => HOK2.out.2 HA2.out), fun _ => rfl⟩, HB2.out⟩
end Go.Proofs.Ytoodmoliglhpiaa
