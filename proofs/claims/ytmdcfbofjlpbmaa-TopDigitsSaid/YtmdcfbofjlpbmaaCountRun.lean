/- What count.Turn and count.Run compute. Conditions: as each theorem states. -/
import Derived.Test.YtmdcfbofjlpbmaaCountMath
import Derived.Test.YtmdcfbofjlpbmaaCountRef
namespace Go.Proofs.Ytmdcfbofjlpbmaa
open Go.ChangeShapes Go.WideShapes Go.ChangeAt Go.RowKit
set_option linter.unusedVariables false
/-- behind one order: the counters lie in row g -/
def TurnRes (g : Nat) (cap m : Nat) (x0 x1 x2 x3 : Int) (C : Nat → Int) (w : World) (e : Ending) (w' : World) : Prop :=
  e = .returned (.int .i64 (tN x0 x1 x2 x3 C)) ∧ (∃ R', w'.rowIs g 3 cap R' ∧ ∀ i, i < m → R' i = .int .i64 (tC x0 x1 C i)) ∧ Below g w w'
set_option maxRecDepth 100000 in
set_option maxHeartbeats 1000000 in
theorem turn_any (x0 x1 x2 x3 : Int) (g cap m : Nat) (R : Nat → Value) (C : Nat → Int) (w : World) (hrow : w.rowIs g 3 cap R) (hR : ∀ i, i < m → R i = .int .i64 (C i)) (hmc : m ≤ cap) (hm : m ≤ 1000000000) (h1 : 0 ≤ x1 ∧ x1 < m) (hC : 0 ≤ C x1.toNat ∧ C x1.toNat ≤ 1000000000) :
    Calls Try.prog 20 #[.agg #[.int .i64 x0, .int .i64 x1, .int .i64 x2, .int .i64 x3], .slice (some ⟨g, 0, none⟩) m cap] w (TurnRes g cap m x0 x1 x2 x3 C w) := by
  obtain ⟨p, rfl⟩ := Int.eq_ofNat_of_zero_le h1.1
  have hp : p < m := by omega
  rw [Int.toNat_natCast] at hC
  obtain ⟨hC0, hC1⟩ := hC
  have hcell := hrow.cell (i := p) (by omega)
  rw [hR p hp] at hcell
  have hfz := hrow.frozen p
  have hg := hrow.lt
  have HR := Lib.hid hR
  have hT := turn_cases x0 p x2 x3 C
  rw [Int.toNat_natCast] at hT
  have HT := Lib.hid hT
  clear hT hR h1
  by_cases e0 : x0 = 1
  · obtain ⟨v, hv⟩ : ∃ v, v = C p := ⟨_, rfl⟩
    rw [← hv] at hcell hC0 hC1
    have HV := Lib.hid hv
    subst e0
    clear hv
    go_enter Try.func20, Try.ntmps20
    go_wp2_with fail
    go_ret
    rcases HT.out with ⟨_, e1, e2⟩ | ⟨n1, _⟩ | ⟨n1, _⟩
    · refine ⟨ret_int e2.symm, ⟨_, (hrow.set p _).alloc _, fun i hi => ?_⟩, ((Below.refl g w).setCell (p := ⟨g, p, none⟩) (Nat.le_refl _) _).alloc (by simp; omega) _⟩
      rw [e1]; unfold upd
      by_cases e : i = p
      · rw [if_pos e, if_pos e, HV.out]
      · rw [if_neg e, if_neg e, HR.out i hi]
    · exact absurd rfl n1
    · exact absurd rfl n1
  · have hq : (x0 == 1) = false := by rw [beq_eq_false_iff_ne]; exact e0
    have HE := Lib.hid e0
    clear e0
    by_cases ez : C p = 0
    · rw [ez] at hcell
      have HZ := Lib.hid ez
      clear ez
      go_enter Try.func20, Try.ntmps20
      go_wp2_with fail
      go_ret
      rcases HT.out with ⟨n1, _⟩ | ⟨_, _, e1, e2⟩ | ⟨_, n1, _⟩
      · exact absurd n1 HE.out
      · exact ⟨ret_int e2.symm, ⟨_, hrow.alloc _, fun i hi => by rw [e1]; exact HR.out i hi⟩, (Below.refl g w).alloc (by omega) _⟩
      · exact absurd HZ.out n1
    · obtain ⟨v, hv⟩ : ∃ v, v = C p := ⟨_, rfl⟩
      rw [← hv] at hcell hC0 hC1 ez
      have HV := Lib.hid hv
      have hq2 : (v == 0) = false := by rw [beq_eq_false_iff_ne]; exact ez
      have HZ := Lib.hid ez
      clear hv ez
      go_enter Try.func20, Try.ntmps20
      go_wp2_with fail
      go_ret
      rcases HT.out with ⟨n1, _⟩ | ⟨_, n1, _⟩ | ⟨_, _, e1, e2⟩
      · exact absurd n1 HE.out
      · exact absurd (HV.out.trans n1) HZ.out
      · refine ⟨ret_int e2.symm, ⟨_, (hrow.set p _).alloc _, fun i hi => ?_⟩, ((Below.refl g w).setCell (p := ⟨g, p, none⟩) (Nat.le_refl _) _).alloc (by simp; omega) _⟩
        rw [e1]; unfold upd
        by_cases e : i = p
        · rw [if_pos e, if_pos e, HV.out]
        · rw [if_neg e, if_neg e, HR.out i hi]
def outB (f : Nat → Int) (i : Nat) : Bool := decide (f i < 0 ∨ 20 < f i)
set_option maxRecDepth 100000 in
theorem out_any (x : Int) (b : Bool) (hb : b = decide (x < 0 ∨ 20 < x)) (w : World) :
    Calls Try.prog 18 #[.int .i64 x] w fun e w' => e = .returned (.bool b) ∧ w = w' := by
  by_cases h0 : x < 0
  · obtain rfl : b = true := by rw [hb]; exact decide_eq_true (.inl h0)
    clear hb
    go_enter Try.func18, Try.ntmps18
    go_wp2_with fail
    go_ret
    exact ⟨rfl, rfl⟩
  · by_cases h1 : 20 < x
    · obtain rfl : b = true := by rw [hb]; exact decide_eq_true (.inr h1)
      clear hb
      go_enter Try.func18, Try.ntmps18
      go_wp2_with fail
      go_ret
      exact ⟨rfl, rfl⟩
    · obtain rfl : b = false := by rw [hb]; exact decide_eq_false (by omega)
      clear hb
      go_enter Try.func18, Try.ntmps18
      go_wp2_with fail
      go_ret
      exact ⟨rfl, rfl⟩
theorem rgE_bd {f : Nat → Int} {m : Nat} (h : fstE (rgE f) m = 0) : ∀ i, i < m → 0 ≤ f i ∧ f i ≤ 20 := fun i hi => by
  have := fstE_zero.1 h i hi
  unfold rgE at this
  by_cases e : 0 ≤ f i ∧ f i ≤ 20
  · exact e
  · rw [if_neg e] at this; omega
/-- what is wrong with a run -/
def crE (cs : Int) (n : Nat) (F : Nat → Int) (m : Nat) (t : Int) (f : Nat → Int) : Int := if ckO cs n F = 0 then haE cs m t f else ckO cs n F
/-- what a run tells -/
def RunRes (cs : Int) (n : Nat) (F : Nat → Int) (m : Nat) (t : Int) (f : Nat → Int) (w : World) (e : Ending) (w' : World) : Prop :=
  Below w.heap.size w w' ∧ ((crE cs n F m t f ≠ 0 ∧ e = .returned (.tuple #[.slice none 0 0, .int .i64 0, .int .i64 0, .int .i64 (crE cs n F m t f)])) ∨
    (crE cs n F m t f = 0 ∧ ∃ A c', e = .returned (.tuple #[.slice A m c', .int .i64 (runS F n f 0 t.toNat).2, .int .i64 (runD F n f 0 t.toNat), .int .i64 0]) ∧ Rd w' A m (fun i => .int .i64 ((runS F n f 0 t.toNat).1 i)) ∧ m ≤ c'))
theorem rgE_out {f : Nat → Int} {m : Nat} : fstE (rgE f) m = 0 ↔ anyB (outB f) m = false := by
  rw [fstE_zero, anyB_false]
  constructor
  · intro h j hj
    have := h j hj
    unfold rgE at this
    unfold outB
    by_cases e : 0 ≤ f j ∧ f j ≤ 20
    · exact decide_eq_false (by omega)
    · rw [if_neg e] at this; omega
  · intro h j hj
    have := of_decide_eq_false (h j hj)
    exact if_pos (by omega)
theorem ckO_zero {cs : Int} {n : Nat} {F : Nat → Int} (h : ckO cs n F = 0) : (1 ≤ cs ∧ cs ≤ 4 ∧ 1 ≤ n ∧ n ≤ 12) ∧ ∀ k, k < n → oE cs n F k = 0 := by
  unfold ckO at h
  by_cases e : cs < 1 ∨ 4 < cs ∨ n < 1 ∨ 12 < n
  · rw [if_pos e] at h; omega
  · rw [if_neg e] at h; exact ⟨by omega, fstE_zero.1 h⟩
set_option maxRecDepth 100000 in
set_option maxHeartbeats 1000000 in
theorem run_any (cs t : Int) (A B : Option Addr) (n c m d : Nat) (F f : Nat → Int) (w : World) (h : Rd w A (n * 4) (fun q => .int .i64 (F q))) (hf : Rd w B m (fun q => .int .i64 (f q))) (hn : n ≤ maxLen) (hm : m ≤ maxLen) :
    Calls Try.prog 6 #[.int .i64 cs, .slice A n c, .slice B m d, .int .i64 t] w (RunRes cs n F m t f w) := by
  have H := Lib.hid h
  have G := Lib.hid hf
  have HN := Lib.hid hn
  have HM := Lib.hid hm
  unfold maxLen at hn hm
  clear h hf
  by_cases hck : ckO cs n F = 0
  · have er : crE cs n F m t f = haE cs m t f := if_pos hck
    obtain ⟨⟨c1, c4, n1, n12⟩, hoe⟩ := ckO_zero hck
    have HOE := Lib.hid hoe
    clear hoe
    by_cases hmc : (m : Int) = cs
    · have er2 : haE cs m t f = (if fstE (rgE f) m = 0 then (if 0 ≤ t ∧ t ≤ 400 then 0 else 7) else 4) := if_pos hmc
      have hq : ((m : Int) != cs) = false := by rw [bne_eq_false_iff_eq]; exact hmc
      have HMC := Lib.hid hmc
      clear hmc
      by_cases hr : fstE (rgE f) m = 0
      · rw [if_pos hr] at er2
        have r1 := rgE_out.1 hr
        have HR := Lib.hid hr
        clear hr
        by_cases ht : 0 ≤ t ∧ t ≤ 400
        · rw [if_pos ht] at er2
          have ER := Lib.hid (er.trans er2)
          obtain ⟨t0, t4⟩ := ht
          obtain ⟨T, rfl⟩ := Int.eq_ofNat_of_zero_le t0
          clear er er2
          go_enter Try.func6, Try.ntmps6
          go_wp2_with fail
          refine (check_any cs A n c F w H.out HN.out).mono ?_
          rintro e w1 ⟨rfl, hb1⟩
          rw [hck]
          clear hck
          go_wp2_with fail
          refine (containsP_any 18 #[] B m d f (outB f) _ (G.out.below hb1) HM.out (fun _ _ => rfl) (fun i _ => out_any _ _ rfl _)).mono ?_
          rintro e w' ⟨rfl, rfl⟩
          rw [r1]
          go_wp2_with fail
          refine (clone_any B m d f _ (G.out.below hb1) (by have := HMC.out; omega)).mono ?_
          rintro e w2 ⟨A2, c2, rfl, hown, hb2⟩
          have m1 : 0 < m := by have := HMC.out; omega
          obtain ⟨g, R0, rfl, hg, hrow0, hmc2, hR0⟩ := hown.row m1
          have hB2 := hb1.trans (hb2.mono hb1.size)
          have hgw : w.heap.size ≤ g := by have := hb1.size; omega
          have hT := ER.out
          clear hown hb1 hb2 r1 hT
          go_wp2_with fail
          go_loopw [14, 15] (fun s14 s15 wr => ∃ k : Nat, k ≤ T ∧ s14 = .int .i64 (runS F n f 0 k).2 ∧ s15 = .int .i64 k ∧ (∀ j, j < k → (runS F n f 0 j).2 < n) ∧ (∃ R, wr.rowIs g 3 c2 R ∧ ∀ i, i < m → R i = .int .i64 ((runS F n f 0 k).1 i)) ∧ Below w.heap.size w wr) (fun _ s15 _ => T - (intOf s15).toNat)
          case atStart => exact ⟨0, Nat.zero_le _, rfl, rfl, fun j hj => absurd hj (Nat.not_lt_zero _), ⟨R0, hrow0, hR0⟩, hB2⟩
          case round =>
            obtain ⟨wo, rfl⟩ : ∃ wo : World, wo = wr := ⟨_, rfl⟩
            obtain ⟨k, hk, rfl, rfl, hall0, ⟨R, hrow, hR⟩, hbel⟩ := hrel
            have hall := Lib.hid hall0
            clear hall0 hrow0 hR0 hB2
            obtain ⟨⟨i0, i1⟩, i2⟩ := run_inv (m := m) (M := 20) (C := f) (by have := HMC.out; omega) HOE.out ⟨Int.le_refl 0, by omega⟩ (rgE_bd HR.out) k
            have hst : runS F n f 0 (k + 1) = st1 F n (runS F n f 0 k) := rfl
            have hdn : (runS F n f 0 k).2 < n → k < T → True := fun _ _ => trivial
            have hend : ¬ ((runS F n f 0 k).2 < n) ∨ k = T → runS F n f 0 T = runS F n f 0 k ∧ runD F n f 0 T = k := fun h => by
              have hd : runD F n f 0 k = k := by
                have : ∀ j, j ≤ k → runD F n f 0 j = j := fun j => by
                  induction j with
                  | zero => intro _; rfl
                  | succ j ih =>
                    intro hj
                    have e : runD F n f 0 (j + 1) = if (runS F n f 0 j).2 < n then runD F n f 0 j + 1 else runD F n f 0 j := rfl
                    rw [e, if_pos (hall.out j (by omega)), ih (by omega)]
                exact this k (Nat.le_refl _)
              rcases h with h | h
              · obtain ⟨h1, h2⟩ := runS_stop h T hk
                exact ⟨h1, by rw [h2, hd]⟩
              · subst h; exact ⟨rfl, hd⟩
            have HEND := Lib.hid hend
            have HST := Lib.hid hst
            have HI2 := Lib.hid i2
            have hat := hall.out
            obtain ⟨s, hs⟩ : ∃ s, s = runS F n f 0 k := ⟨_, rfl⟩
            rw [← hs] at i0 i1 hR
            have HS := Lib.hid hs
            have HALL := Lib.hid hat
            clear hend hst i2 hat hdn
            rw [← hs]
            obtain ⟨q, hq2⟩ := Int.eq_ofNat_of_zero_le i0
            rw [hq2] at i1 ⊢
            have HQ := Lib.hid hq2
            clear hs hq2 i0
            by_cases hkT : k < T
            · by_cases hqn : q < n
              · obtain ⟨b, off, rfl, hb, f0, f1, f2, f3⟩ := (H.out.below hbel).at4 hqn
                obtain ⟨z0, ⟨z1, z2⟩, z3, z4⟩ := oE_zero (HOE.out q hqn)
                have hg2 := st1_go (F := F) (s := s) HQ.out hqn
                have hsn : runS F n f 0 (k + 1) = (tC (F (4 * q)) (F (4 * q + 1)) s.1, tN (F (4 * q)) (F (4 * q + 1)) (F (4 * q + 2)) (F (4 * q + 3)) s.1) := by rw [HST.out, ← HS.out, hg2]
                obtain ⟨x0, h0⟩ : ∃ x, x = F (4 * q) := ⟨_, rfl⟩
                obtain ⟨x1, h1⟩ : ∃ x, x = F (4 * q + 1) := ⟨_, rfl⟩
                obtain ⟨x2, h2⟩ : ∃ x, x = F (4 * q + 2) := ⟨_, rfl⟩
                obtain ⟨x3, h3⟩ : ∃ x, x = F (4 * q + 3) := ⟨_, rfl⟩
                rw [← h0, ← h1, ← h2, ← h3] at hsn
                rw [← h0] at f0
                rw [← h1] at f1 z1 z2
                rw [← h2] at f2
                rw [← h3] at f3
                have HSN := Lib.hid hsn
                have hCb := HI2.out x1.toNat (by have := HMC.out; omega)
                rw [← HS.out] at hCb
                have hx1m : x1 < (m : Int) := by have := HMC.out; omega
                clear z0 z3 z4 hg2 hsn h0 h1 h2 h3
                go_wp2_with fail
                refine (turn_any x0 x1 x2 x3 g c2 m R s.1 wo hrow hR hmc2 (by have := HMC.out; omega) ⟨z1, hx1m⟩ ⟨hCb.1, by omega⟩).mono ?_
                rintro e w3 ⟨rfl, ⟨R', hrow', hR'⟩, hb3⟩
                go_wp2_with fail
                go_roundw
                case rel => exact ⟨k + 1, by omega, by rw [HSN.out], by go_num, fun j hj => by
                  by_cases e : j = k
                  · subst e; rw [← HS.out, HQ.out]; omega
                  · exact HALL.out j (by omega), ⟨R', hrow', fun i hi => by rw [hR' i hi, HSN.out]⟩, hbel.trans (hb3.mono hgw)⟩
                case measure => simp [intOf]; omega
              · obtain ⟨he1, he2⟩ := HEND.out (.inl (by rw [← HS.out, HQ.out]; omega))
                have HE := Lib.hid (And.intro he1 he2)
                have HR2 := Lib.hid hR
                clear he1 he2 hR
                go_wp2_with fail
                refine bodyPost_ret (v := .tuple #[.slice (some ⟨g, 0, none⟩) m c2, .int .i64 q, .int .i64 k, .int .i64 0]) (by simp [results, Try.results6, go_sem]) rfl ⟨hbel, .inr ⟨ER.out, some ⟨g, 0, none⟩, c2, ?_, ?_, hmc2⟩⟩
                · rw [Int.toNat_natCast, HE.out.1, HE.out.2, ← HS.out, HQ.out]
                · rw [Int.toNat_natCast, HE.out.1, ← HS.out]
                  exact (Rd.of_row hrow hmc2).congr HR2.out
            · obtain ⟨he1, he2⟩ := HEND.out (.inr (by omega))
              have HE := Lib.hid (And.intro he1 he2)
              have HR2 := Lib.hid hR
              clear he1 he2 hR
              go_wp2_with fail
              refine bodyPost_ret (v := .tuple #[.slice (some ⟨g, 0, none⟩) m c2, .int .i64 q, .int .i64 k, .int .i64 0]) (by simp [results, Try.results6, go_sem]) rfl ⟨hbel, .inr ⟨ER.out, some ⟨g, 0, none⟩, c2, ?_, ?_, hmc2⟩⟩
              · rw [Int.toNat_natCast, HE.out.1, HE.out.2, ← HS.out, HQ.out]
              · rw [Int.toNat_natCast, HE.out.1, ← HS.out]
                exact (Rd.of_row hrow hmc2).congr HR2.out
        · rw [if_neg ht] at er2
          have ER := Lib.hid (er.trans er2)
          have ht2 : t < 0 ∨ 400 < t := by omega
          clear er er2 ht
          rcases ht2 with ht | ht
          · go_enter Try.func6, Try.ntmps6
            go_wp2_with fail
            refine (check_any cs A n c F w H.out HN.out).mono ?_
            rintro e w1 ⟨rfl, hb1⟩
            rw [hck]
            go_wp2_with fail
            refine (containsP_any 18 #[] B m d f (outB f) _ (G.out.below hb1) HM.out (fun _ _ => rfl) (fun i _ => out_any _ _ rfl _)).mono ?_
            rintro e w' ⟨rfl, rfl⟩
            rw [r1]
            go_wp2_with fail
            exact bodyPost_ret (v := .tuple #[.slice none 0 0, .int .i64 0, .int .i64 0, .int .i64 7]) (by simp [results, Try.results6, go_sem]) rfl ⟨hb1, .inl ⟨by rw [ER.out]; decide, by rw [ER.out]⟩⟩
          · go_enter Try.func6, Try.ntmps6
            go_wp2_with fail
            refine (check_any cs A n c F w H.out HN.out).mono ?_
            rintro e w1 ⟨rfl, hb1⟩
            rw [hck]
            go_wp2_with fail
            refine (containsP_any 18 #[] B m d f (outB f) _ (G.out.below hb1) HM.out (fun _ _ => rfl) (fun i _ => out_any _ _ rfl _)).mono ?_
            rintro e w' ⟨rfl, rfl⟩
            rw [r1]
            go_wp2_with fail
            exact bodyPost_ret (v := .tuple #[.slice none 0 0, .int .i64 0, .int .i64 0, .int .i64 7]) (by simp [results, Try.results6, go_sem]) rfl ⟨hb1, .inl ⟨by rw [ER.out]; decide, by rw [ER.out]⟩⟩
      · rw [if_neg hr] at er2
        have ER := Lib.hid (er.trans er2)
        have r1 : anyB (outB f) m = true := by
          cases e : anyB (outB f) m
          · exact absurd (rgE_out.2 e) hr
          · rfl
        clear er er2 hr
        go_enter Try.func6, Try.ntmps6
        go_wp2_with fail
        refine (check_any cs A n c F w H.out HN.out).mono ?_
        rintro e w1 ⟨rfl, hb1⟩
        rw [hck]
        go_wp2_with fail
        refine (containsP_any 18 #[] B m d f (outB f) _ (G.out.below hb1) HM.out (fun _ _ => rfl) (fun i _ => out_any _ _ rfl _)).mono ?_
        rintro e w' ⟨rfl, rfl⟩
        rw [r1]
        go_wp2_with fail
        exact bodyPost_ret (v := .tuple #[.slice none 0 0, .int .i64 0, .int .i64 0, .int .i64 4]) (by simp [results, Try.results6, go_sem]) rfl ⟨hb1, .inl ⟨by rw [ER.out]; decide, by rw [ER.out]⟩⟩
    · have er2 : haE cs m t f = 3 := if_neg hmc
      have ER := Lib.hid (er.trans er2)
      have hq : ((m : Int) != cs) = true := by rw [bne_iff_ne]; exact hmc
      clear er er2 hmc
      go_enter Try.func6, Try.ntmps6
      go_wp2_with fail
      refine (check_any cs A n c F w H.out HN.out).mono ?_
      rintro e w1 ⟨rfl, hb1⟩
      rw [hck]
      go_wp2_with fail
      exact bodyPost_ret (v := .tuple #[.slice none 0 0, .int .i64 0, .int .i64 0, .int .i64 3]) (by simp [results, Try.results6, go_sem]) rfl ⟨hb1, .inl ⟨by rw [ER.out]; decide, by rw [ER.out]⟩⟩
  · have er : crE cs n F m t f = ckO cs n F := if_neg hck
    have ER := Lib.hid er
    have HCK := Lib.hid hck
    have hq : (ckO cs n F != 0) = true := by rw [bne_iff_ne]; exact hck
    clear er hck
    go_enter Try.func6, Try.ntmps6
    go_wp2_with fail
    refine (check_any cs A n c F w H.out HN.out).mono ?_
    rintro e w1 ⟨rfl, hb1⟩
    go_wp2_with fail
    exact bodyPost_ret (v := .tuple #[.slice none 0 0, .int .i64 0, .int .i64 0, .int .i64 (ckO cs n F)]) (by simp [results, Try.results6, go_sem]) rfl ⟨hb1, .inl ⟨by rw [ER.out]; exact HCK.out, by rw [ER.out]⟩⟩
end Go.Proofs.Ytmdcfbofjlpbmaa
