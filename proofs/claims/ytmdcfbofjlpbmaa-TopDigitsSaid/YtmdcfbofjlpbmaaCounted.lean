/- What the reference's Counted computes. Conditions: the orders are such as may be, the counters within bounds. -/
import Derived.Test.YtmdcfbofjlpbmaaCountMath
import Derived.Test.YtmdcfbofjlpbmaaCountRun
import Derived.Deep.RegionLaw
namespace Go.Proofs.Ytmdcfbofjlpbmaa
open Go.ChangeShapes Go.WideShapes Go.ChangeAt Go.RowKit
set_option linter.unusedVariables false
def CtdRet (F : Nat → Int) (n : Nat) (f : Nat → Int) (m T : Nat) (w : World) (e : Ending) (w' : World) : Prop :=
  Below w.heap.size w w' ∧ ∃ A c, e = .returned (.tuple #[.slice A m c, .int .i64 (runS F n f 0 T).2, .int .i64 (runD F n f 0 T)]) ∧ Rd w' A m (fun i => .int .i64 ((runS F n f 0 T).1 i)) ∧ m ≤ c ∧ c ≤ maxLen
set_option maxRecDepth 100000 in
set_option maxHeartbeats 2000000 in
theorem counted_any (A : Option Addr) (n c : Nat) (F : Nat → Int) (B : Option Addr) (m d : Nat) (f : Nat → Int) (T : Nat) (w : World) (h : Rd w A (n * 4) (fun q => .int .i64 (F q))) (hB : Rd w B m (fun i => .int .i64 (f i)))
    (hn : n ≤ 1000) (hm1 : 1 ≤ m) (hm4 : m ≤ 4) (hoe : ∀ k, k < n → oE m n F k = 0) (hf : ∀ i, i < m → 0 ≤ f i ∧ f i ≤ 1000) (hT : T ≤ 20000) :
    Calls Try.prog 10 #[.slice A n c, .slice B m d, .int .i64 0, .int .i64 T] w (CtdRet F n f m T w) := by
  have H := Lib.hid h
  have HBR := Lib.hid hB
  have HOE := Lib.hid hoe
  have HF := Lib.hid hf
  clear h hB hoe hf
  go_enter Try.func10, Try.ntmps10
  go_wp2_with (at_builtin; refine wpList_app _ rfl (.tmp 14) (.tmp 15) 23 rfl EIc rfl (Own.empty w w.heap.size 3 1 (fun _ => .int .i64 0) (Nat.le_refl _)) rfl (l := m) (by omega) (HBR.out.alloc _) (fun _ _ => rfl) (by unfold maxLen; omega) (by omega) (by simp) m m (by omega) (by omega) ?_; intro A1 c1 w1 hown1 hg1 hat1 hbl1; have HO1 := Lib.hid hown1; have HB1 := Lib.hid (((Below.refl w.heap.size w).alloc (Nat.le_refl _) (.cells #[] 3)).trans hbl1); clear hown1 hg1 hat1 hbl1)
  obtain ⟨g, R0, rfl, hg, hrow0, hmc, hR0⟩ := HO1.out.row hm1
  have HR0 : Hid (∀ i, i < m → R0 i = .int .i64 (f i)) := Lib.hid fun i hi => by rw [hR0 i hi, cat_ge (Nat.zero_le _), Nat.sub_zero]
  have hle := HO1.out.le.2
  clear hR0
  go_loopw [2, 12] (fun s2 s12 wr => ∃ k : Nat, k ≤ T ∧ s2 = .int .i64 (runS F n f 0 k).2 ∧ s12 = .int .i64 (k : Nat) ∧ Hid (∀ j, j < k → (runS F n f 0 j).2 < n) ∧ (∃ R, wr.rowIs g 3 c1 R ∧ Hid (∀ i, i < m → R i = .int .i64 ((runS F n f 0 k).1 i))) ∧ Hid (Below w.heap.size w wr)) (fun _ s12 _ => T - (intOf s12).toNat)
  case atStart => exact ⟨0, Nat.zero_le _, rfl, rfl, Lib.hid (fun j hj => absurd hj (Nat.not_lt_zero _)), ⟨R0, hrow0, HR0⟩, HB1⟩
  case round =>
    obtain ⟨wo, rfl⟩ : ∃ wo : World, wo = wr := ⟨_, rfl⟩
    obtain ⟨k, hk, rfl, rfl, HALL, ⟨R, hrow, HR⟩, HBO⟩ := hrel
    clear hrow0 HR0 HB1 HO1
    obtain ⟨⟨i0, i1⟩, i2⟩ := run_inv (m := m) (M := 1000) (C := f) (cs := m) (Int.le_refl _) HOE.out ⟨Int.le_refl 0, by omega⟩ HF.out k
    have hst : runS F n f 0 (k + 1) = st1 F n (runS F n f 0 k) := rfl
    have hd : runD F n f 0 k = k := by
      have : ∀ j, j ≤ k → runD F n f 0 j = j := fun j => by
        induction j with
        | zero => intro _; rfl
        | succ j ih =>
          intro hj
          have e : runD F n f 0 (j + 1) = if (runS F n f 0 j).2 < n then runD F n f 0 j + 1 else runD F n f 0 j := rfl
          rw [e, if_pos (HALL.out j (by omega)), ih (by omega)]
      exact this k (Nat.le_refl _)
    have HEND : Hid (¬ ((runS F n f 0 k).2 < n) ∨ k = T → runS F n f 0 T = runS F n f 0 k ∧ runD F n f 0 T = k) := Lib.hid fun h => by
      rcases h with h | h
      · obtain ⟨h1, h2⟩ := runS_stop h T hk
        exact ⟨h1, by rw [h2, hd]⟩
      · subst h; exact ⟨rfl, hd⟩
    have HST := Lib.hid hst
    have HI2 := Lib.hid i2
    obtain ⟨s, hs⟩ : ∃ s, s = runS F n f 0 k := ⟨_, rfl⟩
    rw [← hs] at i0 i1 HR
    have HS := Lib.hid hs
    clear hst i2 hd
    rw [← hs]
    obtain ⟨q, hq2⟩ := Int.eq_ofNat_of_zero_le i0
    rw [hq2] at i1 ⊢
    have HQ := Lib.hid hq2
    clear hs hq2 i0
    have hgl := hrow.lt
    by_cases hkT : k < T
    · by_cases hqn : q < n
      · obtain ⟨b, off, rfl, hb, f0, f1, f2, f3⟩ := (H.out.below HBO.out).at4 hqn
        obtain ⟨z0, ⟨z1, z2⟩, z3, z4⟩ := oE_zero (HOE.out q hqn)
        have hg2 := st1_go (F := F) (s := s) HQ.out hqn
        have hsn : runS F n f 0 (k + 1) = (tC (F (4 * q)) (F (4 * q + 1)) s.1, tN (F (4 * q)) (F (4 * q + 1)) (F (4 * q + 2)) (F (4 * q + 3)) s.1) := by rw [HST.out, ← HS.out, hg2]
        obtain ⟨x0, h0⟩ : ∃ x, x = F (4 * q) := ⟨_, rfl⟩
        obtain ⟨x1, h1⟩ : ∃ x, x = F (4 * q + 1) := ⟨_, rfl⟩
        obtain ⟨x2, h2⟩ : ∃ x, x = F (4 * q + 2) := ⟨_, rfl⟩
        obtain ⟨x3, h3⟩ : ∃ x, x = F (4 * q + 3) := ⟨_, rfl⟩
        rw [← h0, ← h1, ← h2, ← h3] at hsn
        rw [← h0] at f0
        rw [← h1] at f1 z1 z2
        rw [← h2] at f2
        rw [← h3] at f3
        obtain ⟨p, rfl⟩ := Int.eq_ofNat_of_zero_le z1
        have hp : p < m := by omega
        have hCb := HI2.out p hp
        rw [← HS.out] at hCb
        obtain ⟨hC0, hC1⟩ := hCb
        have hcell := hrow.cell (i := p) (by omega)
        rw [HR.out p hp] at hcell
        have hfz := hrow.frozen p
        have hpI : (p : Int) < (m : Int) := by omega
        have hpI0 : (0 : Int) ≤ (p : Int) := by omega
        have hT2 := turn_cases x0 p x2 x3 s.1
        rw [Int.toNat_natCast] at hT2
        have HTC := Lib.hid hT2
        have HSN := Lib.hid hsn
        obtain ⟨v, hv⟩ : ∃ v, v = s.1 p := ⟨_, rfl⟩
        rw [← hv] at hcell hC0 hC1
        have HV := Lib.hid hv
        have hHB2 := HBO.out.alloc HBO.out.size (.cells #[.int .i64 x0, .int .i64 p, .int .i64 x2, .int .i64 x3] 28)
        have HB2 := Lib.hid hHB2
        clear z0 z3 z4 hg2 hsn h0 h1 h2 h3 z1 z2 hv hT2 hHB2
        have hHALL : Hid (∀ j, j < k + 1 → (runS F n f 0 j).2 < n) := Lib.hid fun j hj => by
          by_cases e : j = k
          · subst e; rw [← HS.out, HQ.out]; omega
          · exact HALL.out j (Nat.lt_of_le_of_ne (Nat.le_of_lt_succ hj) e)
        by_cases e0 : x0 = 1
        · have q0 : (x0 == 1) = true := by rw [beq_iff_eq]; exact e0
          have HE0 := Lib.hid e0
          clear e0
          go_wp2_with fail
          go_region_law (fail)
          all_goals
            go_wp2_with fail
            go_roundw
            case rel =>
              have hC : ∀ i, (runS F n f 0 (k + 1)).1 i = (if i = p then v + 1 else s.1 i) ∧ (runS F n f 0 (k + 1)).2 = x2 := fun i => by
                rw [HSN.out]
                rcases HTC.out with ⟨_, e1, e2⟩ | ⟨n1, _⟩ | ⟨n1, _⟩
                · rw [e1, e2]; refine ⟨?_, rfl⟩; show upd s.1 p (s.1 p + 1) i = _; unfold upd; rw [← HV.out]
                · exact absurd HE0.out n1
                · exact absurd HE0.out n1
              exact ⟨k + 1, by omega, by rw [(hC 0).2], by go_num, hHALL, ⟨_, ((hrow.set p _).alloc _), Lib.hid fun i hi => by
                show (if i = p then _ else R i) = _
                rw [(hC i).1]
                by_cases e : i = p
                · rw [if_pos e, if_pos e]
                · rw [if_neg e, if_neg e, HR.out i hi]⟩, Lib.hid (((HBO.out.setCell (p := ⟨g, p, none⟩) hg _).alloc (by have := HBO.out.size; simp; omega) _).drew)⟩
            case measure => simp [intOf]; omega
        · have q0 : (x0 == 1) = false := by rw [beq_eq_false_iff_ne]; exact e0
          have HE0 := Lib.hid e0
          clear e0
          by_cases ez : v = 0
          · have HEZ := Lib.hid ez
            have q1 : decide (0 < v) = false := decide_eq_false (by omega)
            clear ez
            go_wp2_with fail
            go_roundw
            case rel =>
              have hC : runS F n f 0 (k + 1) = (s.1, x3) := by
                rw [HSN.out]
                rcases HTC.out with ⟨n1, _⟩ | ⟨_, _, e1, e2⟩ | ⟨_, n1, _⟩
                · exact absurd n1 HE0.out
                · rw [e1, e2]
                · exact absurd (HV.out.symm.trans HEZ.out) n1
              exact ⟨k + 1, by omega, by rw [hC], by go_num, hHALL, ⟨R, hrow.alloc _, Lib.hid fun i hi => by rw [hC, HR.out i hi]⟩, HB2⟩
            case measure => simp [intOf]; omega
          · have HEZ := Lib.hid ez
            have q1 : decide (0 < v) = true := decide_eq_true (by omega)
            clear ez
            go_wp2_with fail
            go_region_law (fail)
            all_goals
              go_wp2_with fail
              go_roundw
              case rel =>
                have hC : ∀ i, (runS F n f 0 (k + 1)).1 i = (if i = p then v - 1 else s.1 i) ∧ (runS F n f 0 (k + 1)).2 = x2 := fun i => by
                  rw [HSN.out]
                  rcases HTC.out with ⟨n1, _⟩ | ⟨_, n1, _⟩ | ⟨_, _, e1, e2⟩
                  · exact absurd n1 HE0.out
                  · exact absurd (HV.out.trans n1) HEZ.out
                  · rw [e1, e2]; refine ⟨?_, rfl⟩; show upd s.1 p (s.1 p - 1) i = _; unfold upd; rw [← HV.out]
                exact ⟨k + 1, by omega, by rw [(hC 0).2], by go_num, hHALL, ⟨_, ((hrow.set p _).alloc _), Lib.hid fun i hi => by
                  show (if i = p then _ else R i) = _
                  rw [(hC i).1]
                  by_cases e : i = p
                  · rw [if_pos e, if_pos e]
                  · rw [if_neg e, if_neg e, HR.out i hi]⟩, Lib.hid (((HBO.out.setCell (p := ⟨g, p, none⟩) hg _).alloc (by have := HBO.out.size; simp; omega) _).drew)⟩
              case measure => simp [intOf]; omega
      · obtain ⟨he1, he2⟩ := HEND.out (.inl (by rw [← HS.out, HQ.out]; omega))
        have HE := Lib.hid (And.intro he1 he2)
        clear he1 he2
        go_wp2_with fail
        refine bodyPost_ret (v := .tuple #[.slice (some ⟨g, 0, none⟩) m c1, .int .i64 q, .int .i64 k]) (by simp [results, Try.results10, go_sem]) rfl ⟨HBO.out, some ⟨g, 0, none⟩, c1, ?_, ?_, hmc, hle⟩
        · rw [HE.out.1, HE.out.2, ← HS.out, HQ.out]
        · rw [HE.out.1]
          exact (Rd.of_row hrow hmc).congr fun i hi => by rw [HR.out i hi, ← HS.out]
    · obtain ⟨he1, he2⟩ := HEND.out (.inr (by omega))
      have HE := Lib.hid (And.intro he1 he2)
      clear he1 he2
      go_wp2_with fail
      refine bodyPost_ret (v := .tuple #[.slice (some ⟨g, 0, none⟩) m c1, .int .i64 q, .int .i64 k]) (by simp [results, Try.results10, go_sem]) rfl ⟨HBO.out, some ⟨g, 0, none⟩, c1, ?_, ?_, hmc, hle⟩
      · rw [HE.out.1, HE.out.2, ← HS.out, HQ.out]
      · rw [HE.out.1]
        exact (Rd.of_row hrow hmc).congr fun i hi => by rw [HR.out i hi, ← HS.out]
end Go.Proofs.Ytmdcfbofjlpbmaa
