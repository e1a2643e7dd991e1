/- comb's Norm. Condition: the list reads as told. -/
import Derived.Test.YtmbemikhbcjfmaaCombChk2
import Derived.Test.YtmbemikhbcjfmaaCombRead
import Derived.Test.YtmbemikhbcjfmaaCombStep
namespace Go.Proofs.Ytmbemikhbcjfmaa
open Go.ChangeShapes Go.WideShapes Go.ChangeAt Go.RowKit
set_option linter.unusedVariables false
set_option linter.unusedSimpArgs false
/-- after so many steps: the tree, or none where there was no step or it grew too great -/
inductive Nrm : Tm → Nat → Tm → Prop
  | zero (t : Tm) : Nrm t 0 t
  | more (t u v : Tm) (i : Nat) : Nrm t i u → stp u = some v → v.sz ≤ 300 → Nrm t (i + 1) v
theorem hd_sz : ∀ i t, (hdT i t).sz ≤ t.sz
  | 0, t => Nat.le_refl _
  | i + 1, t => by
    have := hd_sz i t
    unfold hdT
    split
    · rename_i a b h; rw [h] at this; show a.sz ≤ _; have e : (Tm.ap a b).sz = 1 + a.sz + b.sz := rfl; omega
    · rename_i k v h; rw [h] at this; exact this
theorem ag_sz (i : Nat) (t : Tm) : (agT i t).sz ≤ t.sz := by
  have := hd_sz i t
  unfold agT
  split
  · rename_i a b h; rw [h] at this; have e : (Tm.ap a b).sz = 1 + a.sz + b.sz := rfl; omega
  · rename_i k v h; rw [h] at this; exact this
theorem rdx_sz {t r : Tm} (h : rdx t = some r) : r.sz ≤ 4 * t.sz + 3 := by
  unfold rdx at h
  have a0 := ag_sz 0 t
  have a1 := ag_sz 1 t
  have a2 := ag_sz 2 t
  split at h
  · injection h with h; rw [← h]; omega
  · split at h
    · injection h with h; rw [← h]
      show 1 + (1 + (agT 2 t).sz + (agT 0 t).sz) + (1 + (agT 1 t).sz + (agT 0 t).sz) ≤ _
      omega
    · cases h
theorem stp_sz : ∀ {t r : Tm}, stp t = some r → r.sz ≤ 4 * t.sz + 3
  | .lf _ _, r, h => by cases h
  | .ap a b, r, h => by
    have hst : stp (.ap a b) = match rdx (.ap a b) with
      | some r => some r
      | none => match stp a with
        | some a' => some (.ap a' b)
        | none => match stp b with
          | some b' => some (.ap a b')
          | none => none := rfl
    have e : (Tm.ap a b).sz = 1 + a.sz + b.sz := rfl
    rw [hst] at h
    cases hr : rdx (.ap a b) with
    | some x => rw [hr] at h; injection h with h; rw [← h]; exact rdx_sz hr
    | none =>
      rw [hr] at h
      cases ha : stp a with
      | some a' => rw [ha] at h; injection h with h; rw [← h]; have := stp_sz ha; show 1 + a'.sz + b.sz ≤ _; omega
      | none =>
        rw [ha] at h
        cases hb : stp b with
        | some b' => rw [hb] at h; injection h with h; rw [← h]; have := stp_sz hb; show 1 + a.sz + b'.sz ≤ _; omega
        | none => rw [hb] at h; cases h
theorem Nrm.sz {t u : Tm} {i : Nat} (h : Nrm t i u) (ht : t.sz ≤ 300) : u.sz ≤ 300 := by
  cases h with
  | zero => exact ht
  | more _ _ _ _ h => assumption
/-- what Norm tells of a list that may be and steps in range -/
def NmP (L : Nat → Cb) (n s : Nat) (e : Ending) (w' : World) : Prop :=
  (e = .returned (.tuple #[.slice none 0 0, .int .i64 0, .int .i64 7]) ∧ ∃ i u v, i < s ∧ Nrm (dec L (n - 1)) i u ∧ stp u = some v ∧ 300 < v.sz) ∨
  (∃ (i : Nat) (u : Tm) (A : Option Addr) (c : Nat), i ≤ s ∧ Nrm (dec L (n - 1)) i u ∧ (i = s ∨ stp u = none) ∧ u.sz ≤ 300 ∧ e = .returned (.tuple #[.slice A u.sz c, .int .i64 (i : Nat), .int .i64 0]) ∧ u.sz ≤ c ∧ c ≤ maxLen ∧ Rd w' A (u.sz * 4) (lcC (wrF u (fun _ => (0, 0, 0, 0)) 0)))
set_option maxRecDepth 100000 in
set_option maxHeartbeats 4000000 in
theorem norm_any (A : Option Addr) (n c s : Nat) (L : Nat → Cb) (w : World) (h : Rd w A (n * 4) (lcC L)) (hz : ckE L n = 0) (hs : s ≤ 60) :
    Calls Try.prog 6 #[.slice A n c, .int .i64 (s : Nat)] w fun e w' => NmP L n s e w' ∧ Below w.heap.size w w' := by
  obtain ⟨hn, hok, hsz⟩ := ckE_zero hz
  have hck := check_any A n c L w h (by unfold maxLen; omega)
  rw [hz] at hck
  have HCK := Lib.hid hck
  have HRD := Lib.hid (fun X (hX : Below w.heap.size w X) => read_any A n c L X (h.below hX) hok (by omega))
  have HSZ := Lib.hid hsz
  clear h hck hz hok hsz
  go_enter Try.func6, Try.ntmps6
  go_wp2_with fail
  refine HCK.out.mono ?_
  rintro e w1 ⟨rfl, hb1⟩
  have HB1 := Lib.hid hb1
  clear hb1
  go_wp2_with fail
  refine (HRD.out w1 HB1.out).mono ?_
  rintro e w2 ⟨⟨g, rfl, ht⟩, hb2⟩
  have HT := Lib.hid ht
  have HB2 := Lib.hid (HB1.out.trans (hb2.mono HB1.out.size))
  clear ht hb2
  go_wp2_with fail
  go_loopw [8, 9] (fun s8 s9 wr => ∃ (i g : Nat) (u : Tm), i ≤ s ∧ s9 = .int .i64 (i : Nat) ∧ s8 = .pointer (some ⟨g, 0, none⟩) ∧ Hid (Nrm (dec L (n - 1)) i u ∧ TAt 58 wr u g) ∧ Hid (Below w.heap.size w wr)) (fun _ s9 _ => s - (intOf s9).toNat)
  case atStart => exact ⟨0, g, _, Nat.zero_le _, rfl, rfl, Lib.hid ⟨.zero _, HT.out⟩, HB2⟩
  case round =>
    clear HT HB2
    obtain ⟨wo, rfl⟩ : ∃ wo : World, wo = wr := ⟨_, rfl⟩
    obtain ⟨i, g, u, hi, rfl, rfl, HU, HB⟩ := hrel
    have hus := HU.out.1.sz HSZ.out
    have hws := HB.out.size
    have HWR := Lib.hid (fun X (hX : Below wo.heap.size wo X) => write_any X u g X none 0 0 (fun _ => (0, 0, 0, 0)) (HU.out.2.below hX) (Below.refl _ _) (Own.nil _ _ _ _ _) (by omega))
    by_cases his : i < s
    · have HST := Lib.hid (step_any u g wo HU.out.2)
      cases hst : stp u with
      | none =>
        rw [hst] at HST
        have HSU := Lib.hid hst
        clear hst
        go_wp2_with fail
        refine HST.out.mono ?_
        rintro e w3 ⟨hp, hb3⟩
        obtain rfl : e = .returned (.pointer none) := hp
        have HB3 := Lib.hid hb3
        clear hb3
        go_wp2_with fail
        refine (HWR.out w3 HB3.out).mono ?_
        rintro e w4 ⟨A', c', rfl, ho4, hb4⟩
        have HO4 := Lib.hid ho4
        have HB4 := Lib.hid (HB.out.trans ((HB3.out.trans (hb4.mono HB3.out.size)).mono hws))
        clear ho4 hb4
        go_wp2_with fail
        go_ret3
        have HO5 := HO4.out
        rw [Nat.zero_add] at HO5
        exact ⟨.inr ⟨i, u, A', c', hi, HU.out.1, .inr HSU.out, hus, rfl, HO5.le.1, HO5.le.2, HO5.rd⟩, HB4.out⟩
      | some v =>
        rw [hst] at HST
        have HSU := Lib.hid hst
        have hvs := stp_sz hst
        clear hst
        go_wp2_with fail
        refine HST.out.mono ?_
        rintro e w3 ⟨hp, hb3⟩
        obtain ⟨gv, rfl, htv⟩ := hp
        have HTV := Lib.hid htv
        have HB3 := Lib.hid (HB.out.trans (hb3.mono hws))
        have HSV := Lib.hid (size_any v gv w3 htv (by omega))
        obtain ⟨z, hzz⟩ : ∃ z, z = v.sz := ⟨_, rfl⟩
        rw [← hzz] at HSV hvs
        have HZZ := Lib.hid hzz
        clear htv hb3 hzz
        go_wp2_with fail
        refine HSV.out.mono ?_
        rintro e w4 ⟨rfl, k4, rfl⟩
        by_cases hbig : 300 < z
        · go_wp2_with fail
          go_ret3
          exact ⟨.inl ⟨rfl, i, u, v, his, HU.out.1, HSU.out, by rw [← HZZ.out]; exact hbig⟩, below_drewN HB3.out _⟩
        · go_wp2_with fail
          go_roundw
          case rel => exact ⟨i + 1, gv, v, by omega, by go_num, rfl, Lib.hid ⟨.more _ u v i HU.out.1 HSU.out (by rw [← HZZ.out]; omega), HTV.out.drewN _⟩, Lib.hid (below_drewN HB3.out _)⟩
          case measure => simp [intOf]; omega
    · obtain rfl : i = s := by omega
      go_wp2_with fail
      refine (HWR.out wo (Below.refl _ _)).mono ?_
      rintro e w4 ⟨A', c', rfl, ho4, hb4⟩
      have HO4 := Lib.hid ho4
      have HB4 := Lib.hid (HB.out.trans (hb4.mono hws))
      clear ho4 hb4
      go_wp2_with fail
      go_ret3
      have HO5 := HO4.out
      rw [Nat.zero_add] at HO5
      exact ⟨.inr ⟨i, u, A', c', hi, HU.out.1, .inl rfl, hus, rfl, HO5.le.1, HO5.le.2, HO5.rd⟩, HB4.out⟩
end Go.Proofs.Ytmbemikhbcjfmaa
