/- half.Can: by halves, and how often it is asked. Condition: the rows read as told. -/
import Derived.Test.YtnkgdcaojfoanaaHalfGo
import Derived.BigQuiet
import Derived.IntWalk
namespace Go.Proofs.Ytnkgdcaojfoanaa
open Go.ChangeShapes Go.WideShapes Go.ChangeAt Go.RowKit
set_option linter.unusedVariables false
set_option linter.unusedSimpArgs false
/-- the asker: the graph, and how often it was asked -/
structure AskS (w W : World) (a : Nat) (A : Option Addr) (n c k : Nat) : Prop where
  row : W.rowIs a 44 2 (b2x (.slice A n c) (.int .i64 (k : Nat)))
  ale : w.heap.size ≤ a
  bel : Below w.heap.size w W
theorem AskS.more {w W : World} {a n c k : Nat} {A : Option Addr} (h : AskS w W a A n c k) (k' : Nat) : AskS w (W.setCell ⟨a, 1, none⟩ (.int .i64 (k' : Nat))) a A n c k' :=
  ⟨(h.row.set 1 _).congr fun i hi => by
    match i, hi with
    | 0, _ => rfl
    | 1, _ => rfl, h.ale, h.bel.setCell h.ale _⟩
def CanP (w : World) (a : Nat) (A : Option Addr) (n c k M : Nat) (b : Bool) (e : Ending) (w' : World) : Prop :=
  e = .returned (.bool b) ∧ ∃ r, 1 ≤ r ∧ r ≤ M ∧ AskS w w' a A n c (k + r)
set_option maxRecDepth 100000 in
set_option maxHeartbeats 4000000 in
theorem can_any (A : Option Addr) (n c : Nat) (R : Nat → SI) (w : World) (h : Gr w A n R) (n8 : n ≤ 8) (hrn : ∀ i, i < n → (R i).n ≤ 4) :
    ∀ (s : Nat), s ≤ 8 → ∀ (a i j k : Nat) (W : World), i < n → j < n → k + askM s ≤ 100000 → AskS w W a A n c k →
      Calls Try.prog 19 #[.pointer (some ⟨a, 0, none⟩), .int .i64 (i : Nat), .int .i64 (j : Nat), .int .i64 (s : Nat)] W (CanP w a A n c k (askM s) (wy R n s i j)) := by
  have H := Lib.hid h
  have HRN := Lib.hid hrn
  clear h hrn
  intro s
  induction s using Nat.strongRecOn with
  | ind s ih =>
    intro s8 a i j k W hi hj hk hA
    have IH := Lib.hid ih
    have HA := Lib.hid hA
    have k0 := hA.row.cell (i := 0) (by omega)
    have k1 := hA.row.cell (i := 1) (by omega)
    have z1 := hA.row.frozen 1
    have HA1 := Lib.hid (hA.more (k + 1))
    have k0' := HA1.out.row.cell (i := 0) (by omega)
    simp only [b2x] at k0 k1 k0'
    clear ih hA
    by_cases s0 : s = 0
    · subst s0
      have HM : Hid (∃ r, 1 ≤ r ∧ r ≤ askM 0 ∧ AskS w (W.setCell ⟨a, 1, none⟩ (.int .i64 ((k + 1 : Nat) : Int))) a A n c (k + r)) := Lib.hid ⟨1, Nat.le_refl _, Nat.le_refl _, HA1.out⟩
      have hw : wy R n 0 i j = ((i : Int) == (j : Int)) := by
        show (i == j) = _
        rw [Bool.eq_iff_iff, beq_iff_eq, beq_iff_eq]; omega
      have HW := Lib.hid hw
      clear hw
      go_enter Try.func19, Try.ntmps19
      go_wp2_with fail
      go_ret
      exact ⟨by rw [HW.out]; rfl, HM.out⟩
    by_cases s1 : s = 1
    · subst s1
      have HM : Hid (∃ r, 1 ≤ r ∧ r ≤ askM 1 ∧ AskS w (W.setCell ⟨a, 1, none⟩ (.int .i64 ((k + 1 : Nat) : Int))) a A n c (k + r)) := Lib.hid ⟨1, Nat.le_refl _, Nat.le_refl _, HA1.out⟩
      have HW : Hid (wy R n 1 i j = ((i : Int) == (j : Int) || edg R i j)) := Lib.hid (by
        rw [Bool.eq_iff_iff, Bool.or_eq_true, wy_one hj, beq_iff_eq]
        constructor
        · rintro (h | h)
          · exact .inl (by omega)
          · exact .inr h
        · rintro (h | h)
          · exact .inl (by omega)
          · exact .inr h)
      by_cases hij : i = j
      · subst hij
        have HW1 : Hid (wy R n 1 i i = true) := Lib.hid (by rw [HW.out]; simp)
        go_enter Try.func19, Try.ntmps19
        go_wp2_with fail
        go_ret
        exact ⟨by rw [HW1.out]; simp, HM.out⟩
      · have hq : ((i : Int) == (j : Int)) = false := by rw [beq_eq_false_iff_ne]; omega
        rw [hq] at HW
        have hgr := H.out.below HA1.out.bel
        obtain ⟨b, off, rfl, hb, hc0⟩ := hgr.1.at_ hi
        have hgd := hgr.2 i hi
        have h4 := HRN.out i hi
        obtain ⟨y, hy⟩ : ∃ y, y = R i := ⟨_, rfl⟩
        rw [← hy] at hc0 hgd h4
        have HYR := Lib.hid hy
        obtain ⟨ya, yn, yc, yf⟩ := y
        have hc : (W.setCell ⟨a, 1, none⟩ (.int .i64 ((k + 1 : Nat) : Int))).cell? ⟨b, off + i, none⟩ = some (.slice ya yn yc) := hc0
        have hyn : yn ≤ 4 := h4
        have hha := hasI_any ya yn yc yf (j : Int) (W.setCell ⟨a, 1, none⟩ (.int .i64 ((k + 1 : Nat) : Int))) hgd.1 (by unfold maxLen; omega)
        have hre : hasI yf yn (j : Int) = edg R i j := by unfold edg; rw [← HYR.out]
        rw [hre] at hha
        obtain ⟨r, hr⟩ : ∃ r, r = edg R i j := ⟨_, rfl⟩
        rw [← hr] at hha HW
        have HHA := Lib.hid hha
        obtain ⟨W1, hW1⟩ : ∃ W1, W1 = W.setCell ⟨a, 1, none⟩ (.int .i64 ((k + 1 : Nat) : Int)) := ⟨_, rfl⟩
        push_cast at hW1
        have HW1 := Lib.hid hW1
        push_cast at hc k0' HHA HM
        rw [← hW1] at HHA HM
        clear hha hre hr hy hgr hgd hc0 h4 hW1
        go_enter Try.func19, Try.ntmps19
        go_wp2_with fail
        rw [← HW1.out]
        refine HHA.out.mono ?_
        rintro e w2 ⟨rfl, rfl⟩
        clear HHA
        have HWR : Hid (wy R n 1 i j = r) := Lib.hid (by rw [HW.out]; simp)
        go_wp2_with fail
        go_ret
        exact ⟨by rw [HWR.out]; rfl, HM.out⟩
    · have s2 : 2 ≤ s := by omega
      have HHALF := Lib.hid (askM_half s2 s8)
      obtain ⟨u, hu⟩ : ∃ u, u = (s + 1) / 2 := ⟨_, rfl⟩
      obtain ⟨v, hv⟩ : ∃ v, v = s / 2 := ⟨_, rfl⟩
      have hus : u < s := by omega
      have hvs : v < s := by omega
      rw [← hu, ← hv] at HHALF
      obtain ⟨B, hB⟩ : ∃ B, B = askM u + askM v := ⟨_, rfl⟩
      rw [← hB] at HHALF
      have HBD := Lib.hid hB
      have hM1 := askM_le u
      have hM2 := askM_le v
      have HWY : Hid (wy R n s i j = true ↔ ∃ m, m < n ∧ wy R n u i m = true ∧ wy R n v m j = true) := Lib.hid (by rw [hu, hv]; exact wy_half hi s2)
      have HU := Lib.hid hu
      have HV := Lib.hid hv
      have sz0 : ((s : Int) == 0) = false := by rw [beq_eq_false_iff_ne]; omega
      have sz1 : ((s : Int) == 1) = false := by rw [beq_eq_false_iff_ne]; omega
      obtain ⟨W1, hW1⟩ : ∃ W1, W1 = W.setCell ⟨a, 1, none⟩ (.int .i64 ((k + 1 : Nat) : Int)) := ⟨_, rfl⟩
      push_cast at hW1
      have HW1 := Lib.hid hW1
      push_cast at k0' HA1
      rw [← hW1] at HA1
      clear hW1 hu hv hB
      go_enter Try.func19, Try.ntmps19
      go_wp2_with fail
      rw [← HW1.out]
      clear HW1 k0 k1 z1 k0'
      go_loopw [45] (fun s45 wr => ∃ m r : Nat, m ≤ n ∧ s45 = .int .i64 (m : Nat) ∧ r ≤ m * B ∧ Hid (∀ m', m' < m → ¬ (wy R n u i m' = true ∧ wy R n v m' j = true)) ∧ Hid (AskS w wr a A n c (k + 1 + r))) (fun s45 _ => n - (intOf s45).toNat)
      case atStart => exact ⟨0, 0, Nat.zero_le _, rfl, Nat.zero_le _, Lib.hid (fun m' h => absurd h (Nat.not_lt_zero _)), HA1⟩
      case round =>
        obtain ⟨wo, rfl⟩ : ∃ wo : World, wo = wr := ⟨_, rfl⟩
        obtain ⟨m, r, hm, rfl, hr, HNO, HA2⟩ := hrel
        have hmB : m * B ≤ 8 * B := Nat.mul_le_mul_right B (by omega)
        by_cases hlt : m < n
        · have hmB2 : (m + 1) * B = m * B + B := Nat.succ_mul m B
          have hmB3 : (m + 1) * B ≤ 8 * B := Nat.mul_le_mul_right B (by omega)
          have hBs := HBD.out
          have hhalf := HHALF.out
          go_wp2_with fail
          rw [show ((s : Int) + 1) / 2 = (u : Int) by have := HU.out; omega]
          refine (IH.out u hus (by omega) a i m (k + 1 + r) wo hi hlt (by omega) HA2.out).mono ?_
          rintro e w2 ⟨rfl, r1, hr11, hr12, hA3⟩
          have HA3 := Lib.hid hA3
          clear hA3
          cases hb1 : wy R n u i m
          · have HN1 := Lib.hid hb1
            clear hb1
            go_wp2_with fail
            go_roundw
            case rel => exact ⟨m + 1, r + r1, by omega, by go_num, by omega, Lib.hid (fun m' h => by
              by_cases e : m' = m
              · subst e; rw [HN1.out]; exact fun h => by cases h.1
              · exact HNO.out m' (by omega)), Lib.hid (by rw [← Nat.add_assoc]; exact HA3.out)⟩
            case measure => simp [intOf]; omega
          · have HN1 := Lib.hid hb1
            clear hb1
            go_wp2_with fail
            rw [show (s : Int) / 2 = (v : Int) by have := HV.out; omega]
            refine (IH.out v hvs (by omega) a m j (k + 1 + r + r1) w2 hlt hj (by omega) HA3.out).mono ?_
            rintro e w3 ⟨rfl, r2, hr21, hr22, hA4⟩
            have HA4 := Lib.hid hA4
            clear hA4
            cases hb2 : wy R n v m j
            · have HN2 := Lib.hid hb2
              clear hb2
              go_wp2_with fail
              go_roundw
              case rel => exact ⟨m + 1, r + r1 + r2, by omega, by go_num, by omega, Lib.hid (fun m' h => by
                by_cases e : m' = m
                · subst e; rw [HN2.out]; exact fun h => by cases h.2
                · exact HNO.out m' (by omega)), Lib.hid (by rw [← Nat.add_assoc, ← Nat.add_assoc]; exact HA4.out)⟩
              case measure => simp [intOf]; omega
            · have HT : Hid (wy R n s i j = true) := Lib.hid (HWY.out.2 ⟨m, hlt, HN1.out, hb2⟩)
              clear hb2
              go_wp2_with fail
              go_ret
              exact ⟨by rw [HT.out]; rfl, 1 + (r + r1 + r2), by omega, by have := HHALF.out; omega, by rw [show k + (1 + (r + r1 + r2)) = k + 1 + r + r1 + r2 by omega]; exact HA4.out⟩
        · obtain rfl : m = n := by omega
          have HF : Hid (wy R m s i j = false) := Lib.hid (by
            cases e : wy R m s i j
            · rfl
            · obtain ⟨m', h1, h2⟩ := HWY.out.1 e
              exact absurd h2 (HNO.out m' h1))
          go_wp2_with fail
          go_ret
          exact ⟨by rw [HF.out]; rfl, 1 + r, by omega, by have := HHALF.out; omega, by rw [← Nat.add_assoc]; exact HA2.out⟩
def CanR (R : Nat → SI) (n : Nat) (x y st : Int) (e : Ending) : Prop :=
  (∃ z : Int, hwE n R 2 (ftD x y) = z ∧ (z != 0) = true ∧ e = .returned (.tuple #[.bool false, .int .i64 0, .int .i64 z])) ∨
  (hwE n R 2 (ftD x y) = 0 ∧ ¬ (0 ≤ st ∧ st ≤ 8) ∧ e = .returned (.tuple #[.bool false, .int .i64 0, .int .i64 4])) ∨
  (hwE n R 2 (ftD x y) = 0 ∧ ∃ f t s r : Nat, x = f ∧ y = t ∧ st = s ∧ f < n ∧ t < n ∧ s ≤ 8 ∧ 1 ≤ r ∧ r ≤ 4369 ∧ e = .returned (.tuple #[.bool (wy R n s f t), .int .i64 (r : Nat), .int .i64 0]))
set_option maxRecDepth 100000 in
set_option maxHeartbeats 2000000 in
theorem Can_any (A : Option Addr) (n c : Nat) (R : Nat → SI) (x y st : Int) (w : World) (h : Gr w A n R) (hn : n ≤ maxLen) :
    Calls Try.prog 12 #[.slice A n c, .int .i64 x, .int .i64 y, .int .i64 st] w fun e w' => CanR R n x y st e ∧ Below w.heap.size w w' := by
  have H := Lib.hid h
  have HN := Lib.hid hn
  clear h hn
  obtain ⟨W1, hW1⟩ : ∃ W, W = w.alloc (.cells #[.int .i64 x, .int .i64 y] 3) := ⟨_, rfl⟩
  have hb1 : Below w.heap.size w W1 := by rw [hW1]; exact (Below.refl _ _).alloc (Nat.le_refl _) _
  have hr1 : Rd W1 (some ⟨w.heap.size, 0, none⟩) 2 (fun i => .int .i64 (ftD x y i)) := by rw [hW1]; exact two_ints w x y _
  have hwr := halfWrong_any A n c R (some ⟨w.heap.size, 0, none⟩) 2 2 (ftD x y) W1 (H.out.below hb1) hr1 HN.out (by omega)
  have HB1 := Lib.hid hb1
  have HW1 := Lib.hid hW1
  have HWR := Lib.hid hwr
  clear hb1 hr1 hW1 hwr
  by_cases hz : hwE n R 2 (ftD x y) = 0
  · have HZ := Lib.hid hz
    by_cases hst : 0 ≤ st ∧ st ≤ 8
    · obtain ⟨⟨n1, n8⟩, h4, hin, hD⟩ := hwE_zero hz
      have d0 := hD 0 (by omega)
      have d1 := hD 1 (by omega)
      obtain ⟨f, rfl⟩ : ∃ f : Nat, x = (f : Int) := Int.eq_ofNat_of_zero_le d0.1
      obtain ⟨t, rfl⟩ : ∃ t : Nat, y = (t : Int) := Int.eq_ofNat_of_zero_le d1.1
      obtain ⟨s, rfl⟩ : ∃ s : Nat, st = (s : Int) := Int.eq_ofNat_of_zero_le hst.1
      have hf : f < n := by have := d0.2; unfold ftD at this; rw [if_pos rfl] at this; omega
      have ht : t < n := by have := d1.2; unfold ftD at this; rw [if_neg (by omega)] at this; omega
      have s8 : s ≤ 8 := by omega
      have H4 := Lib.hid h4
      clear hz h4 hin hD d0 d1 hst
      go_enter Try.func12, Try.ntmps12
      go_wp2_with fail
      rw [← HW1.out]
      refine HWR.out.mono ?_
      rintro e w2 ⟨rfl, hb2⟩
      rw [HZ.out]
      have HB2 := Lib.hid (HB1.out.trans (hb2.mono HB1.out.size))
      clear hb2 HWR
      go_wp2_with fail
      have hA : AskS w (w2.alloc (.cells #[.slice A n c, .int .i64 0] 44)) w2.heap.size A n c 0 := ⟨World.rowIs_alloc w2 #[.slice A n c, .int .i64 0] 44 _ (fun i hi => by
        have : i = 0 ∨ i = 1 := by simp at hi; omega
        rcases this with rfl | rfl <;> rfl), HB2.out.size, HB2.out.alloc HB2.out.size _⟩
      refine (can_any A n c R w H.out n8 H4.out s s8 w2.heap.size f t 0 _ hf ht (by have := askM_le s; omega) hA).mono ?_
      rintro e w3 ⟨rfl, r, hr1, hr2, hA3⟩
      rw [Nat.zero_add] at hA3
      have HA3 := Lib.hid hA3
      have k1 := hA3.row.cell (i := 1) (by omega)
      have k1' : w3.cell? ⟨w2.heap.size, 1, none⟩ = some (.int .i64 (r : Nat)) := k1
      have hr3 : r ≤ 4369 := Nat.le_trans hr2 (askM_le s)
      obtain ⟨bv, hbv⟩ : ∃ b, b = wy R n s f t := ⟨_, rfl⟩
      rw [← hbv]
      have HBV := Lib.hid hbv
      clear hA hA3 k1 hr2 hbv
      go_wp2_with fail
      go_quiet (fail)
      go_wp2_with fail
      go_ret3
      exact ⟨.inr (.inr ⟨HZ.out, f, t, s, r, rfl, rfl, rfl, hf, ht, s8, hr1, hr3, by rw [HBV.out]; rfl⟩), below_drewN HA3.out.bel _⟩
    · clear hz
      by_cases hs0 : st < 0
      · go_enter Try.func12, Try.ntmps12
        go_wp2_with fail
        rw [← HW1.out]
        refine HWR.out.mono ?_
        rintro e w2 ⟨rfl, hb2⟩
        rw [HZ.out]
        have HB2 := Lib.hid (HB1.out.trans (hb2.mono HB1.out.size))
        clear hb2 HWR
        go_wp2_with fail
        go_ret3
        exact ⟨.inr (.inl ⟨HZ.out, hst, rfl⟩), HB2.out⟩
      · have hs8 : 8 < st := by omega
        go_enter Try.func12, Try.ntmps12
        go_wp2_with fail
        rw [← HW1.out]
        refine HWR.out.mono ?_
        rintro e w2 ⟨rfl, hb2⟩
        rw [HZ.out]
        have HB2 := Lib.hid (HB1.out.trans (hb2.mono HB1.out.size))
        clear hb2 HWR
        go_wp2_with fail
        go_ret3
        exact ⟨.inr (.inl ⟨HZ.out, hst, rfl⟩), HB2.out⟩
  · obtain ⟨z, hzz⟩ : ∃ z, z = hwE n R 2 (ftD x y) := ⟨_, rfl⟩
    rw [← hzz] at hz HWR
    have hzb : (z != 0) = true := by rw [bne_iff_ne]; exact hz
    have HZ := Lib.hid hzz
    have HZB := Lib.hid hzb
    clear hz hzz
    go_enter Try.func12, Try.ntmps12
    go_wp2_with fail
    rw [← HW1.out]
    refine HWR.out.mono ?_
    rintro e w2 ⟨rfl, hb2⟩
    have HB2 := Lib.hid (HB1.out.trans (hb2.mono HB1.out.size))
    clear hb2 HWR
    go_wp2_with fail
    go_ret3
    exact ⟨.inl ⟨z, HZ.out.symm, HZB.out, rfl⟩, HB2.out⟩
end Go.Proofs.Ytnkgdcaojfoanaa
