/- talk.fool: it goes on from places that fool to places that fool. Conditions: the table is one; the places fool. -/
import Derived.Test.YtnfibchffbdmpaaTalkCmp
import Derived.Test.YtnfibchffbdmpaaTalkRects
import Derived.Test.YtnfibchffbdmpaaGrow
import Derived.BigRegion
import Derived.BigQuiet
import Derived.Deep.RegionLaw
import Derived.Deep.DeepCutAuto
import Derived.IntWalk
namespace Go.Proofs.Ytnfibchffbdmpaa
open Go.ChangeShapes Go.WideShapes Go.ChangeAt Go.RowKit
set_option linter.unusedVariables false
set_option linter.unusedSimpArgs false
/-- places of the value v that fool -/
def FoolOk (f : Nat → Nat → Bool) (n m : Nat) (v : Bool) (P : Nat → Nat × Nat) (len : Nat) : Prop :=
  (∀ i, i < len → (P i).1 < n ∧ (P i).2 < m ∧ f (P i).1 (P i).2 = v) ∧ ∀ i k, i < k → k < len → f (P i).1 (P k).2 ≠ v ∨ f (P k).1 (P i).2 ≠ v
/-- may the place (a, b) go to the first j of P? -/
def okF (f : Nat → Nat → Bool) (v : Bool) (P : Nat → Nat × Nat) (a b : Nat) : Nat → Bool
  | 0 => f a b == v
  | j + 1 => okF f v P a b j && (f a (P j).2 != v || f (P j).1 b != v)
theorem okF_all {f : Nat → Nat → Bool} {v : Bool} {P : Nat → Nat × Nat} {a b : Nat} : ∀ {j}, okF f v P a b j = true → f a b = v ∧ ∀ t, t < j → f a (P t).2 ≠ v ∨ f (P t).1 b ≠ v
  | 0, h => ⟨beq_iff_eq.1 h, fun t ht => absurd ht (Nat.not_lt_zero _)⟩
  | j + 1, h => by
    have h' : (okF f v P a b j && (f a (P j).2 != v || f (P j).1 b != v)) = true := h
    rw [Bool.and_eq_true, Bool.or_eq_true, bne_iff_ne, bne_iff_ne] at h'
    obtain ⟨h1, h2⟩ := okF_all h'.1
    refine ⟨h1, fun t ht => ?_⟩
    by_cases e : t = j
    · rw [e]; exact h'.2
    · exact h2 t (by omega)
def addF (P : Nat → Nat × Nat) (len : Nat) (p : Nat × Nat) (i : Nat) : Nat × Nat := if i < len then P i else p
theorem FoolOk.add {f : Nat → Nat → Bool} {n m : Nat} {v : Bool} {P : Nat → Nat × Nat} {len a b : Nat} (h : FoolOk f n m v P len) (ha : a < n) (hb : b < m) (hok : okF f v P a b len = true) : FoolOk f n m v (addF P len (a, b)) (len + 1) := by
  obtain ⟨h1, h2⟩ := okF_all hok
  refine ⟨fun i hi => ?_, fun i k hik hk => ?_⟩
  · unfold addF
    by_cases e : i < len
    · rw [if_pos e]; exact h.1 i e
    · rw [if_neg e]; exact ⟨ha, hb, h1⟩
  · unfold addF
    rw [if_pos (by omega)]
    by_cases e : k < len
    · rw [if_pos e]; exact h.2 i k hik e
    · rw [if_neg e]; exact (h2 i (by omega)).symm
theorem FoolOk.nil (f : Nat → Nat → Bool) (n m : Nat) (v : Bool) (P : Nat → Nat × Nat) : FoolOk f n m v P 0 := ⟨fun i hi => absurd hi (Nat.not_lt_zero _), fun i k _ hk => absurd hk (Nat.not_lt_zero _)⟩
theorem EFt : Elem Try.prog 29 34 2 16 := Elem.of Try.underlying29 (by kernel_rfl : (Try.prog.info? 34).map (fun i => (i.zero, i.size, i.bytes)) = some (some (.agg #[.int .i64 0, .int .i64 0]), 2, 16)) rfl (by omega)
theorem cF_cat (P : Nat → Nat × Nat) (len a b : Nat) (i : Nat) (hi : i < len * 2 + 2) : cat (len * 2) (fun i => Value.int .i64 (cF P i : Nat)) (fun i => .int .i64 (cF (fun _ => (a, b)) i : Nat)) i = .int .i64 (cF (addF P len (a, b)) i : Nat) := by
  by_cases e : i < len * 2
  · rw [cat_lt e]
    have : cF (addF P len (a, b)) i = cF P i := by unfold cF addF; rw [if_pos (show i / 2 < len by omega)]
    rw [this]
  · rw [cat_ge (by omega)]
    have : cF (addF P len (a, b)) i = cF (fun _ => (a, b)) (i - len * 2) := by
      unfold cF addF
      rw [if_neg (show ¬ i / 2 < len by omega)]
      by_cases e2 : i % 2 = 0
      · rw [if_pos e2, if_pos (by omega)]
      · rw [if_neg e2, if_neg (by omega)]
    rw [this]
theorem rd_two (w : World) (a b : Nat) (t : TypeId) : Rd (w.alloc (.cells #[.int .i64 (a : Nat), .int .i64 (b : Nat)] t)) (some ⟨w.heap.size, 0, none⟩) 2 (fun i => .int .i64 (cF (fun _ => (a, b)) i : Nat)) := fun _ =>
  ⟨_, _, rfl, by simp, fun i hi => by
    have : i = 0 ∨ i = 1 := by omega
    rcases this with rfl | rfl <;> simp [cF]⟩
/-- what fool leaves -/
def FoolP (f : Nat → Nat → Bool) (n m : Nat) (v : Bool) (fr len : Nat) (W : World) (e : Ending) (w' : World) : Prop :=
  ∃ S' len' c' P', e = .returned (.slice S' len' c') ∧ Rd w' S' (len' * 2) (fun i => .int .i64 (cF P' i : Nat)) ∧ FoolOk f n m v P' len' ∧ len ≤ len' ∧ len' ≤ 16 ∧ (len' = 0 → ∀ k, fr ≤ k → k < n * m → f (k / m) (k % m) ≠ v) ∧ Below W.heap.size W w'
set_option maxRecDepth 100000 in
set_option maxHeartbeats 8000000 in
theorem fool_any (n m cc : Nat) (A : Option Addr) (R : Nat → SB) (v : Bool) (hn : 1 ≤ n ∧ n ≤ 4) (hm : 1 ≤ m ∧ m ≤ 4) (hlen : ∀ i, i < n → (R i).n = m) :
    ∀ (g fr len : Nat) (S : Option Addr) (c : Nat) (P : Nat → Nat × Nat) (W : World), n * m - fr < g → fr ≤ n * m → len ≤ fr → GrT W A n R → Rd W S (len * 2) (fun i => .int .i64 (cF P i : Nat)) → (S = none → len = 0 ∧ c = 0) → len ≤ c → FoolOk (tbB R) n m v P len →
      Calls Try.prog 21 #[.slice A n cc, .slice S len c, .int .i64 (fr : Nat), .bool v] W (FoolP (tbB R) n m v fr len W) := by
  intro g
  induction g with
  | zero => intro fr len S c P W hg; exact absurd hg (Nat.not_lt_zero _)
  | succ g IH =>
    intro fr len S c P W hg hfr hle hG hR hS hc hok
    obtain ⟨n1, n4⟩ := hn
    obtain ⟨m1, m4⟩ := hm
    have hNM : n * m ≤ 16 := Nat.mul_le_mul n4 m4
    obtain ⟨NM, hNMe⟩ : ∃ x, x = n * m := ⟨_, rfl⟩
    rw [← hNMe] at hNM hfr hg
    have hnmw : IntKind.i64.wrap ((n : Int) * (m : Int)) = (NM : Int) := by rw [show (n : Int) * (m : Int) = (NM : Int) by rw [hNMe]; exact (Int.natCast_mul n m).symm]; exact IntWalk.i64_in _ (by omega)
    have HNM := Lib.hid hNMe
    have HIH := Lib.hid IH
    have HLEN := Lib.hid hlen
    have HG := Lib.hid hG
    have HR := Lib.hid hR
    have HS := Lib.hid hS
    have HOK := Lib.hid hok
    obtain ⟨rB, rO, rfl, hAlt, _⟩ := HG.out.1.at_ (show 0 < n by omega)
    have hrow : ∀ X, Below W.heap.size W X → ∀ i, i < n → X.cell? ⟨rB, rO + i, none⟩ = some (.slice (R i).A m (R i).c) ∧ ∀ j, j < m → ∃ yb yo, (R i).A = some ⟨yb, yo, none⟩ ∧ X.cell? ⟨yb, yo + j, none⟩ = some (.bool (tbB R i j)) := fun X hX i hi => by
      have hGX := HG.out.below hX
      constructor
      · obtain ⟨b', o', e, _, hc⟩ := hGX.1.at_ hi
        cases e
        rw [hc]
        show some (Value.slice (R i).A (R i).n (R i).c) = _
        rw [HLEN.out i hi]
      · intro j hj
        obtain ⟨yb, yo, e, _, hc⟩ := (hGX.2 i hi).1.at_ (show j < (R i).n by rw [HLEN.out i hi]; exact hj)
        exact ⟨yb, yo, e, hc⟩
    have HROW := Lib.hid hrow
    have hc0 : W.cell? ⟨rB, rO, none⟩ = some (.slice (R 0).A m (R 0).c) := (hrow W (Below.refl _ _) 0 (by omega)).1
    have hlen16 : len ≤ 16 := by omega
    clear hNMe IH hlen hG hR hS hok hrow
    go_enter Try.func21, Try.ntmps21
    go_wp2_with fail
    clear hc0
    go_loopw [9, 11] (fun s9 s11 wr => ∃ (k : Nat) (SB : Option Addr) (bl bc : Nat) (PB : Nat → Nat × Nat), fr ≤ k ∧ k ≤ NM ∧ len ≤ bl ∧ bl ≤ 16 ∧ s9 = .slice SB bl bc ∧ s11 = .int .i64 (k : Nat) ∧ Hid (Rd wr SB (bl * 2) (fun i => .int .i64 (cF PB i : Nat))) ∧ Hid (FoolOk (tbB R) n m v PB bl) ∧ Hid (bl = 0 → ∀ k', fr ≤ k' → k' < k → tbB R (k' / m) (k' % m) ≠ v) ∧ Hid (Below W.heap.size W wr)) (fun _ s11 _ => NM - (intOf s11).toNat)
    case atStart => exact ⟨fr, S, len, c, P, Nat.le_refl _, hfr, Nat.le_refl _, hlen16, rfl, rfl, HR, HOK, Lib.hid fun _ k' h1 h2 => by omega, Lib.hid (Below.refl _ _)⟩
    case round =>
      obtain ⟨wo, rfl⟩ : ∃ wo : World, wo = wr := ⟨_, rfl⟩
      obtain ⟨k, SB, bl, bc, PB, hfk, hkN, hlb, hb16, rfl, rfl, HRB, HOB, HNO, HB⟩ := hrel
      by_cases hk : k < NM
      · obtain ⟨a, ha⟩ : ∃ a, a = k / m := ⟨_, rfl⟩
        obtain ⟨b, hb⟩ : ∃ b, b = k % m := ⟨_, rfl⟩
        have han : a < n := by rw [ha]; exact Nat.div_lt_of_lt_mul (by rw [Nat.mul_comm, ← HNM.out]; exact hk)
        have hbm : b < m := by rw [hb]; exact Nat.mod_lt _ (by omega)
        have HA : Hid (wrap64 ((k : Int) / (m : Int)) = (a : Int)) := Lib.hid (by rw [show (k : Int) / (m : Int) = (a : Int) by rw [ha]; exact (Int.natCast_ediv k m).symm]; exact IntWalk.wrap64_in _ (by omega))
        have HBm : Hid ((k : Int) % (m : Int) = (b : Int)) := Lib.hid (by rw [hb]; exact (Int.natCast_emod k m).symm)
        have HAN := Lib.hid ha
        have HBN := Lib.hid hb
        clear ha hb
        go_wp2_with fail
        go_region
        rw [HA.out, HBm.out]
        obtain ⟨W1, hW1⟩ : ∃ X, X = (wo.alloc (.cells #[.int .i64 (a : Nat), .int .i64 (b : Nat)] 34)).drew := ⟨_, rfl⟩
        obtain ⟨gp, hgp⟩ : ∃ g, g = wo.heap.size := ⟨_, rfl⟩
        have hba : Below wo.heap.size wo W1 := by rw [hW1]; exact ((Below.refl _ _).alloc (Nat.le_refl _) _).drew
        have p0 : W1.cell? ⟨gp, 0, none⟩ = some (.int .i64 (a : Nat)) := by rw [hW1, hgp]; simp
        have p1 : W1.cell? ⟨gp, 1, none⟩ = some (.int .i64 (b : Nat)) := by rw [hW1, hgp]; simp
        have hgl : gp < W1.heap.size := by rw [hW1, hgp]; simp
        have hbw := HB.out.trans (hba.mono HB.out.size)
        obtain ⟨r1, hr2⟩ := HROW.out W1 hbw a han
        obtain ⟨yb, yo, hyA, r2⟩ := hr2 b hbm
        rw [hyA] at r1
        obtain ⟨yc, hyc⟩ : ∃ y, y = (R a).c := ⟨_, rfl⟩
        rw [← hyc] at r1
        obtain ⟨x, hx⟩ : ∃ x, x = tbB R a b := ⟨_, rfl⟩
        rw [← hx] at r2
        have HX : Hid (okF (tbB R) v P a b 0 = (x == v)) := Lib.hid (by rw [hx]; rfl)
        have HBW := Lib.hid hbw
        have HBA := Lib.hid hba
        have HW1 := Lib.hid hW1
        have HGP := Lib.hid hgp
        have HP : Hid (W1.cell? ⟨gp, 0, none⟩ = some (.int .i64 (a : Nat)) ∧ W1.cell? ⟨gp, 1, none⟩ = some (.int .i64 (b : Nat)) ∧ gp < W1.heap.size) := Lib.hid ⟨p0, p1, hgl⟩
        rw [← hW1, ← hgp]
        clear hba hgl hbw hyA hyc hx hW1 hgp hr2
        go_wp2_with fail
        go_quiet (fail)
        obtain ⟨W2, hW2⟩ : ∃ X, X = W1.drewN nq := ⟨_, rfl⟩
        have HB2 : Hid (Below W1.heap.size W1 W2) := Lib.hid (by rw [hW2]; exact below_drewN (Below.refl _ _) nq)
        rw [← hW2]
        clear hW2 p0 p1 r1 r2
        go_wp2_with fail
        go_loopw [13, 51] (fun s13 s51 wr => ∃ j : Nat, j ≤ len ∧ s13 = .bool (okF (tbB R) v P a b j) ∧ s51 = .int .i64 (j : Nat) ∧ Hid (Below W1.heap.size W1 wr)) (fun _ s51 _ => len - (intOf s51).toNat)
        case atStart => exact ⟨0, Nat.zero_le _, by rw [HX.out], rfl, HB2⟩
        case round =>
          clear HB2 HX
          obtain ⟨wj, rfl⟩ : ∃ wj : World, wj = wr := ⟨_, rfl⟩
          obtain ⟨j, hj, rfl, rfl, HBJ⟩ := hrel
          by_cases hjl : j < len
          · have hbw := HBW.out.trans (HBJ.out.mono HBW.out.size)
            obtain ⟨b3, o3, rfl, _, c1, c2⟩ := cF_at (HR.out.below hbw) hjl
            obtain ⟨hq0, hq1, _⟩ := HOK.out.1 j hjl
            obtain ⟨q0, hq0e⟩ : ∃ q, q = (P j).1 := ⟨_, rfl⟩
            obtain ⟨q1, hq1e⟩ : ∃ q, q = (P j).2 := ⟨_, rfl⟩
            rw [← hq0e] at c1 hq0
            rw [← hq1e] at c2 hq1
            have hnx : okF (tbB R) v P a b (j + 1) = (okF (tbB R) v P a b j && (tbB R a q1 != v || tbB R q0 b != v)) := by rw [hq0e, hq1e]; rfl
            obtain ⟨W3, hW3⟩ : ∃ X, X = wj.alloc (.cells #[.int .i64 (q0 : Nat), .int .i64 (q1 : Nat)] 34) := ⟨_, rfl⟩
            obtain ⟨g2, hg2⟩ : ∃ g, g = wj.heap.size := ⟨_, rfl⟩
            have hba : Below wj.heap.size wj W3 := by rw [hW3]; exact (Below.refl _ _).alloc (Nat.le_refl _) _
            have hb3 : Below W1.heap.size W1 W3 := HBJ.out.trans (hba.mono HBJ.out.size)
            have d0 : W3.cell? ⟨g2, 0, none⟩ = some (.int .i64 (q0 : Nat)) := by rw [hW3, hg2]; simp
            have d1 : W3.cell? ⟨g2, 1, none⟩ = some (.int .i64 (q1 : Nat)) := by rw [hW3, hg2]; simp
            have p0 : W3.cell? ⟨gp, 0, none⟩ = some (.int .i64 (a : Nat)) := (hb3.cell (p := ⟨gp, 0, none⟩) HP.out.2.2).trans HP.out.1
            have p1 : W3.cell? ⟨gp, 1, none⟩ = some (.int .i64 (b : Nat)) := (hb3.cell (p := ⟨gp, 1, none⟩) HP.out.2.2).trans HP.out.2.1
            have hbw3 := HBW.out.trans (hb3.mono HBW.out.size)
            obtain ⟨r1, hr2⟩ := HROW.out W3 hbw3 a han
            obtain ⟨ya, yo, hyA, r2⟩ := hr2 q1 hq1
            rw [hyA] at r1
            obtain ⟨r3, hr4⟩ := HROW.out W3 hbw3 q0 hq0
            obtain ⟨za, zo, hzA, r4⟩ := hr4 b hbm
            rw [hzA] at r3
            obtain ⟨yc, hyc⟩ : ∃ y, y = (R a).c := ⟨_, rfl⟩
            obtain ⟨zc, hzc⟩ : ∃ y, y = (R q0).c := ⟨_, rfl⟩
            rw [← hyc] at r1
            rw [← hzc] at r3
            obtain ⟨x1, hx1⟩ : ∃ x, x = tbB R a q1 := ⟨_, rfl⟩
            obtain ⟨x2, hx2⟩ : ∃ x, x = tbB R q0 b := ⟨_, rfl⟩
            rw [← hx1] at r2 hnx
            rw [← hx2] at r4 hnx
            have HB3 := Lib.hid hb3
            have HW3 := Lib.hid hW3
            have HG2 := Lib.hid hg2
            have HNX := Lib.hid hnx
            obtain ⟨ok, hok⟩ : ∃ o, o = okF (tbB R) v P a b j := ⟨_, rfl⟩
            rw [← hok] at HNX ⊢
            clear hba hb3 hbw3 hyA hzA hyc hzc hx1 hx2 hnx hW3 hg2 hbw hq0e hq1e hr2 hr4 hok
            go_upto_region 11 with (fail)
            rw [← HW3.out, ← HG2.out]
            clear c1 c2
            cases ok with
            | false =>
              go_quiet (fail)
              go_wp2_with fail
              go_roundw
              case rel => exact ⟨j + 1, by omega, by rw [HNX.out]; rfl, by go_num, Lib.hid (below_drewN HB3.out nq)⟩
              case measure => simp [intOf]; omega
            | true =>
              by_cases e1 : x1 = v
              · have t1 : (x1 != v) = false := by rw [e1]; simp
                have u1 : (x1 == v) = true := by rw [e1]; simp
                have HT1 := Lib.hid t1
                by_cases e2 : x2 = v
                · have t2 : (x2 != v) = false := by rw [e2]; simp
                  have u2 : (x2 == v) = true := by rw [e2]; simp
                  have HT2 := Lib.hid t2
                  clear e1 e2
                  go_quiet (fail)
                  go_wp2_with fail
                  go_roundw
                  case rel => exact ⟨j + 1, by omega, by rw [HNX.out, HT1.out, HT2.out]; rfl, by go_num, Lib.hid (below_drewN HB3.out nq)⟩
                  case measure => simp [intOf]; omega
                · have t2 : (x2 != v) = true := by rw [bne_iff_ne]; exact e2
                  have u2 : (x2 == v) = false := by rw [beq_eq_false_iff_ne]; exact e2
                  have HT2 := Lib.hid t2
                  clear e1 e2
                  go_quiet (fail)
                  go_wp2_with fail
                  go_roundw
                  case rel => exact ⟨j + 1, by omega, by rw [HNX.out, HT1.out, HT2.out]; rfl, by go_num, Lib.hid (below_drewN HB3.out nq)⟩
                  case measure => simp [intOf]; omega
              · have t1 : (x1 != v) = true := by rw [bne_iff_ne]; exact e1
                have u1 : (x1 == v) = false := by rw [beq_eq_false_iff_ne]; exact e1
                have HT1 := Lib.hid t1
                clear e1
                go_quiet (fail)
                go_wp2_with fail
                go_roundw
                case rel => exact ⟨j + 1, by omega, by rw [HNX.out, HT1.out]; rfl, by go_num, Lib.hid (below_drewN HB3.out nq)⟩
                case measure => simp [intOf]; omega
          · obtain rfl : j = len := by omega
            have hbj := HBJ.out
            have hbw := HBW.out.trans (hbj.mono HBW.out.size)
            have HBWJ := Lib.hid hbw
            have HRBJ := Lib.hid (HRB.out.below (HBA.out.trans (hbj.mono HBA.out.size)))
            cases hok : okF (tbB R) v P a b j with
            | false =>
              have HNO2 : Hid (bl = 0 → ∀ k', fr ≤ k' → k' < k + 1 → tbB R (k' / m) (k' % m) ≠ v) := Lib.hid fun h0 k' h1 h2 => by
                by_cases e : k' = k
                · rw [e, ← HAN.out, ← HBN.out]
                  obtain rfl : j = 0 := by omega
                  intro hv
                  have : (tbB R a b == v) = false := hok
                  rw [hv] at this
                  simp at this
                · exact HNO.out h0 k' h1 (by omega)
              clear hok hbj hbw
              go_wp2_with fail
              go_roundw
              case rel => exact ⟨k + 1, SB, bl, bc, PB, by omega, by omega, hlb, hb16, rfl, by go_num, HRBJ, HOB, HNO2, HBWJ⟩
              case measure => simp [intOf]; omega
            | true =>
              have hadd := HOK.out.add han hbm hok
              have HADD := Lib.hid hadd
              have q0 : wj.cell? ⟨gp, 0, none⟩ = some (.int .i64 (a : Nat)) := (hbj.cell (p := ⟨gp, 0, none⟩) HP.out.2.2).trans HP.out.1
              have q1 : wj.cell? ⟨gp, 1, none⟩ = some (.int .i64 (b : Nat)) := (hbj.cell (p := ⟨gp, 1, none⟩) HP.out.2.2).trans HP.out.2.1
              have HRJ := Lib.hid (HR.out.below hbw)
              clear hok hbj hbw hadd
              go_wp2_with fail
              have hws := HBWJ.out.size
              have hw1 := HBW.out.size
              have hd : Below wj.heap.size wj (wj.alloc (.cells #[.int .i64 (a : Nat), .int .i64 (b : Nat)] 34)).drew := ((Below.refl wj.heap.size wj).alloc (Nat.le_refl _) _).drew
              have hRd := HRJ.out.below hd
              have hnil : S = none → j = 0 ∧ j = 0 := fun e => by have := HS.out e; omega
              have hk1 : IntKind.i64.wrap ((k : Int) + 1) = ((k + 1 : Nat) : Int) := by rw [show (k : Int) + 1 = ((k + 1 : Nat) : Int) by omega]; exact IntWalk.i64_in _ (by omega)
              have h2 := rd_two wj a b 34
              have hcall : ∀ (A2 : Option Addr) (c2 : Nat) (w2 : World), Own w2 (wj.alloc (.cells #[.int .i64 (a : Nat), .int .i64 (b : Nat)] 34)).drew.heap.size 34 2 A2 (j + 1) c2 (j * 2 + 2) (cat (j * 2) (fun i => .int .i64 (cF P i : Nat)) (fun i => .int .i64 (cF (fun _ => (a, b)) i : Nat))) → Below (wj.alloc (.cells #[.int .i64 (a : Nat), .int .i64 (b : Nat)] 34)).drew.heap.size (wj.alloc (.cells #[.int .i64 (a : Nat), .int .i64 (b : Nat)] 34)).drew w2 →
                  Calls Try.prog 21 #[.slice (some ⟨rB, rO, none⟩) n cc, .slice A2 (j + 1) c2, .int .i64 (IntKind.i64.wrap ((k : Int) + 1)), .bool v] w2 (fun e w' => ∃ S' l' c' P', e = .returned (.slice S' l' c') ∧ Rd w' S' (l' * 2) (fun i => .int .i64 (cF P' i : Nat)) ∧ FoolOk (tbB R) n m v P' l' ∧ j + 1 ≤ l' ∧ l' ≤ 16 ∧ Below wj.heap.size wj w') := fun A2 c2 w2 ho hb => by
                have hb2 : Below wj.heap.size wj w2 := hd.trans (hb.mono hd.size)
                have hr : Rd w2 A2 ((j + 1) * 2) (fun i => .int .i64 (cF (addF P j (a, b)) i : Nat)) := by
                  have := (ho.congr fun i hi => cF_cat P j a b i hi).rd
                  rw [show (j + 1) * 2 = j * 2 + 2 by omega]
                  exact this
                have hnil2 : A2 = none → j + 1 = 0 ∧ c2 = 0 := fun e => by
                  obtain ⟨_, _, e2, _⟩ := hr (by omega)
                  rw [e] at e2; cases e2
                have := HIH.out (k + 1) (j + 1) A2 c2 (addF P j (a, b)) w2 (by rw [← HNM.out]; omega) (by rw [← HNM.out]; omega) (by omega) (HG.out.below (HBWJ.out.trans (hb2.mono hws))) hr hnil2 ho.le.1 HADD.out
                rw [hk1]
                refine this.mono ?_
                rintro e w' ⟨S', l', c', P', rfl, q1, q2, q3, q4, _, q6⟩
                exact ⟨S', l', c', P', rfl, q1, q2, q3, q4, hb2.trans (q6.mono hb2.size)⟩
              have HCALL := Lib.hid hcall
              clear hcall hk1
              go_region_law (first
                | (refine step_grow _ rfl (.tmp 91) (.tmp 93) 29 rfl EFt rfl (k := j * 2) (by omega) hnil hRd rfl (l := 2) rfl h2.drew (fun _ _ => rfl) (by omega) (by omega) (by unfold maxLen; omega) (by omega) (j + 1) (j * 2 + 2) rfl rfl ?_; intro A2 c2' w2 hown2 hbl2; have hcl := HCALL.out A2 c2' w2 hown2 hbl2)
                | (go_simp; go_at_call 21; (with_reducible refine hcl.mono ?_); rintro e w5 ⟨S', l', c', P', rfl, q1, q2, q3, q4, q5⟩))
              all_goals
                have hbe : Below W.heap.size W w5 := HBWJ.out.trans (q5.mono hws)
                have HQ1 := Lib.hid q1
                have HQ2 := Lib.hid q2
                have HBE := Lib.hid hbe
                have HRB5 := Lib.hid (HRBJ.out.below q5)
                clear hd hRd hnil h2 HCALL q0 q1 q2 hbe q5
                by_cases hgt : bl < l'
                · go_wp2_with fail
                  go_roundw
                  case rel => exact ⟨k + 1, S', l', c', P', by omega, by omega, by omega, q4, rfl, by go_num, HQ1, HQ2, Lib.hid (fun h0 => absurd h0 (by omega)), HBE⟩
                  case measure => simp [intOf]; omega
                · go_wp2_with fail
                  go_roundw
                  case rel => exact ⟨k + 1, SB, bl, bc, PB, by omega, by omega, hlb, hb16, rfl, by go_num, HRB5, HOB, Lib.hid (fun h0 => absurd h0 (by omega)), HBE⟩
                  case measure => simp [intOf]; omega
      · obtain rfl : k = NM := by omega
        go_wp2_with fail
        go_ret
        exact ⟨SB, bl, bc, PB, rfl, HRB.out, HOB.out, hlb, hb16, fun h0 k' h1 h2 => HNO.out h0 k' h1 (by rw [HNM.out]; exact h2), HB.out⟩
end Go.Proofs.Ytnfibchffbdmpaa
