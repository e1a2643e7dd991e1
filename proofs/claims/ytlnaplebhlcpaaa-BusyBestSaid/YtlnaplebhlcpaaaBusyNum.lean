/- What busy.power and busy.Number compute. Conditions: as each theorem states. -/
import Derived.Test.YtlnaplebhlcpaaaTapeCheck
namespace Go.Proofs.Ytlnaplebhlcpaaa
open Go.ChangeShapes Go.WideShapes Go.ChangeAt Go.RowKit
set_option linter.unusedVariables false
def pwB (n : Nat) : Nat := if n = 1 then 64 else 20736
set_option maxRecDepth 100000 in
theorem power_any (n : Nat) (w : World) (hn : n = 1 ∨ n = 2) :
    Calls Try.prog 9 #[.int .i64 n] w fun e w' => e = .returned (.int .i64 (pwB n)) ∧ w = w' := by
  rcases hn with rfl | rfl
  · go_enter Try.func9, Try.ntmps9
    go_wp2_with fail
    go_loop [3, 6] (fun s3 s6 => ∃ i : Nat, i ≤ 2 ∧ s6 = .int .i64 i ∧ s3 = .int .i64 (8 ^ i : Nat)) (fun _ s6 => 2 - (intOf s6).toNat)
    case atStart => exact ⟨0, Nat.zero_le _, rfl, rfl⟩
    case round =>
      obtain ⟨i, hi, rfl, rfl⟩ := hrel
      have hc : i = 0 ∨ i = 1 ∨ i = 2 := by omega
      rcases hc with rfl | rfl | rfl
      · go_wp2_with fail
        go_round
        case rel => exact ⟨1, by omega, rfl, rfl⟩
        case measure => simp [intOf]
      · go_wp2_with fail
        go_round
        case rel => exact ⟨2, by omega, rfl, rfl⟩
        case measure => simp [intOf]
      · go_wp2_with fail
        go_ret
        exact ⟨rfl, rfl⟩
  · go_enter Try.func9, Try.ntmps9
    go_wp2_with fail
    go_loop [3, 6] (fun s3 s6 => ∃ i : Nat, i ≤ 4 ∧ s6 = .int .i64 i ∧ s3 = .int .i64 (12 ^ i : Nat)) (fun _ s6 => 4 - (intOf s6).toNat)
    case atStart => exact ⟨0, Nat.zero_le _, rfl, rfl⟩
    case round =>
      obtain ⟨i, hi, rfl, rfl⟩ := hrel
      have hc : i = 0 ∨ i = 1 ∨ i = 2 ∨ i = 3 ∨ i = 4 := by omega
      rcases hc with rfl | rfl | rfl | rfl | rfl
      · go_wp2_with fail
        go_round
        case rel => exact ⟨1, by omega, rfl, rfl⟩
        case measure => simp [intOf]
      · go_wp2_with fail
        go_round
        case rel => exact ⟨2, by omega, rfl, rfl⟩
        case measure => simp [intOf]
      · go_wp2_with fail
        go_round
        case rel => exact ⟨3, by omega, rfl, rfl⟩
        case measure => simp [intOf]
      · go_wp2_with fail
        go_round
        case rel => exact ⟨4, by omega, rfl, rfl⟩
        case measure => simp [intOf]
      · go_wp2_with fail
        go_ret
        exact ⟨rfl, rfl⟩
/-- the table of a machine of the busy beaver's game: two rules a row -/
def BkR (n : Nat) (R : Nat → SI) : Prop := ∀ i, i < n → (R i).n = 2 ∧ ∀ j, j < 2 → (0 ≤ (R i).f (3 * j) ∧ (R i).f (3 * j) ≤ 1) ∧ ((R i).f (3 * j + 1) = -1 ∨ (R i).f (3 * j + 1) = 1) ∧ (0 ≤ (R i).f (3 * j + 2) ∧ (R i).f (3 * j + 2) ≤ n)
theorem BkR.ok {n : Nat} {R : Nat → SI} (h : BkR n R) (hn : n = 1 ∨ n = 2) : tpE n 2 n R = 0 := by
  unfold tpE
  rw [if_neg (by omega)]
  have h2 : anyB (lnB 2 R) n = false := anyB_no fun j hj => by
    unfold lnB
    rw [(h j hj).1]
    decide
  rw [if_neg (by rw [h2]; simp)]
  refine fstE_zero.2 fun i hi => ?_
  unfold rwE
  refine fstE_zero.2 fun j hj => ?_
  obtain ⟨e, hb⟩ := h i hi
  obtain ⟨b1, b2, b3⟩ := hb j (by omega)
  unfold ruE
  rw [if_neg (by omega), if_neg (by omega), if_neg (by omega)]
def vlB (n : Nat) (R : Nat → SI) (x : Nat) : Int := (2 * (R (x / 2)).f (3 * (x % 2)) + ((R (x / 2)).f (3 * (x % 2) + 1) + 1) / 2) * (n + 1) + (R (x / 2)).f (3 * (x % 2) + 2)
def nmB (n : Nat) (R : Nat → SI) : Nat → Int
  | 0 => 0
  | x + 1 => nmB n R x * (4 * (n + 1)) + vlB n R x
theorem vlB_bd {n : Nat} {R : Nat → SI} (h : BkR n R) (hn : n = 1 ∨ n = 2) {x : Nat} (hx : x < 2 * n) : 0 ≤ vlB n R x ∧ vlB n R x ≤ 4 * n + 3 := by
  obtain ⟨_, hb⟩ := h (x / 2) (by omega)
  obtain ⟨b1, b2, b3⟩ := hb (x % 2) (by omega)
  unfold vlB
  generalize (R (x / 2)).f (3 * (x % 2)) = a at *
  generalize (R (x / 2)).f (3 * (x % 2) + 1) = b at *
  generalize (R (x / 2)).f (3 * (x % 2) + 2) = c at *
  rcases hn with rfl | rfl <;> rcases b2 with rfl | rfl <;> simp <;> omega
theorem nmB_bd {n : Nat} {R : Nat → SI} (h : BkR n R) (hn : n = 1 ∨ n = 2) : ∀ x, x ≤ 2 * n → 0 ≤ nmB n R x ∧ nmB n R x < (4 * (n + 1)) ^ x := by
  intro x
  induction x with
  | zero => exact fun _ => ⟨Int.le_refl _, by show (0 : Int) < 1; decide⟩
  | succ x ih =>
    intro hx
    obtain ⟨i0, i1⟩ := ih (by omega)
    obtain ⟨v0, v1⟩ := vlB_bd h hn (x := x) (by omega)
    show 0 ≤ nmB n R x * (4 * (n + 1)) + vlB n R x ∧ nmB n R x * (4 * (n + 1)) + vlB n R x < _
    rw [Int.pow_succ]
    generalize nmB n R x = a at *
    generalize vlB n R x = v at *
    generalize (4 * ((n : Int) + 1)) ^ x = p at *
    rcases hn with rfl | rfl
    · simp at *; omega
    · simp at *; omega
theorem nmB_le {n : Nat} {R : Nat → SI} (h : BkR n R) (hn : n = 1 ∨ n = 2) {x : Nat} (hx : x ≤ 2 * n) : 0 ≤ nmB n R x ∧ nmB n R x ≤ 20736 := by
  have b := nmB_bd h hn x hx
  have : ((4 * ((n : Int) + 1)) ^ x) ≤ 20736 := by
    rcases hn with rfl | rfl
    · have : x = 0 ∨ x = 1 ∨ x = 2 := by omega
      rcases this with rfl | rfl | rfl <;> decide
    · have : x = 0 ∨ x = 1 ∨ x = 2 ∨ x = 3 ∨ x = 4 := by omega
      rcases this with rfl | rfl | rfl | rfl | rfl <;> decide
  omega
set_option maxRecDepth 100000 in
set_option maxHeartbeats 4000000 in
theorem number_any (A : Option Addr) (n c : Nat) (R : Nat → SI) (w : World) (h : Tm w A n R) (hB : BkR n R) (hn : n = 1 ∨ n = 2) :
    Calls Try.prog 6 #[.agg #[.int .i64 n, .int .i64 2, .slice A n c]] w fun e w' => e = .returned (.tuple #[.int .i64 (nmB n R (2 * n)), .int .i64 0]) ∧ Below w.heap.size w w' := by
  have H := Lib.hid h
  have HB := Lib.hid hB
  have HOK := Lib.hid (hB.ok hn)
  have HNN := Lib.hid hn
  have n12 : 1 ≤ n ∧ n ≤ 2 := by omega
  obtain ⟨n1, n2⟩ := n12
  have B0 := (Below.refl w.heap.size w).alloc (Nat.le_refl _) (.cells #[.int .i64 n, .int .i64 2, .slice A n c] 24)
  have d0 : (w.alloc (.cells #[.int .i64 (n : Int), .int .i64 2, .slice A n c] 24)).cell? ⟨w.heap.size, 0, none⟩ = some (.int .i64 n) := by simp [go_sem]
  have d1 : (w.alloc (.cells #[.int .i64 (n : Int), .int .i64 2, .slice A n c] 24)).cell? ⟨w.heap.size, 1, none⟩ = some (.int .i64 2) := by simp [go_sem]
  have d2 : (w.alloc (.cells #[.int .i64 (n : Int), .int .i64 2, .slice A n c] 24)).cell? ⟨w.heap.size, 2, none⟩ = some (.slice A n c) := by simp [go_sem]
  have gs0 : w.heap.size < (w.alloc (.cells #[.int .i64 (n : Int), .int .i64 2, .slice A n c] 24)).heap.size := by simp
  have HB0 := Lib.hid B0
  have D0 := Lib.hid d0
  have D1 := Lib.hid d1
  have D2 := Lib.hid d2
  have GS0 := Lib.hid gs0
  clear h hB hn B0 d0 d1 d2 gs0
  go_enter Try.func6, Try.ntmps6
  go_wp2_with fail
  refine (tapeCheck_any n 2 A n c R _ (H.out.below HB0.out) (by unfold maxLen; omega)).mono ?_
  rintro e w1 ⟨rfl, hb1⟩
  rw [HOK.out]
  have BW := HB0.out.trans (hb1.mono HB0.out.size)
  have f0 := (hb1.cell (p := ⟨w.heap.size, 0, none⟩) GS0.out).trans D0.out
  have f1 := (hb1.cell (p := ⟨w.heap.size, 1, none⟩) GS0.out).trans D1.out
  have f2 := (hb1.cell (p := ⟨w.heap.size, 2, none⟩) GS0.out).trans D2.out
  have gs : w.heap.size < w1.heap.size := by have := hb1.size; have := GS0.out; omega
  obtain ⟨g, hg⟩ : ∃ g, g = w.heap.size := ⟨_, rfl⟩
  have GW := Lib.hid BW
  rw [← hg] at f0 f1 f2 gs ⊢
  have X0 := Lib.hid f0
  clear hg hb1 BW HB0 D0 D1 D2 GS0
  go_wp2_with fail
  go_loopw [5, 26] (fun s5 s26 wr => ∃ i : Nat, i ≤ n ∧ s26 = .int .i64 i ∧ s5 = .int .i64 (nmB n R (2 * i)) ∧ Below w1.heap.size w1 wr) (fun _ s26 _ => n - (intOf s26).toNat)
  case atStart => exact ⟨0, Nat.zero_le _, rfl, rfl, Below.refl _ _⟩
  case round =>
    obtain ⟨wo, rfl⟩ : ∃ wo : World, wo = wr := ⟨_, rfl⟩
    obtain ⟨i, hi, rfl, rfl, hbel⟩ := hrel
    by_cases hlt : i < n
    · have hbw := GW.out.trans (hbel.mono GW.out.size)
      have hT := H.out.below hbw
      obtain ⟨b, off, rfl, _, hcell⟩ := hT.1.at_ hlt
      obtain ⟨hrd, hrl⟩ := hT.2 i hlt
      obtain ⟨hl2, hrs⟩ := HB.out i hlt
      obtain ⟨RA, hRA⟩ : ∃ x, x = (R i).A := ⟨_, rfl⟩
      obtain ⟨rc, hrc⟩ : ∃ x, x = (R i).c := ⟨_, rfl⟩
      obtain ⟨rf, hrf⟩ : ∃ x, x = (R i).f := ⟨_, rfl⟩
      have hcell2 : wo.cell? ⟨b, off + i, none⟩ = some (.slice RA 2 rc) := by rw [hcell, hRA, ← hl2, hrc]; rfl
      rw [← hRA, hl2, ← hrf] at hrd
      rw [← hrf] at hrs
      have hvl : ∀ j, j < 2 → nmB n R (2 * i + (j + 1)) = nmB n R (2 * i + j) * (4 * ((n : Int) + 1)) + ((2 * rf (3 * j) + (rf (3 * j + 1) + 1) / 2) * (n + 1) + rf (3 * j + 2)) := fun j hj => by
        show nmB n R (2 * i + j) * (4 * ((n : Int) + 1)) + vlB n R (2 * i + j) = _
        unfold vlB
        rw [show (2 * i + j) / 2 = i by omega, show (2 * i + j) % 2 = j by omega, ← hrf]
      have HVL := Lib.hid hvl
      have HRD := Lib.hid hrd
      have HRS := Lib.hid hrs
      clear hcell hRA hrc hrf hrd hT hl2 hrl hvl hrs
      go_wp2_with fail
      go_loopw [5, 32] (fun s5 s32 wr => ∃ j : Nat, j ≤ 2 ∧ s32 = .int .i64 j ∧ s5 = .int .i64 (nmB n R (2 * i + j)) ∧ Below wo.heap.size wo wr) (fun _ s32 _ => 2 - (intOf s32).toNat)
      case atStart => exact ⟨0, Nat.zero_le _, rfl, rfl, Below.refl _ _⟩
      case round =>
        clear hcell2
        obtain ⟨wq, rfl⟩ : ∃ wq : World, wq = wr := ⟨_, rfl⟩
        obtain ⟨j, hj, rfl, rfl, hbq⟩ := hrel
        have B2 := hbel.trans (hbq.mono hbel.size)
        by_cases hjn : j < 2
        · obtain ⟨rb, ro, rfl, hrb, r0, r1, r2⟩ := (HRD.out.below hbq).at3 hjn
          have m0 := (B2.cell (p := ⟨g, 0, none⟩) gs).trans X0.out
          have sz2 := B2.size
          have gq : g < wq.heap.size := by omega
          have hv := HVL.out j hjn
          obtain ⟨⟨x0, x1⟩, hy, z0, z1⟩ := HRS.out j hjn
          obtain ⟨x, hx⟩ : ∃ x, x = rf (3 * j) := ⟨_, rfl⟩
          obtain ⟨y, hyy⟩ : ∃ x, x = rf (3 * j + 1) := ⟨_, rfl⟩
          obtain ⟨z, hz⟩ : ∃ x, x = rf (3 * j + 2) := ⟨_, rfl⟩
          rw [← hx, ← hyy, ← hz] at hv
          rw [← hx] at r0 x0 x1
          rw [← hyy] at r1 hy
          rw [← hz] at r2 z0 z1
          obtain ⟨a0, a1⟩ := nmB_le HB.out HNN.out (x := 2 * i + j) (by omega)
          obtain ⟨a, ha⟩ : ∃ x, x = nmB n R (2 * i + j) := ⟨_, rfl⟩
          rw [← ha] at hv a0 a1 ⊢
          clear hx hyy hz ha
          have B4 := hbq.alloc hbq.size (.cells #[.int .i64 x, .int .i64 y, .int .i64 z] 37)
          obtain ⟨Z, hZ⟩ : ∃ Z, a * 4 * ((n : Int) + 1) = Z := ⟨_, rfl⟩
          have hZb : 0 ≤ Z ∧ Z ≤ 248832 := by
            rw [← hZ]
            rcases HNN.out with rfl | rfl <;> simp <;> omega
          obtain ⟨Z0, Z1⟩ := hZb
          rcases hy with rfl | rfl
          · obtain ⟨V, hV⟩ : ∃ V, 2 * x * ((n : Int) + 1) = V := ⟨_, rfl⟩
            have hVb : 0 ≤ V ∧ V ≤ 6 := by
              rw [← hV]
              rcases HNN.out with rfl | rfl <;> simp <;> omega
            obtain ⟨V0, V1⟩ := hVb
            have hfin : nmB n R (2 * i + (j + 1)) = Z + V + z := by rw [hv, ← hZ, ← hV, ← Int.mul_assoc]; simp; omega
            have HFIN := Lib.hid hfin
            clear hv hfin
            go_wp2_with fail
            go_roundw
            case rel => exact ⟨j + 1, by omega, by go_num, by rw [HFIN.out], B4⟩
            case measure => simp [intOf]; omega
          · obtain ⟨V, hV⟩ : ∃ V, (2 * x + 1) * ((n : Int) + 1) = V := ⟨_, rfl⟩
            have hVb : 0 ≤ V ∧ V ≤ 9 := by
              rw [← hV]
              rcases HNN.out with rfl | rfl <;> simp <;> omega
            obtain ⟨V0, V1⟩ := hVb
            have hfin : nmB n R (2 * i + (j + 1)) = Z + V + z := by rw [hv, ← hZ, ← hV, ← Int.mul_assoc]; simp; omega
            have HFIN := Lib.hid hfin
            clear hv hfin
            go_wp2_with fail
            go_roundw
            case rel => exact ⟨j + 1, by omega, by go_num, by rw [HFIN.out], B4⟩
            case measure => simp [intOf]; omega
        · obtain rfl : j = 2 := by omega
          go_wp2_with fail
          go_roundw
          case rel => exact ⟨i + 1, by omega, by go_num, rfl, B2⟩
          case measure => simp [intOf]; omega
    · obtain rfl : i = n := by omega
      go_wp2_with fail
      go_ret2
      exact ⟨rfl, GW.out.trans (hbel.mono GW.out.size)⟩
end Go.Proofs.Ytlnaplebhlcpaaa
