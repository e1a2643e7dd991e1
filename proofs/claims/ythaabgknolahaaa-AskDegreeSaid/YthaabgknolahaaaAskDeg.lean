/- What ask.Degree computes. Conditions: the table reads as a function of its index. -/
import Derived.Test.YthaabgknolahaaaAskLaw2
import Derived.Test.YthaabgknolahaaaAskFns
import Derived.BigRegion
import Derived.BigQuiet
import Derived.IntWalk
import Derived.OwnWalk
namespace Go.Proofs.Ythaabgknolahaaa
open Go.ChangeShapes Go.WideShapes Go.ChangeAt Go.RowKit
set_option linter.unusedVariables false
set_option linter.unusedSimpArgs false
theorem make_intsD (K : Nat) (hK : K ≤ 1000) (W : World) : (Instr.makeSlice 41 (.int .i64 (K : Int)) (.int .i64 (K : Int))).run Try.prog W = .ok (.slice (some ⟨W.heap.size, 0, none⟩) K K) (W.alloc (.cells (madeCells #[.int .i64 0] K) 3)) :=
  run_make_row' 41 3 (.int .i64 0) 8 Try.underlying41 (by kernel_rfl) rfl .i64 .i64 K (by omega) (by omega) W
/-- the sums when the variables below i are done -/
def dfF (F : Nat → Bool) : Nat → Nat → Int
  | 0, x => if F x = true then 1 else 0
  | i + 1, x => if hasBit x i = true then dfF F i x - dfF F i (x ^^^ 2 ^ i) else dfF F i x
theorem df_bd (F : Nat → Bool) : ∀ i, i ≤ 4 → ∀ x, -16 ≤ dfF F i x * 2 ^ (4 - i) ∧ dfF F i x * 2 ^ (4 - i) ≤ 16
  | 0, _, x => by unfold dfF; split <;> decide
  | i + 1, h, x => by
    have e : (2 : Int) ^ (4 - i) = 2 * 2 ^ (4 - (i + 1)) := by rw [show 4 - i = (4 - (i + 1)) + 1 by omega, Int.pow_succ]; omega
    have h1 := df_bd F i (by omega) x
    have h2 := df_bd F i (by omega) (x ^^^ 2 ^ i)
    rw [e] at h1 h2
    have hp : (1 : Int) ≤ 2 ^ (4 - (i + 1)) := by
      have : (0 : Int) < 2 ^ (4 - (i + 1)) := Int.pow_pos (by omega)
      omega
    generalize (2 : Int) ^ (4 - (i + 1)) = P at h1 h2 hp ⊢
    unfold dfF
    split
    · rw [Int.sub_mul]
      rw [← Int.mul_assoc, Int.mul_comm _ 2, Int.mul_assoc] at h1 h2
      omega
    · rw [← Int.mul_assoc, Int.mul_comm _ 2, Int.mul_assoc] at h1
      omega
theorem df_16 (F : Nat → Bool) (i : Nat) (h : i ≤ 4) (x : Nat) : -16 ≤ dfF F i x ∧ dfF F i x ≤ 16 := by
  have h1 := df_bd F i h x
  have hp : (1 : Int) ≤ 2 ^ (4 - i) := by
    have : (0 : Int) < 2 ^ (4 - i) := Int.pow_pos (by omega)
    omega
  generalize (2 : Int) ^ (4 - i) = P at h1 hp
  generalize dfF F i x = v at h1 ⊢
  constructor
  · refine Int.not_lt.1 fun hc => ?_
    have : v * P ≤ (-17) * P := Int.mul_le_mul_of_nonneg_right (by omega) (by omega)
    omega
  · refine Int.not_lt.1 fun hc => ?_
    have : 17 * P ≤ v * P := Int.mul_le_mul_of_nonneg_right (by omega) (by omega)
    omega
def dgA (F : Nat → Bool) (x q : Nat) : Value := .int .i64 (if q < x then dfF F 0 q else 0)
def dgB (F : Nat → Bool) (i x q : Nat) : Value := .int .i64 (if q < x then dfF F (i + 1) q else dfF F i q)
theorem dgA_skip {F : Nat → Bool} {x : Nat} (h : F x = false) (q : Nat) : dgA F x q = dgA F (x + 1) q := by
  unfold dgA
  by_cases e : q = x
  · subst e; rw [if_neg (by omega), if_pos (by omega)]; unfold dfF; rw [h]; rfl
  · by_cases l : q < x
    · rw [if_pos l, if_pos (by omega)]
    · rw [if_neg l, if_neg (by omega)]
theorem dgA_set {F : Nat → Bool} {x : Nat} (h : F x = true) (q : Nat) : (if q = x then Value.int .i64 1 else dgA F x q) = dgA F (x + 1) q := by
  unfold dgA
  by_cases e : q = x
  · subst e; rw [if_pos rfl, if_pos (by omega)]; unfold dfF; rw [h]; rfl
  · rw [if_neg e]
    by_cases l : q < x
    · rw [if_pos l, if_pos (by omega)]
    · rw [if_neg l, if_neg (by omega)]
theorem dgB_skip {F : Nat → Bool} {i x : Nat} (h : hasBit x i = false) (q : Nat) : dgB F i x q = dgB F i (x + 1) q := by
  unfold dgB
  by_cases e : q = x
  · subst e; rw [if_neg (by omega), if_pos (by omega)]
    show _ = Value.int .i64 (dfF F (i + 1) q)
    rw [dfF, h, if_neg (by decide)]
  · by_cases l : q < x
    · rw [if_pos l, if_pos (by omega)]
    · rw [if_neg l, if_neg (by omega)]
theorem dgB_set {F : Nat → Bool} {i x : Nat} {v : Int} (h : hasBit x i = true) (hv : v = dfF F i x - dfF F i (x ^^^ 2 ^ i)) (q : Nat) : (if q = x then Value.int .i64 v else dgB F i x q) = dgB F i (x + 1) q := by
  unfold dgB
  by_cases e : q = x
  · subst e; rw [if_pos rfl, if_pos (by omega)]
    show _ = Value.int .i64 (dfF F (i + 1) q)
    rw [dfF, h, if_pos rfl, hv]
  · rw [if_neg e]
    by_cases l : q < x
    · rw [if_pos l, if_pos (by omega)]
    · rw [if_neg l, if_neg (by omega)]
theorem bit_D : ∀ x : Nat, x < 16 → ∀ i : Nat, i < 4 → bits .and .i64 ((x : Int) / 2 ^ i) 1 = if hasBit x i = true then 1 else 0 := by decide +kernel
theorem xor_D : ∀ x : Nat, x < 16 → ∀ i : Nat, i < 4 → bits .xor .i64 (x : Int) (2 ^ i) = ((x ^^^ 2 ^ i : Nat) : Int) := by decide +kernel
theorem xor_lo : ∀ x : Nat, x < 16 → ∀ i : Nat, i < 4 → hasBit x i = true → x ^^^ 2 ^ i < x ∧ hasBit (x ^^^ 2 ^ i) i = false := by decide +kernel
def dgF (n : Nat) (F : Nat → Bool) (x : Nat) : Nat := if dfF F n x = 0 then 0 else popc x
theorem mx_succd (g : Nat → Nat) (k : Nat) : mxF g (k + 1) = max (mxF g k) (g k) := rfl
set_option maxRecDepth 100000 in
set_option maxHeartbeats 4000000 in
theorem Degree_any (A : Option Addr) (n c : Nat) (F : Nat → Bool) (w : World) (h : Tb w A n F) (h4 : n ≤ 4) :
    Calls Try.prog 11 #[.int .i64 (n : Nat), .slice A (2 ^ n) c] w fun e w' => e = .returned (.tuple #[.int .i64 (mxF (dgF n F) (2 ^ n) : Nat), .int .i64 0]) ∧ Below w.heap.size w w' := by
  have hp := p16 h4
  have hw := askWrong_any (n : Nat) 0 A (2 ^ n) c w (by unfold maxLen; omega)
  rw [show tabE ((n : Nat) : Int) (2 ^ n) 0 = 0 by unfold tabE; rw [if_pos (by omega), if_pos (by simp), if_pos (by omega)]] at hw
  obtain ⟨b, o, rfl, hb, _⟩ := h.at_ (show 0 < 2 ^ n by omega)
  have hcl : ∀ X : World, Below w.heap.size w X → ∀ q, q < 2 ^ n → X.cell? ⟨b, o + q, none⟩ = some (.bool (F q)) := fun X hX q hq => by
    obtain ⟨b', o', e, _, hc⟩ := (h.below hX).at_ hq
    cases e; exact hc
  obtain ⟨M, hM⟩ : ∃ M, M = 2 ^ n := ⟨_, rfl⟩
  rw [← hM] at hp hw hcl ⊢
  have hmk := make_intsD M (by omega) w
  have HW := Lib.hid hw
  have HCL := Lib.hid hcl
  have HMK := Lib.hid hmk
  clear h hw hcl hM hmk
  go_enter Try.func11, Try.ntmps11
  go_wp2_with fail
  refine HW.out.mono ?_
  rintro e w2 ⟨rfl, rfl⟩
  go_wp2_with fail
  rw [HMK.out]
  clear HMK
  obtain ⟨b0, hb0⟩ : ∃ b0, b0 = w.heap.size := ⟨_, rfl⟩
  obtain ⟨W2, hW2⟩ : ∃ W2, W2 = w.alloc (.cells (madeCells #[.int .i64 0] M) 3) := ⟨_, rfl⟩
  have hrow0 : W2.rowIs b0 3 M (dgA F 0) := by rw [hb0, hW2]; exact (World.rowIs_made w (.int .i64 0) M 3).congr fun i hi => by unfold dgA; rw [if_neg (Nat.not_lt_zero _)]
  have hba : Below w.heap.size w W2 := by rw [hW2]; exact (Below.refl _ _).alloc (Nat.le_refl _) _
  rw [← hb0, ← hW2]
  have HR0 := Lib.hid hrow0
  have HBA := Lib.hid hba
  have hb0' : w.heap.size ≤ b0 := by omega
  have hbb : b < b0 := by omega
  clear hrow0 hb0 hba hW2
  go_wp2_with fail
  go_loopw [26] (fun s26 wr => ∃ x : Nat, x ≤ M ∧ s26 = .int .i64 (x : Nat) ∧ Hid (wr.rowIs b0 3 M (dgA F x)) ∧ Hid (Below w.heap.size w wr)) (fun s26 _ => M - (intOf s26).toNat)
  case atStart => exact ⟨0, Nat.zero_le _, rfl, HR0, HBA⟩
  case round =>
    clear HR0 HBA
    obtain ⟨wo, rfl⟩ : ∃ wo : World, wo = wr := ⟨_, rfl⟩
    obtain ⟨x, hx, rfl, HR, HB⟩ := hrel
    by_cases hxm : x < M
    · have hcx := HCL.out wo HB.out x hxm
      cases hf : F x with
      | true =>
        rw [hf] at hcx
        have hc0 := HR.out.cell (i := x) hxm
        have hf0 := HR.out.frozen x
        have HF := Lib.hid hf
        clear hf
        go_wp2_with fail
        go_roundw
        case rel => exact ⟨x + 1, by omega, by go_num, Lib.hid ((HR.out.set x _).congr fun q _ => dgA_set HF.out q), Lib.hid (HB.out.setCell hb0' _)⟩
        case measure => simp [intOf]; omega
      | false =>
        rw [hf] at hcx
        have HF := Lib.hid hf
        clear hf
        go_wp2_with fail
        go_roundw
        case rel => exact ⟨x + 1, by omega, by go_num, Lib.hid (HR.out.congr fun q _ => dgA_skip HF.out q), HB⟩
        case measure => simp [intOf]; omega
    · obtain rfl : x = M := by omega
      have HR1 : Hid (wo.rowIs b0 3 x (fun q => .int .i64 (dfF F 0 q))) := Lib.hid (HR.out.congr fun q hq => by unfold dgA; rw [if_pos hq])
      clear HR
      go_wp2_with fail
      go_loopw [37] (fun s37 wr => ∃ i : Nat, i ≤ n ∧ s37 = .int .i64 (i : Nat) ∧ Hid (wr.rowIs b0 3 x (fun q => .int .i64 (dfF F i q))) ∧ Hid (Below w.heap.size w wr)) (fun s37 _ => n - (intOf s37).toNat)
      case atStart => exact ⟨0, Nat.zero_le _, rfl, HR1, HB⟩
      case round =>
        clear HR1 HB
        obtain ⟨wp, rfl⟩ : ∃ wp : World, wp = wr := ⟨_, rfl⟩
        obtain ⟨i, hi, rfl, HR, HB⟩ := hrel
        by_cases hin : i < n
        · go_wp2_with fail
          go_loopw [42] (fun s42 wr => ∃ y : Nat, y ≤ x ∧ s42 = .int .i64 (y : Nat) ∧ Hid (wr.rowIs b0 3 x (dgB F i y)) ∧ Hid (Below w.heap.size w wr)) (fun s42 _ => x - (intOf s42).toNat)
          case atStart => exact ⟨0, Nat.zero_le _, rfl, Lib.hid (HR.out.congr fun q _ => by unfold dgB; rw [if_neg (Nat.not_lt_zero _)]), HB⟩
          case round =>
            clear HR HB
            obtain ⟨wq, rfl⟩ : ∃ wq : World, wq = wr := ⟨_, rfl⟩
            obtain ⟨y, hy, rfl, HR, HB⟩ := hrel
            by_cases hym : y < x
            · have hbt := bit_D y (by omega) i (by omega)
              cases hbit : hasBit y i with
              | true =>
                rw [hbit, if_pos rfl] at hbt
                obtain ⟨hlo, hlb⟩ := xor_lo y (by omega) i (by omega) hbit
                have e1 := xor_D y (by omega) i (by omega)
                obtain ⟨e2, e3, _⟩ := w2_P i (by omega)
                have hc0 : wq.cell? ⟨b0, y, none⟩ = some (.int .i64 (dfF F i y)) := by rw [HR.out.cell (i := y) hym]; unfold dgB; rw [if_neg (by omega)]
                have hc1 : wq.cell? ⟨b0, y ^^^ 2 ^ i, none⟩ = some (.int .i64 (dfF F i (y ^^^ 2 ^ i))) := by
                  rw [HR.out.cell (i := y ^^^ 2 ^ i) (by omega)]
                  unfold dgB
                  rw [if_pos hlo, dfF, hlb, if_neg (by decide)]
                have hf0 := HR.out.frozen y
                have d1 := df_16 F i (by omega) y
                have d2 := df_16 F i (by omega) (y ^^^ 2 ^ i)
                obtain ⟨v1, hv1⟩ : ∃ v, v = dfF F i y := ⟨_, rfl⟩
                obtain ⟨v2, hv2⟩ : ∃ v, v = dfF F i (y ^^^ 2 ^ i) := ⟨_, rfl⟩
                have HBT := Lib.hid hbit
                rw [← hv1] at hc0 d1
                rw [← hv2] at hc1 d2
                have HV : Hid (v1 - v2 = dfF F i y - dfF F i (y ^^^ 2 ^ i)) := Lib.hid (by rw [hv1, hv2])
                obtain ⟨u, hu⟩ : ∃ u, u = y ^^^ 2 ^ i := ⟨_, rfl⟩
                rw [← hu] at e1 hc1 hlo
                have wsub : IntKind.i64.wrap (v1 - v2) = v1 - v2 := IntWalk.i64_in _ (by omega)
                clear hbit hlb hv1 hv2 hu
                go_wp2_with fail
                go_region
                have HR2 : Hid ((wq.setCell ⟨b0, y, none⟩ (.int .i64 (v1 - v2))).drew.rowIs b0 3 x (dgB F i (y + 1))) := Lib.hid ((HR.out.set y _).congr fun q _ => dgB_set HBT.out HV.out q)
                have HB2 : Hid (Below w.heap.size w (wq.setCell ⟨b0, y, none⟩ (.int .i64 (v1 - v2))).drew) := Lib.hid (HB.out.setCell hb0' _).drew
                go_wp2_with fail
                go_roundw
                case rel => exact ⟨y + 1, by omega, by go_num, HR2, HB2⟩
                case measure => simp [intOf]; omega
              | false =>
                rw [hbit, if_neg (by decide)] at hbt
                have HBT := Lib.hid hbit
                clear hbit
                go_wp2_with fail
                go_roundw
                case rel => exact ⟨y + 1, by omega, by go_num, Lib.hid (HR.out.congr fun q _ => dgB_skip HBT.out q), HB⟩
                case measure => simp [intOf]; omega
            · obtain rfl : y = x := by omega
              go_wp2_with fail
              go_roundw
              case rel => exact ⟨i + 1, by omega, by go_num, Lib.hid (HR.out.congr fun q hq => by unfold dgB; rw [if_pos hq]), HB⟩
              case measure => simp [intOf]; omega
        · obtain rfl : i = n := by omega
          go_wp2_with fail
          go_loop [12, 67] (fun s12 s67 => ∃ y : Nat, y ≤ x ∧ s67 = .int .i64 (y : Nat) ∧ s12 = .int .i64 (mxF (dgF i F) y : Nat)) (fun _ s67 => x - (intOf s67).toNat)
          case atStart => exact ⟨0, Nat.zero_le _, rfl, rfl⟩
          case round =>
            obtain ⟨y, hy, rfl, rfl⟩ := hrel
            by_cases hym : y < x
            · have hc0 : wp.cell? ⟨b0, y, none⟩ = some (.int .i64 (dfF F i y)) := HR.out.cell (i := y) hym
              have hms := mx_succd (dgF i F) y
              have hdg : dgF i F y = if dfF F i y = 0 then 0 else popc y := rfl
              have hmb : mxF (dgF i F) y ≤ 4 := mx_le fun q _ => by
                unfold dgF; split
                · omega
                · unfold popc; omega
              have hd16 := df_16 F i h4 y
              obtain ⟨v, hv⟩ : ∃ v, v = dfF F i y := ⟨_, rfl⟩
              rw [← hv] at hc0 hdg hd16
              obtain ⟨mo, hmo⟩ : ∃ mo, mo = mxF (dgF i F) y := ⟨_, rfl⟩
              rw [← hmo] at hms hmb ⊢
              by_cases hz : v = 0
              · rw [if_pos hz] at hdg
                rw [hdg, Nat.max_zero] at hms
                have HMS := Lib.hid hms
                subst hz
                clear hms hdg hmo hv
                go_wp2_with fail
                go_round
                case rel => exact ⟨y + 1, by omega, by go_num, by rw [HMS.out]⟩
                case measure => simp [intOf]; omega
              · rw [if_neg hz] at hdg
                rw [hdg] at hms
                have hvz : (v != 0) = true := by rw [bne_iff_ne]; exact hz
                have wu : IntKind.u64.wrap (y : Int) = (y : Int) := IntWalk.u64_in _ (by omega)
                have hon := ones_any y (by omega) wp
                have hc4 : popc y ≤ 4 := by unfold popc; omega
                obtain ⟨z, hzz⟩ : ∃ z, z = popc y := ⟨_, rfl⟩
                rw [← hzz] at hon hms hc4
                have HON := Lib.hid hon
                have HMS := Lib.hid hms
                clear hms hdg hmo hv hon hzz
                go_wp2_with fail
                refine HON.out.mono ?_
                rintro e w3 ⟨rfl, rfl⟩
                go_wp2_with fail
                go_round
                case rel => exact ⟨y + 1, by omega, by go_num, by rw [HMS.out]; congr 1; split <;> omega⟩
                case measure => simp [intOf]; omega
            · obtain rfl : y = x := by omega
              go_wp2_with fail
              go_ret2
              exact ⟨rfl, HB.out⟩
set_option maxRecDepth 100000 in
theorem Degree_bad (A : Option Addr) (n : Int) (m c : Nat) (w : World) (hm : m ≤ maxLen) (hv : tabE n m 0 ≠ 0) :
    Calls Try.prog 11 #[.int .i64 n, .slice A m c] w fun e w' => e = .returned (.tuple #[.int .i64 0, .int .i64 (tabE n m 0)]) ∧ w = w' := by
  have hw := askWrong_any n 0 A m c w hm
  obtain ⟨v, hvv⟩ : ∃ v, v = tabE n m 0 := ⟨_, rfl⟩
  rw [← hvv] at hw hv ⊢
  have q : (v != 0) = true := by rw [bne_iff_ne]; exact hv
  have HW := Lib.hid hw
  clear hw hvv hv
  go_enter Try.func11, Try.ntmps11
  go_wp2_with fail
  refine HW.out.mono ?_
  rintro e w2 ⟨rfl, rfl⟩
  go_wp2_with fail
  go_ret2
  exact ⟨rfl, rfl⟩
end Go.Proofs.Ythaabgknolahaaa
