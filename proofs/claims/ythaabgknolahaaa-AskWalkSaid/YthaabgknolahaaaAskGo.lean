/- What ask.Walk does with a tree of questions. Conditions: the questions read as told; the tree is one for the table. -/
import Derived.Test.YthaabgknolahaaaAskFns
import Derived.OwnWalk
namespace Go.Proofs.Ythaabgknolahaaa
open Go.ChangeShapes Go.WideShapes Go.ChangeAt Go.RowKit
set_option linter.unusedVariables false
set_option linter.unusedSimpArgs false
theorem bit_A : ∀ x : Nat, x < 16 → ∀ i : Nat, i < 4 → bits .and .i64 ((x : Int) / 2 ^ i) 1 = if hasBit x i = true then 1 else 0 := by decide +kernel
def akV (T : Nat → Qn) (q : Nat) : Value := if q % 3 = 0 then .int .i64 ((T (q / 3)).1 : Nat) else if q % 3 = 1 then .int .i64 (T (q / 3)).2.1 else .int .i64 (T (q / 3)).2.2
def WalkP (n : Nat) (F : Nat → Bool) (x d : Nat) (e : Ending) : Prop := ∃ k : Nat, e = .returned (.tuple #[.bool (F x), .int .i64 (k : Nat), .int .i64 0]) ∧ k ≤ d ∧ 1 ≤ k ∧ ∃ K, K < 2 ^ n ∧ smW F (2 ^ n) K x = true ∧ popc K = k
set_option maxRecDepth 100000 in
set_option maxHeartbeats 4000000 in
theorem walk_any (A : Option Addr) (j c n x d : Nat) (T : Nat → Qn) (F : Nat → Bool) (w : World) (h : Rd w A (j * 3) (akV T)) (hj : 1 ≤ j ∧ j ≤ 16) (h4 : n ≤ 4) (n1 : 1 ≤ n) (hx : x < 2 ^ n)
    (hV : ∀ q, q < j → (T q).1 < n ∧ -2 ≤ (T q).2.1 ∧ (T q).2.1 < (q : Int) ∧ -2 ≤ (T q).2.2 ∧ (T q).2.2 < (q : Int)) (hT : Tr n F T j ((j : Int) - 1) 0 0 d) :
    Calls Try.prog 13 #[.int .i64 (n : Nat), .slice A j c, .int .i64 (x : Nat)] w fun e w' => WalkP n F x d e ∧ Below w.heap.size w w' := by
  have hp := p16 h4
  obtain ⟨p0, p1, _, _⟩ := tpow_bd (N := n) h4
  have hw : IntKind.i64.wrap ((2 : Int) ^ n) = 2 ^ n := IntWalk.i64_in _ (by omega)
  have hw' : wrap64 ((2 : Int) ^ n) = 2 ^ n := IntWalk.wrap64_in _ (by omega)
  have hcast : ((2 ^ n : Nat) : Int) = (2 : Int) ^ n := by simp
  have hxp : ¬ (2 : Int) ^ n ≤ ((x : Nat) : Int) := by omega
  obtain ⟨b, o, rfl, hb, _⟩ := h.at_ (show 0 < j * 3 by omega)
  have hcl : ∀ X : World, Below w.heap.size w X → ∀ q, q < j → X.cell? ⟨b, o + q * 3, none⟩ = some (.int .i64 ((T q).1 : Nat)) ∧ X.cell? ⟨b, o + q * 3 + 1, none⟩ = some (.int .i64 (T q).2.1) ∧ X.cell? ⟨b, o + q * 3 + 2, none⟩ = some (.int .i64 (T q).2.2) := fun X hX q hq => by
    have hr := h.below hX
    have g : ∀ i, i < j * 3 → X.cell? ⟨b, o + i, none⟩ = some (akV T i) := fun i hi => by
      obtain ⟨b', o', e, _, hc⟩ := hr.at_ hi
      cases e; exact hc
    refine ⟨?_, ?_, ?_⟩
    · rw [g _ (by omega)]; unfold akV; rw [if_pos (by omega), show q * 3 / 3 = q by omega]
    · rw [Nat.add_assoc, g _ (by omega)]; unfold akV; rw [if_neg (by omega), if_pos (by omega), show (q * 3 + 1) / 3 = q by omega]
    · rw [Nat.add_assoc, g _ (by omega)]; unfold akV; rw [if_neg (by omega), if_neg (by omega), show (q * 3 + 2) / 3 = q by omega]
  have HCL := Lib.hid hcl
  have HV := Lib.hid hV
  have HT := Lib.hid hT
  clear h hcl hV hT hcast
  go_enter Try.func13, Try.ntmps13
  go_wp2_with fail
  go_loopw [27] (fun s27 wr => ∃ q : Nat, q ≤ j ∧ s27 = .int .i64 (q : Nat) ∧ Hid (Below w.heap.size w wr)) (fun s27 _ => j - (intOf s27).toNat)
  case atStart => exact ⟨0, Nat.zero_le _, rfl, Lib.hid (Below.refl _ _)⟩
  case round =>
    obtain ⟨wo, rfl⟩ : ∃ wo : World, wo = wr := ⟨_, rfl⟩
    obtain ⟨q, hq, rfl, HB⟩ := hrel
    by_cases hqj : q < j
    · obtain ⟨k0, k1, k2⟩ := HCL.out wo HB.out q hqj
      obtain ⟨v0, v1, v2, v3, v4⟩ := HV.out q hqj
      obtain ⟨t0, ht0⟩ : ∃ t, t = (T q).1 := ⟨_, rfl⟩
      obtain ⟨t1, ht1⟩ : ∃ t, t = (T q).2.1 := ⟨_, rfl⟩
      obtain ⟨t2, ht2⟩ : ∃ t, t = (T q).2.2 := ⟨_, rfl⟩
      rw [← ht0] at k0 v0
      rw [← ht1] at k1 v1 v2
      rw [← ht2] at k2 v3 v4
      have hbo : b < wo.heap.size := by have := HB.out.size; omega
      clear ht0 ht1 ht2
      have HBA : Hid (Below w.heap.size w (wo.alloc (.cells #[.int .i64 ((t0 : Nat) : Int), .int .i64 t1, .int .i64 t2] 49))) := Lib.hid (HB.out.alloc HB.out.size _)
      go_wp2_with fail
      all_goals
        go_roundw
        case rel => exact ⟨q + 1, by omega, by go_num, HBA⟩
        case measure => simp [intOf]; omega
    · obtain rfl : q = j := by omega
      go_wp2_with fail
      go_loopw [11, 12] (fun s11 s12 wr => ∃ (r : Int) (K y d' : Nat), s11 = .int .i64 r ∧ s12 = .int .i64 ((popc K : Nat) : Int) ∧ r < (q : Int) ∧ popc K + d' ≤ d ∧ popc K ≤ 4 ∧ (r < 0 → 1 ≤ popc K) ∧ Hid (Tr n F T q r K y d' ∧ K < 2 ^ n ∧ y < 2 ^ n ∧ (y ^^^ x) &&& K = 0) ∧ Hid (Below w.heap.size w wr)) (fun _ s12 _ => d + 1 - (intOf s12).toNat)
      case atStart => exact ⟨(q : Int) - 1, 0, 0, d, by go_num, rfl, by omega, by rw [show popc 0 = 0 from rfl]; omega, by decide, fun e => by omega, Lib.hid ⟨HT.out, by omega, by omega, Nat.and_zero _⟩, HB⟩
      case round =>
        clear HB
        obtain ⟨wi, rfl⟩ : ∃ wi : World, wi = wr := ⟨_, rfl⟩
        obtain ⟨r, K, y, d', rfl, rfl, hrq, hdd, hk4, hk1, HTR, HB⟩ := hrel
        by_cases hr0 : r < 0
        · have hre := HTR.out.1.end_ h4 hr0 hx HTR.out.2.2.2
          have HSM := Lib.hid hre.2
          have hk1' := hk1 hr0
          obtain ⟨z, hz⟩ : ∃ z, z = popc K := ⟨_, rfl⟩
          rw [← hz] at hk1' hdd ⊢
          have HZ := Lib.hid hz
          rcases hf : F x with _ | _
          · rw [hf, if_neg (by decide)] at hre
            obtain ⟨rfl, _⟩ := hre
            have HF := Lib.hid hf
            clear hf hk1 hz
            go_wp2_with fail
            go_ret3
            exact ⟨⟨z, by rw [HF.out]; rfl, by omega, hk1', K, HTR.out.2.1, HSM.out, HZ.out.symm⟩, HB.out⟩
          · rw [hf, if_pos rfl] at hre
            obtain ⟨rfl, _⟩ := hre
            have HF := Lib.hid hf
            clear hf hk1 hz
            go_wp2_with fail
            go_ret3
            exact ⟨⟨z, by rw [HF.out]; rfl, by omega, hk1', K, HTR.out.2.1, HSM.out, HZ.out.symm⟩, HB.out⟩
        · obtain ⟨u, rfl⟩ := Int.eq_ofNat_of_zero_le (show 0 ≤ r by omega)
          obtain ⟨s1, s2, K', y', d'', s3, s4, s5, s6, s7, s8⟩ := Tr.step h4 HTR.out.1 HTR.out.2.1 HTR.out.2.2.1 hx HTR.out.2.2.2
          obtain ⟨k0, k1, k2⟩ := HCL.out wi HB.out u s1
          obtain ⟨v0, v1, v2, v3, v4⟩ := HV.out u s1
          obtain ⟨t0, ht0⟩ : ∃ t, t = (T u).1 := ⟨_, rfl⟩
          obtain ⟨t1, ht1⟩ : ∃ t, t = (T u).2.1 := ⟨_, rfl⟩
          obtain ⟨t2, ht2⟩ : ∃ t, t = (T u).2.2 := ⟨_, rfl⟩
          rw [← ht0] at k0 v0 s3
          rw [← ht1] at k1 v1 v2 s3
          rw [← ht2] at k2 v3 v4 s3
          have hbo : b < wi.heap.size := by have := HB.out.size; omega
          have hbt := bit_A x (by omega) t0 (by omega)
          have HBA : Hid (Below w.heap.size w (wi.alloc (.cells #[.int .i64 ((t0 : Nat) : Int), .int .i64 t1, .int .i64 t2] 49))) := Lib.hid (HB.out.alloc HB.out.size _)
          have hpk4 := popc_le n (by omega) K' (by omega) s4
          obtain ⟨z, hz⟩ : ∃ z, z = popc K := ⟨_, rfl⟩
          rw [← hz] at hdd hk4 s7 ⊢
          cases hbit : hasBit x t0 with
          | true =>
            rw [hbit, if_pos rfl] at s3 hbt
            have HNX : Hid (Tr n F T q t2 K' y' d'' ∧ K' < 2 ^ n ∧ y' < 2 ^ n ∧ (y' ^^^ x) &&& K' = 0) := Lib.hid ⟨s3, s4, s5, s6⟩
            clear ht0 ht1 ht2 hbit s3 s4 s5 s6 hk1 hz
            go_wp2_with fail
            go_roundw
            case rel => exact ⟨t2, K', y', d'', rfl, by rw [s7]; go_num, by omega, by omega, by omega, fun _ => by omega, HNX, HBA⟩
            case measure => simp [intOf]; omega
          | false =>
            rw [hbit, if_neg (by decide)] at s3 hbt
            have HNX : Hid (Tr n F T q t1 K' y' d'' ∧ K' < 2 ^ n ∧ y' < 2 ^ n ∧ (y' ^^^ x) &&& K' = 0) := Lib.hid ⟨s3, s4, s5, s6⟩
            clear ht0 ht1 ht2 hbit s3 s4 s5 s6 hk1 hz
            go_wp2_with fail
            go_roundw
            case rel => exact ⟨t1, K', y', d'', rfl, by rw [s7]; go_num, by omega, by omega, by omega, fun _ => by omega, HNX, HBA⟩
            case measure => simp [intOf]; omega
end Go.Proofs.Ythaabgknolahaaa
