/- What talk.all computes: has a part one value alone? Conditions: the rows read as told, all of one length; the words are below 16. -/
import Derived.Test.YtnfibchffbdmpaaTalkFns
import Derived.BigQuiet
namespace Go.Proofs.Ytnfibchffbdmpaa
open Go.ChangeShapes Go.WideShapes Go.ChangeAt Go.RowKit
set_option linter.unusedVariables false
set_option linter.unusedSimpArgs false
def hbT (k i : Nat) : Bool := k / 2 ^ i % 2 == 1
theorem bit_T : ∀ x : Nat, x < 16 → ∀ i : Nat, i < 4 → bits .and .u64 ((x : Int) / 2 ^ i) 1 = if hbT x i = true then 1 else 0 := by decide +kernel
theorem anyB_succ (p : Nat → Bool) (k : Nat) : anyB p (k + 1) = (anyB p k || p k) := by
  cases h : anyB p k with
  | true =>
    obtain ⟨i, hi, hp⟩ := decide_eq_true_iff.1 h
    exact anyB_yes (k := i) (by omega) hp
  | false =>
    cases hk : p k with
    | true => exact anyB_yes (k := k) (by omega) hk
    | false =>
      refine anyB_no fun i hi => ?_
      by_cases e : i = k
      · rw [e]; exact hk
      · cases hp : p i with
        | false => rfl
        | true => rw [anyB_yes (k := i) (p := p) (by omega) hp] at h; cases h
/-- is value v in the row's part? -/
def rwT (R : Nat → SB) (r c : Nat) (v : Bool) (i j : Nat) : Bool := hbT r i && hbT c j && ((R i).f j == v)
def inT (R : Nat → SB) (m r c : Nat) (v : Bool) (i : Nat) : Bool := anyB (fun i => anyB (rwT R r c v i) m) i
def alT (R : Nat → SB) (n m r c : Nat) : Bool := !inT R m r c false n || !inT R m r c true n
theorem anyB_zero (p : Nat → Bool) : anyB p 0 = false := anyB_no fun i hi => absurd hi (Nat.not_lt_zero _)
set_option maxRecDepth 100000 in
set_option maxHeartbeats 4000000 in
theorem allT_any (A : Option Addr) (n cc m r c : Nat) (R : Nat → SB) (w : World) (h : GrT w A n R) (hn : n ≤ 4) (hm : m ≤ 4) (hR : ∀ i, i < n → (R i).n = m) (hr : r < 16) (hc : c < 16) :
    Calls Try.prog 29 #[.slice A n cc, .agg #[.int .u64 (r : Nat), .int .u64 (c : Nat)]] w fun e w' => e = .returned (.bool (alT R n m r c)) ∧ Below w.heap.size w w' := by
  have H := Lib.hid h
  have HR := Lib.hid hR
  clear h hR
  obtain ⟨W1, hW1⟩ : ∃ W, W = w.alloc (.cells #[.int .u64 (r : Nat), .int .u64 (c : Nat)] 43) := ⟨_, rfl⟩
  have hb1 : Below w.heap.size w W1 := by rw [hW1]; exact (Below.refl _ _).alloc (Nat.le_refl _) _
  have hrow : W1.rowIs w.heap.size 43 2 (fun q => if q = 0 then .int .u64 (r : Nat) else .int .u64 (c : Nat)) := by
    rw [hW1]
    exact World.rowIs_alloc w #[.int .u64 (r : Nat), .int .u64 (c : Nat)] 43 _ fun i hi => by
      have : i < 2 := hi
      match i, this with
      | 0, _ => rfl
      | 1, _ => rfl
  have p0 : W1.cell? ⟨w.heap.size, 0, none⟩ = some (.int .u64 (r : Nat)) := hrow.cell (i := 0) (by omega)
  have p1 : W1.cell? ⟨w.heap.size, 1, none⟩ = some (.int .u64 (c : Nat)) := hrow.cell (i := 1) (by omega)
  have HB1 := Lib.hid hb1
  have HW1 := Lib.hid hW1
  clear hb1 hW1 hrow
  go_enter Try.func29, Try.ntmps29
  go_wp2_with fail
  rw [← HW1.out]
  go_loop [5, 6, 13] (fun s5 s6 s13 => ∃ i : Nat, i ≤ n ∧ s13 = .int .i64 (i : Nat) ∧ s5 = .bool (inT R m r c false i) ∧ s6 = .bool (inT R m r c true i)) (fun _ _ s13 => n - (intOf s13).toNat)
  case atStart => exact ⟨0, Nat.zero_le _, rfl, by unfold inT; rw [anyB_zero], by unfold inT; rw [anyB_zero]⟩
  case round =>
    obtain ⟨i, hi, rfl, rfl, rfl⟩ := hrel
    by_cases hin : i < n
    · obtain ⟨b, o, rfl, hb, _⟩ := H.out.1.at_ (show 0 < n by omega)
      have hci : W1.cell? ⟨b, o + i, none⟩ = some (.slice (R i).A (R i).n (R i).c) := by
        obtain ⟨b', o', e, _, hc⟩ := (H.out.below HB1.out).1.at_ hin
        cases e; exact hc
      rw [HR.out i hin] at hci
      have hgi := ((H.out.below HB1.out).2 i hin).1
      rw [HR.out i hin] at hgi
      have e1 := bit_T r hr i (by omega)
      obtain ⟨n0, hn0⟩ : ∃ x, x = inT R m r c false i := ⟨_, rfl⟩
      obtain ⟨y0, hy0⟩ : ∃ x, x = inT R m r c true i := ⟨_, rfl⟩
      have hn1 : inT R m r c false (i + 1) = (n0 || anyB (rwT R r c false i) m) := by rw [hn0]; exact anyB_succ _ _
      have hy1 : inT R m r c true (i + 1) = (y0 || anyB (rwT R r c true i) m) := by rw [hy0]; exact anyB_succ _ _
      rw [← hn0, ← hy0]
      obtain ⟨Ki, hKi⟩ : ∃ K, K = (R i).A := ⟨_, rfl⟩
      obtain ⟨ki, hki⟩ : ∃ k, k = (R i).c := ⟨_, rfl⟩
      obtain ⟨f, hf⟩ : ∃ f, f = (R i).f := ⟨_, rfl⟩
      rw [← hKi] at hci hgi
      rw [← hki] at hci
      rw [← hf] at hgi
      have hrw : ∀ v j, rwT R r c v i j = (hbT r i && hbT c j && (f j == v)) := fun v j => by rw [hf]; rfl
      have HN1 := Lib.hid hn1
      have HY1 := Lib.hid hy1
      have HRW := Lib.hid hrw
      have HG := Lib.hid hgi
      clear hn0 hy0 hn1 hy1 hKi hki hf hrw hgi
      go_wp2_with fail
      go_loop [5, 6, 20] (fun s5 s6 s20 => ∃ j : Nat, j ≤ m ∧ s20 = .int .i64 (j : Nat) ∧ s5 = .bool (n0 || anyB (rwT R r c false i) j) ∧ s6 = .bool (y0 || anyB (rwT R r c true i) j)) (fun _ _ s20 => m - (intOf s20).toNat)
      case atStart => exact ⟨0, Nat.zero_le _, rfl, by rw [anyB_zero, Bool.or_false], by rw [anyB_zero, Bool.or_false]⟩
      case round =>
        obtain ⟨j, hj, rfl, rfl, rfl⟩ := hrel
        by_cases hjm : j < m
        · obtain ⟨b2, o2, rfl, hb2, hcj⟩ := HG.out.at_ hjm
          have e2 := bit_T c hc j (by omega)
          have a1 := anyB_succ (rwT R r c false i) j
          have a2 := anyB_succ (rwT R r c true i) j
          rw [HRW.out] at a1 a2
          obtain ⟨N0, hN0⟩ : ∃ x, x = (n0 || anyB (rwT R r c false i) j) := ⟨_, rfl⟩
          obtain ⟨Y0, hY0⟩ : ∃ x, x = (y0 || anyB (rwT R r c true i) j) := ⟨_, rfl⟩
          have HA1 : Hid ((n0 || anyB (rwT R r c false i) (j + 1)) = (N0 || (hbT r i && hbT c j && (f j == false)))) := Lib.hid (by rw [a1, hN0, Bool.or_assoc])
          have HA2 : Hid ((y0 || anyB (rwT R r c true i) (j + 1)) = (Y0 || (hbT r i && hbT c j && (f j == true)))) := Lib.hid (by rw [a2, hY0, Bool.or_assoc])
          rw [← hN0, ← hY0]
          obtain ⟨bv, hbv⟩ : ∃ x, x = f j := ⟨_, rfl⟩
          rw [← hbv] at hcj HA1 HA2
          clear a1 a2 hN0 hY0 hbv
          cases hb1 : hbT r i with
          | false =>
            rw [hb1, if_neg (by decide)] at e1
            rw [hb1] at HA1 HA2
            clear hb1
            go_wp2_with fail
            go_round
            case rel => exact ⟨j + 1, by omega, by go_num, by rw [HA1.out]; simp, by rw [HA2.out]; simp⟩
            case measure => simp [intOf]; omega
          | true =>
            rw [hb1, if_pos rfl] at e1
            rw [hb1] at HA1 HA2
            cases hb2' : hbT c j with
            | false =>
              rw [hb2', if_neg (by decide)] at e2
              rw [hb2'] at HA1 HA2
              clear hb1 hb2'
              go_wp2_with fail
              go_round
              case rel => exact ⟨j + 1, by omega, by go_num, by rw [HA1.out]; simp, by rw [HA2.out]; simp⟩
              case measure => simp [intOf]; omega
            | true =>
              rw [hb2', if_pos rfl] at e2
              rw [hb2'] at HA1 HA2
              clear hb1 hb2'
              cases bv <;> cases N0 <;> cases Y0
              all_goals
                go_wp2_with fail
                go_round
                case rel => exact ⟨j + 1, by omega, by go_num, by rw [HA1.out]; rfl, by rw [HA2.out]; rfl⟩
                case measure => simp [intOf]; omega
        · obtain rfl : j = m := by omega
          go_wp2_with fail
          go_round
          case rel => exact ⟨i + 1, by omega, by go_num, by rw [HN1.out], by rw [HY1.out]⟩
          case measure => simp [intOf]; omega
    · obtain rfl : i = n := by omega
      obtain ⟨n0, hn0⟩ : ∃ x, x = inT R m r c false i := ⟨_, rfl⟩
      obtain ⟨y0, hy0⟩ : ∃ x, x = inT R m r c true i := ⟨_, rfl⟩
      have HAL : Hid (alT R i m r c = (!n0 || !y0)) := Lib.hid (by rw [hn0, hy0]; rfl)
      rw [← hn0, ← hy0]
      clear hn0 hy0
      cases n0 <;> cases y0
      all_goals
        go_wp2_with fail
        go_ret
        exact ⟨ret_bool (by rw [HAL.out]; rfl), HB1.out⟩
end Go.Proofs.Ytnfibchffbdmpaa
