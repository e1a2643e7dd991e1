/- The references' TalkCheck and the statements' talked. Condition: the rows read as told. -/
import Derived.Test.YtnfibchffbdmpaaTalkFns
namespace Go.Proofs.Ytnfibchffbdmpaa
open Go.ChangeShapes Go.WideShapes Go.ChangeAt Go.RowKit
set_option linter.unusedVariables false
set_option linter.unusedSimpArgs false
set_option maxRecDepth 100000 in
set_option maxHeartbeats 2000000 in
theorem talkCheck_any (A : Option Addr) (n c : Nat) (R : Nat → SB) (w : World) (h : GrT w A n R) (hn : n ≤ maxLen) :
    Calls Try.prog 20 #[.slice A n c] w fun e w' => e = .returned (.int .i64 (tkE n R)) ∧ w = w' := by
  have hnx := hn
  unfold maxLen at hnx
  by_cases h1 : 1 ≤ n ∧ n ≤ 4
  · have HW := Lib.hid (within_any 1 (n : Int) 4 w)
    rw [inB_yes (by omega) (by omega)] at HW
    obtain ⟨b, o, rfl, hb, hc0⟩ := h.1.at_ (show 0 < n by omega)
    have hR0 : (R 0).val = .slice (R 0).A (R 0).n (R 0).c := rfl
    have hg0 := h.2 0 (by omega)
    obtain ⟨K, hK⟩ : ∃ K, K = (R 0).A := ⟨_, rfl⟩
    obtain ⟨k, hk⟩ : ∃ k, k = (R 0).n := ⟨_, rfl⟩
    obtain ⟨kc, hkc⟩ : ∃ k, k = (R 0).c := ⟨_, rfl⟩
    rw [hR0, ← hK, ← hk, ← hkc] at hc0
    have hc0' : w.cell? ⟨b, o, none⟩ = some (.slice K k kc) := hc0
    have hkm : k ≤ maxLen := by rw [hk]; exact Nat.le_trans hg0.2.1 hg0.2.2
    unfold maxLen at hkm
    have HK := Lib.hid hk
    have H := Lib.hid h
    clear hR0 hg0 hK hkc hc0 h hn
    by_cases h2 : 1 ≤ k ∧ k ≤ 4
    · have HW2 := Lib.hid (within_any 1 (k : Int) 4 w)
      rw [inB_yes (by omega) (by omega)] at HW2
      have HT : Hid (tkE n R = if anyB (lnT R) n = true then 3 else 0) := Lib.hid (if_neg (by rw [← hk]; omega))
      clear hk
      go_enter Try.func20, Try.ntmps20
      go_wp2_with fail
      refine HW.out.mono ?_
      rintro e w2 ⟨rfl, rfl⟩
      go_wp2_with fail
      refine HW2.out.mono ?_
      rintro e w2 ⟨rfl, rfl⟩
      go_wp2_with fail
      go_loop [19] (fun s19 => ∃ i : Nat, i ≤ n ∧ s19 = .int .i64 (i : Nat) ∧ Hid (∀ j, j < i → lnT R j = false)) (fun s19 => n - (intOf s19).toNat)
      case atStart => exact ⟨0, Nat.zero_le _, rfl, Lib.hid (fun j hj => absurd hj (Nat.not_lt_zero _))⟩
      case round =>
        obtain ⟨i, hi, rfl, HALL⟩ := hrel
        by_cases hin : i < n
        · have hci : w.cell? ⟨b, o + i, none⟩ = some (.slice (R i).A (R i).n (R i).c) := by
            obtain ⟨b', o', e, _, hc⟩ := H.out.1.at_ hin
            cases e; exact hc
          have hgi := H.out.2 i hin
          have hmi : (R i).n ≤ maxLen := Nat.le_trans hgi.2.1 hgi.2.2
          obtain ⟨m, hm⟩ : ∃ m, m = (R i).n := ⟨_, rfl⟩
          obtain ⟨Ki, hKi⟩ : ∃ K, K = (R i).A := ⟨_, rfl⟩
          obtain ⟨ki, hki⟩ : ∃ k, k = (R i).c := ⟨_, rfl⟩
          have hln : lnT R i = ((m : Int) != (k : Int)) := by unfold lnT; rw [hm, HK.out]
          rw [← hm, ← hKi, ← hki] at hci
          rw [← hm] at hmi
          unfold maxLen at hmi
          have HLN := Lib.hid hln
          clear hgi hm hKi hki hln
          cases hq : ((m : Int) != (k : Int)) with
          | false =>
            have HQ := Lib.hid hq
            go_wp2_with fail
            go_round
            case rel => exact ⟨i + 1, by omega, by go_num, Lib.hid (fun j hj => by
              by_cases e : j = i
              · rw [e, HLN.out]; exact HQ.out
              · exact HALL.out j (by omega))⟩
            case measure => simp [intOf]; omega
          | true =>
            have HE : Hid (tkE n R = 3) := Lib.hid (by rw [HT.out, if_pos (anyB_yes hin (by rw [HLN.out]; exact hq))])
            go_wp2_with fail
            go_ret
            exact ⟨ret_int HE.out.symm, rfl⟩
        · obtain rfl : i = n := by omega
          have HE : Hid (tkE i R = 0) := Lib.hid (by rw [HT.out, anyB_no HALL.out]; rfl)
          go_wp2_with fail
          go_ret
          exact ⟨ret_int HE.out.symm, rfl⟩
    · have HW2 := Lib.hid (within_any 1 (k : Int) 4 w)
      rw [inB_no (by omega)] at HW2
      have HE : Hid (tkE n R = 1) := Lib.hid (if_pos (by rw [← hk]; omega))
      clear hk
      go_enter Try.func20, Try.ntmps20
      go_wp2_with fail
      refine HW.out.mono ?_
      rintro e w2 ⟨rfl, rfl⟩
      go_wp2_with fail
      refine HW2.out.mono ?_
      rintro e w2 ⟨rfl, rfl⟩
      go_wp2_with fail
      go_ret
      exact ⟨ret_int HE.out.symm, rfl⟩
  · have HW := Lib.hid (within_any 1 (n : Int) 4 w)
    rw [inB_no (by omega)] at HW
    have HE : Hid (tkE n R = 1) := Lib.hid (if_pos (by omega))
    clear h hn
    go_enter Try.func20, Try.ntmps20
    go_wp2_with fail
    refine HW.out.mono ?_
    rintro e w2 ⟨rfl, rfl⟩
    go_wp2_with fail
    go_ret
    exact ⟨ret_int HE.out.symm, rfl⟩
def zeroT (x : Int) : Bool := x == 0
set_option maxRecDepth 100000 in
theorem talked_any (A : Option Addr) (n c : Nat) (R : Nat → SB) (w : World) (h : GrT w A n R) (hn : n ≤ maxLen) :
    Calls Try.prog 9 #[.slice A n c] w fun e w' => e = .returned (.bool (zeroT (tkE n R))) ∧ w = w' := by
  have HC := Lib.hid (talkCheck_any A n c R w h hn)
  clear h hn
  go_enter Try.func9, Try.ntmps9
  go_wp2_with fail
  refine HC.out.mono ?_
  rintro e w2 ⟨rfl, rfl⟩
  go_wp2_with fail
  go_ret
  exact ⟨rfl, rfl⟩
end Go.Proofs.Ytnfibchffbdmpaa
