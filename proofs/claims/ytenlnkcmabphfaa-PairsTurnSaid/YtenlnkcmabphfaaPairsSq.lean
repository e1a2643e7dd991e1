/- What the reference says of a square. Condition: the rows read as told. -/
import Derived.Test.YtenlnkcmabphfaaPairsFns
namespace Go.Proofs.Ytenlnkcmabphfaa
open Go.ChangeShapes Go.WideShapes Go.ChangeAt Go.RowKit
set_option linter.unusedVariables false
set_option linter.unusedSimpArgs false
theorem inB_outP {x : Int} : inB (-20) x 20 = !outP x := by
  by_cases h : -20 ≤ x ∧ x ≤ 20
  · rw [inB_yes h.1 h.2, show outP x = false from decide_eq_false (by omega)]; rfl
  · rw [inB_no h, show outP x = true from decide_eq_true (by omega)]; rfl
set_option maxRecDepth 100000 in
set_option maxHeartbeats 2000000 in
theorem squareP_any (A : Option Addr) (n c : Nat) (R : Nat → SI) (w : World) (h : GrP w A n R) (hn : n ≤ maxLen) :
    Calls Try.prog 19 #[.slice A n c] w fun e w' => e = .returned (.int .i64 (pwE n R)) ∧ w = w' := by
  have H := Lib.hid h
  have hnx := hn
  unfold maxLen at hnx
  clear h hn
  by_cases hw : n < 1 ∨ 6 < n
  · have HE : Hid (pwE n R = 1) := Lib.hid (if_pos hw)
    have hin : inB 1 (n : Int) 6 = false := inB_no (by omega)
    have HIN := Lib.hid hin
    clear hin
    go_enter Try.func19, Try.ntmps19
    go_wp2_with fail
    refine (within_any 1 n 6 w).mono ?_
    rintro e w' ⟨rfl, rfl⟩
    rw [HIN.out]
    go_wp2_with fail
    go_ret
    exact ⟨ret_int HE.out.symm, rfl⟩
  have n1 : 1 ≤ n := by omega
  have n6 : n ≤ 6 := by omega
  have HE : Hid (pwE n R = if anyB (lnP n R) n = true then 3 else if anyB (fun i => rowP (R i)) n = true then 4 else 0) := Lib.hid (if_neg hw)
  have hin : inB 1 (n : Int) 6 = true := inB_yes (by omega) (by omega)
  have HIN := Lib.hid hin
  clear hin hw
  go_enter Try.func19, Try.ntmps19
  go_wp2_with fail
  refine (within_any 1 n 6 w).mono ?_
  rintro e w' ⟨rfl, rfl⟩
  rw [HIN.out]
  go_wp2_with fail
  go_loop [15] (fun s15 => ∃ i : Nat, i ≤ n ∧ s15 = .int .i64 (i : Nat) ∧ Hid (∀ j, j < i → lnP n R j = false)) (fun s15 => n - (intOf s15).toNat)
  case atStart => exact ⟨0, Nat.zero_le _, rfl, Lib.hid (fun _ h => absurd h (Nat.not_lt_zero _))⟩
  case round =>
    obtain ⟨i, hi, rfl, HALL⟩ := hrel
    by_cases hlt : i < n
    · obtain ⟨b, off, rfl, hb, hc⟩ := H.out.1.at_ hlt
      obtain ⟨y, hy⟩ : ∃ y, y = R i := ⟨_, rfl⟩
      rw [← hy] at hc
      have hyl : y.n ≤ 9223372036854775807 := by have h1 := (H.out.2 i hlt).2.2; rw [← hy] at h1; unfold maxLen at h1; omega
      have HY := Lib.hid hy
      obtain ⟨ya, yn, yc, yf⟩ := y
      have hc' : w.cell? ⟨b, off + i, none⟩ = some (.slice ya yn yc) := hc
      clear hc hy
      by_cases h4 : yn = n
      · have q2 : ((yn : Int) != (n : Int)) = false := by rw [h4]; simp
        have HQ := Lib.hid q2
        have H4 := Lib.hid h4
        clear h4
        go_wp2_with fail
        go_round
        case rel => exact ⟨i + 1, by omega, by go_num, Lib.hid (fun j hj => by
          by_cases e : j = i
          · subst e; unfold lnP; rw [← HY.out]; exact HQ.out
          · exact HALL.out j (by omega))⟩
        case measure => simp [intOf]; omega
      · have q2 : ((yn : Int) != (n : Int)) = true := by rw [bne_iff_ne]; omega
        have HE1 : Hid (pwE n R = 3) := Lib.hid (by rw [HE.out, if_pos (anyB_yes hlt (by unfold lnP; rw [← HY.out]; exact q2))])
        go_wp2_with fail
        go_ret
        exact ⟨ret_int HE1.out.symm, rfl⟩
    · obtain rfl : i = n := by omega
      have HE1 : Hid (pwE i R = if anyB (fun k => rowP (R k)) i = true then 4 else 0) := Lib.hid (by rw [HE.out, anyB_no HALL.out, if_neg (by decide)])
      clear HE HALL
      go_wp2_with fail
      go_loop [27] (fun s27 => ∃ k : Nat, k ≤ i ∧ s27 = .int .i64 (k : Nat) ∧ Hid (∀ j, j < k → rowP (R j) = false)) (fun s27 => i - (intOf s27).toNat)
      case atStart => exact ⟨0, Nat.zero_le _, rfl, Lib.hid (fun _ h => absurd h (Nat.not_lt_zero _))⟩
      case round =>
        obtain ⟨k, hk, rfl, HALL⟩ := hrel
        by_cases hlt : k < i
        · obtain ⟨b, off, rfl, hb, hc⟩ := H.out.1.at_ hlt
          have hg := H.out.2 k hlt
          obtain ⟨y, hy⟩ : ∃ y, y = R k := ⟨_, rfl⟩
          rw [← hy] at hc hg
          have HY := Lib.hid hy
          obtain ⟨ya, yn, yc, yf⟩ := y
          have hc' : w.cell? ⟨b, off + k, none⟩ = some (.slice ya yn yc) := hc
          have hyl : yn ≤ 9223372036854775807 := by have h1 := hg.2.2; unfold maxLen at h1; simp only at h1; omega
          have HRY : Hid (Rd w ya yn (fun i => .int .i64 (yf i))) := Lib.hid hg.1
          clear hc hy hg
          go_wp2_with fail
          go_loop [33] (fun s33 => ∃ q : Nat, q ≤ yn ∧ s33 = .int .i64 (q : Nat) ∧ Hid (∀ j, j < q → outP (yf j) = false)) (fun s33 => yn - (intOf s33).toNat)
          case atStart => exact ⟨0, Nat.zero_le _, rfl, Lib.hid (fun _ h => absurd h (Nat.not_lt_zero _))⟩
          case round =>
            obtain ⟨q, hq, rfl, HA2⟩ := hrel
            by_cases hlt2 : q < yn
            · obtain ⟨b2, o2, rfl, _, hcx⟩ := HRY.out.at_ hlt2
              have hio := inB_outP (x := yf q)
              obtain ⟨x, hx⟩ : ∃ x, x = yf q := ⟨_, rfl⟩
              rw [← hx] at hcx hio
              have HX := Lib.hid hx
              obtain ⟨r, hr⟩ : ∃ r, r = outP x := ⟨_, rfl⟩
              rw [← hr] at hio
              have HR := Lib.hid hr
              have HIO := Lib.hid hio
              clear hx hr hio
              go_wp2_with fail
              refine (within_any (-20) x 20 w).mono ?_
              rintro e w' ⟨rfl, rfl⟩
              rw [HIO.out]
              cases r with
              | true =>
                have HE2 : Hid (pwE i R = 4) := Lib.hid (by rw [HE1.out, if_pos (anyB_yes hlt (show rowP (R k) = true by rw [← HY.out]; exact anyB_yes hlt2 (by show outP (yf q) = true; rw [← HX.out]; exact HR.out.symm)))])
                go_wp2_with fail
                go_ret
                exact ⟨ret_int HE2.out.symm, rfl⟩
              | false =>
                go_wp2_with fail
                go_round
                case rel => exact ⟨q + 1, by omega, by go_num, Lib.hid (fun j hj => by
                  by_cases e : j = q
                  · subst e; rw [← HX.out]; exact HR.out.symm
                  · exact HA2.out j (by omega))⟩
                case measure => simp [intOf]; omega
            · obtain rfl : q = yn := by omega
              go_wp2_with fail
              go_round
              case rel => exact ⟨k + 1, by omega, by go_num, Lib.hid (fun j hj => by
                by_cases e : j = k
                · subst e; rw [← HY.out]; exact anyB_no HA2.out
                · exact HALL.out j (by omega))⟩
              case measure => simp [intOf]; omega
        · obtain rfl : k = i := by omega
          have HE2 : Hid (pwE k R = 0) := Lib.hid (by rw [HE1.out, anyB_no HALL.out, if_neg (by decide)])
          go_wp2_with fail
          go_ret
          exact ⟨ret_int HE2.out.symm, rfl⟩
set_option maxRecDepth 100000 in
theorem squaredP_any (A : Option Addr) (n c : Nat) (R : Nat → SI) (w : World) (h : GrP w A n R) (hn : n ≤ maxLen) :
    Calls Try.prog 8 #[.slice A n c] w fun e w' => e = .returned (.bool (pwE n R == 0)) ∧ w = w' := by
  have H := Lib.hid h
  have HN := Lib.hid hn
  clear h hn
  go_enter Try.func8, Try.ntmps8
  go_wp2_with fail
  refine (squareP_any A n c R w H.out HN.out).mono ?_
  rintro e w' ⟨rfl, rfl⟩
  go_wp2_with fail
  go_ret
  exact ⟨rfl, rfl⟩
end Go.Proofs.Ytenlnkcmabphfaa
