/- What cell.Many computes. -/
import Derived.Test.YtnagdnbdpknniaaCellBit
import Derived.Test.YtnagdnbdpknniaaCellMath
import Derived.WalkSpells
import Derived.WalkLawsBesides
import Derived.BigQuiet
import Derived.Deep.QuietTactic
namespace Go.Proofs.Ytnagdnbdpknniaa
open CellM Go.ChangeShapes Go.WideShapes Go.ChangeAt Go.RowKit
set_option linter.unusedVariables false
def mI (F : Nat → Int) : Nat → Value := fun i => .int .i64 (F i)
theorem many_ok (r : Int) (A : Option Addr) (n c : Nat) (f : Nat → Bool) (w : World) (h : Rd w A n (fun i => .bool (f i))) (hn : n ≤ 12) (r0 : 0 ≤ r) (r1 : r ≤ 255) :
    Calls Try.prog 10 #[.int .i64 r, .slice A n c] w fun e w' => e = .returned (.tuple #[.int .i64 (many r f n), .int .i64 0]) ∧ Below w.heap.size w w' := by
  have hr := inB_yes r0 r1
  go_enter Try.func10, Try.ntmps10
  go_wp2_with (go_at_call 14; refine (wrong_any _ _).mono ?_; rintro e w' ⟨rfl, rfl⟩)
  go_loopw [22] (fun i wr => ∃ k : Nat, k ≤ n ∧ i = .int .i64 k ∧ wr.rowIs w.heap.size 37 4 (mI (C r f k)) ∧ Below w.heap.size w wr) (fun i _ => n - (intOf i).toNat)
  case atStart => exact ⟨0, Nat.zero_le _, rfl, row4 _ _ _ _ _ _ _ rfl rfl rfl rfl, (Below.refl _ _).alloc (Nat.le_refl _) _⟩
  case round =>
    obtain ⟨wo, rfl⟩ : ∃ wo : World, wo = wr := ⟨_, rfl⟩
    obtain ⟨k, hk, rfl, hrow, hbel⟩ := hrel
    have q0 := hrow.cell (i := 0) (by omega)
    have q1 := hrow.cell (i := 1) (by omega)
    have q2 := hrow.cell (i := 2) (by omega)
    have q3 := hrow.cell (i := 3) (by omega)
    simp only [mI] at q0 q1 q2 q3
    by_cases hlt : k < n
    · obtain ⟨b, off, rfl, hb, hc⟩ := h.at_ hlt
      have hc' := (hbel.cell (p := ⟨b, off + k, none⟩) hb).trans hc
      have H := Lib.hid h
      clear h hc
      have hsz := hrow.lt
      go_wp2
      go_loopw [27] (fun i w2 => ∃ t : Nat, t ≤ 4 ∧ i = .int .i64 t ∧ w2.rowIs w.heap.size 37 4 (mI (C r f k)) ∧ w2.rowIs wo.heap.size 37 4 (mI (N r (f k) (C r f k) (2 * t))) ∧ Below w.heap.size w w2) (fun i _ => 4 - (intOf i).toNat)
      case atStart => exact ⟨0, Nat.zero_le _, rfl, hrow.alloc _, row4 _ _ _ _ _ _ _ (by simp [mI, N_zero]) (by simp [mI, N_zero]) (by simp [mI, N_zero]) (by simp [mI, N_zero]), hbel.alloc (by omega) _⟩
      case round =>
        obtain ⟨w1, rfl⟩ : ∃ w1 : World, w1 = wr := ⟨_, rfl⟩
        obtain ⟨t, ht, rfl, hrow1, hrow2, hbel1⟩ := hrel
        by_cases hlt4 : t < 4
        · have ix : ∀ W : World, (Instr.index 37 (.agg #[.int .i64 (C r f k 0), .int .i64 (C r f k 1), .int .i64 (C r f k 2), .int .i64 (C r f k 3)]) (.int .i64 (t : Int))).run Try.prog W = .ok (.int .i64 (C r f k t)) W := fun W => by
            match t, hlt4 with
            | 0, _ => rfl
            | 1, _ => rfl
            | 2, _ => rfl
            | 3, _ => rfl
          go_wp2
          go_loopw [31] (fun i w3 => ∃ u : Nat, u ≤ 2 ∧ i = .int .i64 u ∧ w3.rowIs w.heap.size 37 4 (mI (C r f k)) ∧ w3.rowIs wo.heap.size 37 4 (mI (N r (f k) (C r f k) (2 * t + u))) ∧ Below w.heap.size w w3) (fun i _ => 2 - (intOf i).toNat)
          case atStart => exact ⟨0, Nat.zero_le _, rfl, hrow1, hrow2, hbel1⟩
          case round =>
            obtain ⟨u, hu, rfl, hrow3, hrow4, hbel3⟩ := hrel
            by_cases hlt2 : u < 2
            · have hx : bits BinOp.and IntKind.i64 (2 * (t : Int) + (u : Int)) 3 = (((2 * t + u) % 4 : Nat) : Int) := by rw [and_three (by omega) (by omega)]; omega
              have hcell := hrow4.cell (i := (2 * t + u) % 4) (by omega)
              have hfrz := hrow4.frozen ((2 * t + u) % 4)
              have hcb := C_le r f (show k ≤ 12 by omega) t hlt4
              have hnb := N_bd (r := r) (b := f k) (B := 4096) (fun j hj => C_le r f (show k ≤ 12 by omega) j hj) (2 * t + u) ((2 * t + u) % 4) (by omega)
              simp only [mI] at hcell
              have hdiv := div_pow_bd r0 (2 * t + u)
              have h64 := hrow4.lt
              by_cases hh : hit r (f k) (2 * t + u)
              · have hq : (bits BinOp.and IntKind.i64 (r / 2 ^ (2 * t + u)) 1 == bitI (f k)) = true := by
                  rw [and_one (by omega) (by omega)]; simp only [beq_iff_eq]; exact hh
                have HH := Lib.hid hh
                clear hh
                go_wp2
                go_quiet ((go_at_call 15; exact Calls.quiet_of_same (bit_any' _ _)))
                go_wp2
                go_roundw
                case rel => exact ⟨u + 1, by omega, by go_num, (row_drewN hrow3 nq).setOther (by have := hrow.lt; simp; omega) _, ((row_drewN hrow4 nq).set _ _).congr (fun j hj => by
                  have e := N_hit (C r f k) (show 2 * t + u < 8 by omega) HH.out j hj
                  rw [show (2 * t + u) / 2 = t by omega] at e
                  simp only [mI]; rw [← Nat.add_assoc, e]
                  by_cases ej : j = (2 * t + u) % 4
                  · rw [if_pos ej, if_pos ej, ej]
                  · rw [if_neg ej, if_neg ej]), (below_drewN hbel3 nq).setCell (by have := hrow.lt; simp; omega) _⟩
                case measure => simp [intOf]; omega
              · have hq : (bits BinOp.and IntKind.i64 (r / 2 ^ (2 * t + u)) 1 == bitI (f k)) = false := by
                  rw [and_one (by omega) (by omega), beq_eq_false_iff_ne]; exact hh
                have HH := Lib.hid hh
                clear hh
                go_wp2
                go_quiet ((go_at_call 15; exact Calls.quiet_of_same (bit_any' _ _)))
                go_wp2
                go_roundw
                case rel => exact ⟨u + 1, by omega, by go_num, row_drewN hrow3 nq, (row_drewN hrow4 nq).congr (fun j hj => by
                  simp only [mI]; rw [← Nat.add_assoc, N_miss (C r f k) HH.out j]), below_drewN hbel3 nq⟩
                case measure => simp [intOf]; omega
            · obtain rfl : u = 2 := by omega
              go_wp2
              go_round
              case rel => exact ⟨t + 1, by omega, by go_num, hrow3, hrow4, hbel3⟩
              case measure => simp [intOf]; omega
        · obtain rfl : t = 4 := by omega
          have p0 := hrow2.cell (i := 0) (by omega)
          have p1 := hrow2.cell (i := 1) (by omega)
          have p2 := hrow2.cell (i := 2) (by omega)
          have p3 := hrow2.cell (i := 3) (by omega)
          have g0 := hrow1.frozen 0
          have g1 := hrow1.frozen 1
          have g2 := hrow1.frozen 2
          have g3 := hrow1.frozen 3
          have c0 := hrow1.cell (i := 0) (by omega)
          have c1 := hrow1.cell (i := 1) (by omega)
          have c2 := hrow1.cell (i := 2) (by omega)
          have c3 := hrow1.cell (i := 3) (by omega)
          have s1 := hrow1.lt
          have s2 := hrow2.lt
          simp only [mI] at p0 p1 p2 p3 c0 c1 c2 c3
          go_wp2
          go_roundw
          case rel => exact ⟨k + 1, by omega, by go_num, ((((hrow1.set 0 _).set 1 _).set 2 _).set 3 _).congr (fun j hj => by
            simp only [mI, C]
            match j, hj with
            | 0, _ => simp
            | 1, _ => simp
            | 2, _ => simp
            | 3, _ => simp), (((hbel1.setCell (by simp) _).setCell (by simp) _).setCell (by simp) _).setCell (by simp) _⟩
          case measure => simp [intOf]; omega
    · obtain rfl : k = n := by omega
      have b0 := C_le r f hn 0 (by omega)
      have b1 := C_le r f hn 1 (by omega)
      have b2 := C_le r f hn 2 (by omega)
      have b3 := C_le r f hn 3 (by omega)
      go_wp2
      go_ret2
      exact ⟨by rfl, hbel⟩
theorem many_long (r : Int) (A : Option Addr) (n c : Nat) (w : World) (hn : 12 < n) (hm : n ≤ maxLen) (r0 : 0 ≤ r) (r1 : r ≤ 255) :
    Calls Try.prog 10 #[.int .i64 r, .slice A n c] w fun e w' => e = .returned (.tuple #[.int .i64 0, .int .i64 1]) ∧ w = w' := by
  have hr := inB_yes r0 r1
  unfold maxLen at hm
  go_enter Try.func10, Try.ntmps10
  go_wp2_with (go_at_call 14; refine (wrong_any _ _).mono ?_; rintro e w' ⟨rfl, rfl⟩)
  go_ret2
  exact ⟨rfl, rfl⟩
theorem many_wrong (r : Int) (A : Option Addr) (n c : Nat) (w : World) (hr0 : ¬ (0 ≤ r ∧ r ≤ 255)) :
    Calls Try.prog 10 #[.int .i64 r, .slice A n c] w fun e w' => e = .returned (.tuple #[.int .i64 0, .int .i64 4]) ∧ w = w' := by
  have hr := inB_no hr0
  clear hr0
  go_enter Try.func10, Try.ntmps10
  go_wp2_with (go_at_call 14; refine (wrong_any _ _).mono ?_; rintro e w' ⟨rfl, rfl⟩)
  go_ret2
  exact ⟨rfl, rfl⟩

def mV (r : Int) (f : Nat → Bool) (n : Nat) : Int := if (0 ≤ r ∧ r ≤ 255) ∧ n ≤ 12 then many r f n else 0
def mE (r : Int) (n : Nat) : Int := if 0 ≤ r ∧ r ≤ 255 then (if n ≤ 12 then 0 else 1) else 4
theorem many_any (r : Int) (A : Option Addr) (n c : Nat) (f : Nat → Bool) (w : World) (h : Rd w A n (fun i => .bool (f i))) (hm : n ≤ maxLen) :
    Calls Try.prog 10 #[.int .i64 r, .slice A n c] w fun e w' => e = .returned (.tuple #[.int .i64 (mV r f n), .int .i64 (mE r n)]) ∧ Below w.heap.size w w' := by
  unfold mV mE
  by_cases hr : 0 ≤ r ∧ r ≤ 255
  · by_cases hn : n ≤ 12
    · rw [if_pos ⟨hr, hn⟩, if_pos hr, if_pos hn]
      exact many_ok r A n c f w h hn hr.1 hr.2
    · rw [if_neg (fun hh => hn hh.2), if_pos hr, if_neg hn]
      exact (many_long r A n c w (by omega) hm hr.1 hr.2).mono fun e w' ⟨a, b⟩ => ⟨a, b ▸ Below.refl _ _⟩
  · rw [if_neg (fun hh => hr hh.1), if_neg hr]
    exact (many_wrong r A n c w hr).mono fun e w' ⟨a, b⟩ => ⟨a, b ▸ Below.refl _ _⟩
end Go.Proofs.Ytnagdnbdpknniaa
