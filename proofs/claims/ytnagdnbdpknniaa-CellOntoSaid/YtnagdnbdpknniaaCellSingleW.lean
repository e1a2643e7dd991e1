/- The walk of cell.Single. Conditions: the rule lies from 0 to 255. -/
import Derived.Test.YtnagdnbdpknniaaCellSingle
import Derived.Deep.RegionLaw
namespace Go.Proofs.Ytnagdnbdpknniaa
open Go.ChangeShapes Go.WideShapes Go.ChangeAt Go.RowKit
set_option linter.unusedVariables false
theorem pow16 {k : Nat} (h : k < 16) : (2 : Int) ^ k % 4294967296 = 2 ^ k := by
  have hp : 2 ^ k < 2 ^ 16 := Nat.pow_lt_pow_right (by omega) h
  have e : ((2 ^ k : Nat) : Int) = 2 ^ k := Int.natCast_pow 2 _
  rw [← e]
  generalize 2 ^ k = Y at hp
  omega
def msS (s4 s6 : Value) : Nat := match s6 with
  | .bool true => (intOf s4).toNat + 1
  | _ => 0
set_option maxRecDepth 100000 in
set_option maxHeartbeats 4000000 in
theorem single_any (r : Int) (w : World) (r0 : 0 ≤ r) (r1 : r ≤ 255) :
    Calls Try.prog 13 #[.int .i64 r] w fun e w' => (∃ v, e = .returned (.tuple #[.bool v, .int .i64 0]) ∧ (v = true → ∀ W, Cl r W → ∀ p, p < 16 → W p = true → p / 4 = p % 4)) ∧ Below w.heap.size w w' := by
  have hr := inB_yes r0 r1
  go_enter Try.func13, Try.ntmps13
  go_wp2_with (go_at_call 14; refine (wrong_any _ _).mono ?_; rintro e w' ⟨rfl, rfl⟩)
  have hB0 := (Below.refl w.heap.size w).alloc (Nat.le_refl _) (.cells #[.int .i64 r] 3)
  obtain ⟨Bx, hBx⟩ : ∃ Bx, Bx = w.heap.size := ⟨_, rfl⟩
  obtain ⟨wb, hwb⟩ : ∃ wb, wb = w.alloc (.cells #[.int .i64 r] 3) := ⟨_, rfl⟩
  have hx0 : wb.cell? ⟨Bx, 0, none⟩ = some (.int .i64 r) := by
    rw [hwb, hBx, cell_of_row (w.alloc (.cells #[.int .i64 r] 3)) w.heap.size 0 _ _ (0, 0) (heap_alloc_new w _)]; rfl
  have hs0 : Bx < wb.heap.size := by rw [hwb, hBx]; simp
  rw [← hBx, ← hwb]
  rw [← hwb] at hB0
  clear hwb hBx
  have HK0 : Hid (Kp r 65535) := Lib.hid (fun W hW p hp hw => by
    have : p = 0 ∨ p = 1 ∨ p = 2 ∨ p = 3 ∨ p = 4 ∨ p = 5 ∨ p = 6 ∨ p = 7 ∨ p = 8 ∨ p = 9 ∨ p = 10 ∨ p = 11 ∨ p = 12 ∨ p = 13 ∨ p = 14 ∨ p = 15 := by omega
    rcases this with rfl | rfl | rfl | rfl | rfl | rfl | rfl | rfl | rfl | rfl | rfl | rfl | rfl | rfl | rfl | rfl <;> decide)
  go_loopw [4, 6] (fun s4 s6 wr => ∃ (l : Nat) (mo : Bool), l < 65536 ∧ s4 = .int .u32 (l : Nat) ∧ s6 = .bool mo ∧ Hid (Kp r l) ∧ wr.cell? ⟨Bx, 0, none⟩ = some (.int .i64 r) ∧ Bx < wr.heap.size ∧ Below w.heap.size w wr) (fun s4 s6 _ => msS s4 s6)
  case atStart => exact ⟨65535, true, by omega, rfl, rfl, HK0, hx0, hs0, hB0⟩
  case round =>
    clear hx0 hs0 hB0 HK0
    obtain ⟨wo, rfl⟩ : ∃ wo : World, wo = wr := ⟨_, rfl⟩
    obtain ⟨l0, mo, hl0, rfl, rfl, HK, hbx, hbs, hbel⟩ := hrel
    cases mo
    · go_wp2_with fail
      go_loopw [67] (fun s67 wr => ∃ k : Nat, k ≤ 16 ∧ s67 = .int .i64 (k : Nat) ∧ Hid (∀ p, p < k → l0.testBit p = true → p / 4 = p % 4) ∧ Below w.heap.size w wr) (fun s67 _ => 16 - (intOf s67).toNat)
      case atStart => exact ⟨0, by omega, rfl, Lib.hid (fun p hp => absurd hp (Nat.not_lt_zero _)), hbel⟩
      case round =>
        clear hbx hbs hbel
        obtain ⟨k, hk, rfl, HD, hbel⟩ := hrel
        by_cases hlt : k < 16
        · have a1 : bits BinOp.and IntKind.i64 (k : Int) 3 = ((k % 4 : Nat) : Int) := by rw [and_three (by omega) (by omega)]; omega
          have d1 : (k : Int) / 2 ^ 2 = ((k / 4 : Nat) : Int) := by omega
          have d1' : (k : Int) / 4 = ((k / 4 : Nat) : Int) := by omega
          by_cases htb : l0.testBit k = true
          · have t1 : (bits BinOp.and IntKind.u32 ((l0 : Int) / 2 ^ k) 1 == 1) = true := by rw [shr_bit l0 k hl0, htb]
            by_cases hkk : k / 4 = k % 4
            · have HKK := Lib.hid hkk
              have hq : (((k / 4 : Nat) : Int) == ((k % 4 : Nat) : Int)) = true := by simp [hkk]
              obtain ⟨x, hx⟩ : ∃ x, x = k / 4 := ⟨_, rfl⟩
              obtain ⟨y, hy⟩ : ∃ y, y = k % 4 := ⟨_, rfl⟩
              rw [← hx, ← hy] at hq
              rw [← hx] at d1 d1'
              rw [← hy] at a1
              clear hx hy hkk htb
              go_wp2_with fail
              go_roundw
              case rel => exact ⟨k + 1, by omega, by go_num, Lib.hid (fun p hp hb => by
                by_cases e : p = k
                · subst e; exact HKK.out
                · exact HD.out p (by omega) hb), hbel⟩
              case measure => simp [intOf]; omega
            · have hq : (((k / 4 : Nat) : Int) == ((k % 4 : Nat) : Int)) = false := by simp; omega
              obtain ⟨x, hx⟩ : ∃ x, x = k / 4 := ⟨_, rfl⟩
              obtain ⟨y, hy⟩ : ∃ y, y = k % 4 := ⟨_, rfl⟩
              rw [← hx, ← hy] at hq
              rw [← hx] at d1 d1'
              rw [← hy] at a1
              clear hx hy hkk htb
              go_wp2_with fail
              go_ret2
              exact ⟨⟨false, rfl, fun h => by cases h⟩, hbel⟩
          · have t1 : (bits BinOp.and IntKind.u32 ((l0 : Int) / 2 ^ k) 1 == 1) = false := by rw [shr_bit l0 k hl0]; simpa using htb
            have HTB := Lib.hid htb
            clear htb
            go_wp2_with fail
            go_roundw
            case rel => exact ⟨k + 1, by omega, by go_num, Lib.hid (fun p hp hb => by
              by_cases e : p = k
              · subst e; exact absurd hb HTB.out
              · exact HD.out p (by omega) hb), hbel⟩
            case measure => simp [intOf]; omega
        · obtain rfl : k = 16 := by omega
          go_wp2_with fail
          go_ret2
          exact ⟨⟨true, rfl, fun _ W hW p hp hw => HD.out p hp (HK.out W hW p hp hw)⟩, hbel⟩
    · go_wp2_with fail
      go_loopw [4, 18] (fun s4 s18 wr => ∃ (k l : Nat), k ≤ 16 ∧ s18 = .int .i64 (k : Nat) ∧ s4 = .int .u32 (l : Nat) ∧ l ≤ l0 ∧ Hid (Kp r l) ∧ wr.cell? ⟨Bx, 0, none⟩ = some (.int .i64 r) ∧ Bx < wr.heap.size ∧ Below w.heap.size w wr) (fun _ s18 _ => 16 - (intOf s18).toNat)
      case atStart => exact ⟨0, l0, by omega, rfl, rfl, Nat.le_refl _, HK, hbx, hbs, hbel⟩
      case round =>
        clear hbx hbs hbel HK
        obtain ⟨wp, rfl⟩ : ∃ wp : World, wp = wr := ⟨_, rfl⟩
        obtain ⟨k, l, hk, rfl, rfl, hll, HK, hbx, hbs, hbel⟩ := hrel
        have hl : l < 65536 := by omega
        by_cases hlt : k < 16
        · go_wp2_with fail
          try rw [show decide ((k : Int) < 16) = true from decide_eq_true (by omega)]
          go_loopw [9, 10, 21] (fun s9 s10 s21 wr => ∃ q : Nat, q ≤ 16 ∧ s21 = .int .i64 (q : Nat) ∧ s9 = .bool (frB r l k q) ∧ s10 = .bool (toB r l k q) ∧ wr.cell? ⟨Bx, 0, none⟩ = some (.int .i64 r) ∧ Bx < wr.heap.size ∧ Below w.heap.size w wr) (fun _ _ s21 _ => 16 - (intOf s21).toNat)
          case atStart => exact ⟨0, by omega, rfl, rfl, rfl, hbx, hbs, hbel⟩
          case round =>
            clear hbx hbs hbel
            obtain ⟨q, hq16, rfl, rfl, rfl, hbx, hbs, hbel⟩ := hrel
            by_cases hlq : q < 16
            · have hf : frB r l k (q + 1) = (frB r l k q || (l.testBit q && gB r q k)) := rfl
              have ht : toB r l k (q + 1) = (toB r l k q || (l.testBit q && gB r k q)) := rfl
              obtain ⟨f1, hf1⟩ : ∃ f1, f1 = frB r l k q := ⟨_, rfl⟩
              obtain ⟨f2, hf2⟩ : ∃ f2, f2 = toB r l k q := ⟨_, rfl⟩
              rw [← hf1] at hf ⊢
              rw [← hf2] at ht ⊢
              have HF := Lib.hid hf
              have HT := Lib.hid ht
              clear hf ht hf1 hf2
              by_cases htb : l.testBit q = true
              · have t1 : (bits BinOp.and IntKind.u32 ((l : Int) / 2 ^ q) 1 == 1) = true := by rw [shr_bit l q hl, htb]
                cases f1
                · have HG1 := Lib.hid htb
                  clear htb
                  go_wp2_with fail
                  refine (goes_any r q k Bx _ r0 r1 (by omega) (by omega) hbx).mono ?_; rintro e w1 ⟨rfl, hbl1⟩
                  have hbx1 := (hbl1.cell (p := ⟨Bx, 0, none⟩) hbs).trans hbx
                  have hbs1 := hbl1.size
                  have hbel1 : Below w.heap.size w w1 := hbel.trans (hbl1.mono hbel.size)
                  clear hbx hbel hbl1
                  obtain ⟨g1, hg1⟩ : ∃ g1, g1 = gB r q k := ⟨_, rfl⟩
                  rw [← hg1]
                  cases f2
                  · go_wp2_with fail
                    refine (goes_any r k q Bx _ r0 r1 (by omega) (by omega) hbx1).mono ?_; rintro e w2 ⟨rfl, hbl2⟩
                    have hbx2 := (hbl2.cell (p := ⟨Bx, 0, none⟩) (by show Bx < _; omega)).trans hbx1
                    have hbs2 := hbl2.size
                    have hbel2 : Below w.heap.size w w2 := hbel1.trans (hbl2.mono hbel1.size)
                    obtain ⟨g2, hg2⟩ : ∃ g2, g2 = gB r k q := ⟨_, rfl⟩
                    rw [← hg2]
                    clear hbl2
                    go_wp2_with fail
                    go_roundw
                    case rel => exact ⟨q + 1, by omega, by go_num, by rw [HF.out]; first | rfl | (simp [*]; done) | (simp [HG1.out]; done), by rw [HT.out]; first | rfl | (simp [*]; done) | (simp [HG1.out]; done), hbx2, by omega, hbel2⟩
                    case measure => simp [intOf]; omega
                  · go_wp2_with fail
                    go_roundw
                    case rel => exact ⟨q + 1, by omega, by go_num, by rw [HF.out]; first | rfl | (simp [*]; done) | (simp [HG1.out]; done), by rw [HT.out]; first | rfl | (simp [*]; done) | (simp [HG1.out]; done), hbx1, by omega, hbel1⟩
                    case measure => simp [intOf]; omega
                · cases f2
                  · go_wp2_with fail
                    refine (goes_any r k q Bx _ r0 r1 (by omega) (by omega) hbx).mono ?_; rintro e w2 ⟨rfl, hbl2⟩
                    have hbx2 := (hbl2.cell (p := ⟨Bx, 0, none⟩) hbs).trans hbx
                    have hbs2 := hbl2.size
                    have hbel2 : Below w.heap.size w w2 := hbel.trans (hbl2.mono hbel.size)
                    obtain ⟨g2, hg2⟩ : ∃ g2, g2 = gB r k q := ⟨_, rfl⟩
                    rw [← hg2]
                    clear hbl2
                    go_wp2_with fail
                    go_roundw
                    case rel => exact ⟨q + 1, by omega, by go_num, by rw [HF.out]; first | rfl | (simp [*]; done) | (simp [HG1.out]; done), by rw [HT.out]; first | rfl | (simp [*]; done) | (simp [HG1.out]; done), hbx2, by omega, hbel2⟩
                    case measure => simp [intOf]; omega
                  · go_wp2_with fail
                    go_roundw
                    case rel => exact ⟨q + 1, by omega, by go_num, by rw [HF.out]; first | rfl | (simp [*]; done) | (simp [HG1.out]; done), by rw [HT.out]; first | rfl | (simp [*]; done) | (simp [HG1.out]; done), hbx, hbs, hbel⟩
                    case measure => simp [intOf]; omega
              · have t1 : (bits BinOp.and IntKind.u32 ((l : Int) / 2 ^ q) 1 == 1) = false := by rw [shr_bit l q hl]; simpa using htb
                cases f1 <;> cases f2
                · go_wp2_with fail
                  go_roundw
                  case rel => exact ⟨q + 1, by omega, by go_num, by rw [HF.out]; first | rfl | (simp [*]; done) | (simp [HG1.out]; done), by rw [HT.out]; first | rfl | (simp [*]; done) | (simp [HG1.out]; done), hbx, hbs, hbel⟩
                  case measure => simp [intOf]; omega
                · go_wp2_with fail
                  go_roundw
                  case rel => exact ⟨q + 1, by omega, by go_num, by rw [HF.out]; first | rfl | (simp [*]; done) | (simp [HG1.out]; done), by rw [HT.out]; first | rfl | (simp [*]; done) | (simp [HG1.out]; done), hbx, hbs, hbel⟩
                  case measure => simp [intOf]; omega
                · go_wp2_with fail
                  go_roundw
                  case rel => exact ⟨q + 1, by omega, by go_num, by rw [HF.out]; first | rfl | (simp [*]; done) | (simp [HG1.out]; done), by rw [HT.out]; first | rfl | (simp [*]; done) | (simp [HG1.out]; done), hbx, hbs, hbel⟩
                  case measure => simp [intOf]; omega
                · go_wp2_with fail
                  go_roundw
                  case rel => exact ⟨q + 1, by omega, by go_num, by rw [HF.out]; first | rfl | (simp [*]; done) | (simp [HG1.out]; done), by rw [HT.out]; first | rfl | (simp [*]; done) | (simp [HG1.out]; done), hbx, hbs, hbel⟩
                  case measure => simp [intOf]; omega
            · obtain rfl : q = 16 := by omega
              obtain ⟨f1, hf1⟩ : ∃ f1, f1 = frB r l k 16 := ⟨_, rfl⟩
              obtain ⟨f2, hf2⟩ : ∃ f2, f2 = toB r l k 16 := ⟨_, rfl⟩
              rw [← hf1, ← hf2]
              have hno := Kp.clr (p := k) hl HK.out hlt
              rw [← hf1, ← hf2] at hno
              have HNO := Lib.hid hno
              have hcl := clr_le (p := k) hl
              have han : bits BinOp.andNot IntKind.u32 (l : Int) (2 ^ k % 4294967296) = (clr l k : Int) := by rw [pow16 hlt]; exact andnot_bit l k hl hlt
              clear hno hf1 hf2
              cases f1
              · go_wp2_with fail
                go_roundw
                case rel => exact ⟨k + 1, clr l k, by omega, by go_num, by first | rfl | rw [han], by omega, Lib.hid (HNO.out (.inl rfl)), hbx, hbs, hbel⟩
                case measure => simp [intOf]; omega
              · cases f2
                · go_wp2_with fail
                  go_roundw
                  case rel => exact ⟨k + 1, clr l k, by omega, by go_num, by first | rfl | rw [han], by omega, Lib.hid (HNO.out (.inr rfl)), hbx, hbs, hbel⟩
                  case measure => simp [intOf]; omega
                · go_wp2_with fail
                  go_roundw
                  case rel => exact ⟨k + 1, l, by omega, by go_num, rfl, hll, HK, hbx, hbs, hbel⟩
                  case measure => simp [intOf]; omega
        · obtain rfl : k = 16 := by omega
          by_cases he : l = l0
          · subst he
            go_wp2_with fail
            go_roundw
            case rel => exact ⟨l, false, by omega, rfl, by first | rfl | simp, HK, hbx, hbs, hbel⟩
            case measure => simp [msS, intOf]
          · have hne : ((l : Int) != (l0 : Int)) = true := by simp; omega
            go_wp2_with fail
            go_roundw
            case rel => exact ⟨l, true, by omega, rfl, rfl, HK, hbx, hbs, hbel⟩
            case measure => simp [msS, intOf]; omega
end Go.Proofs.Ytnagdnbdpknniaa
