/- What wave.Sways computes. Conditions: as each theorem states. -/
import Derived.Test.YtjaakdjkacnfkaaWaveTurn
import Derived.Test.YtjaakdjkacnfkaaSwayLaw
import Derived.Test.YtjaakdjkacnfkaaTabled
namespace Go.Proofs.Ytjaakdjkacnfkaa
open WaveM Go.ChangeShapes Go.WideShapes Go.ChangeAt Go.RowKit
set_option linter.unusedVariables false
theorem xor_nat (a b : Nat) (ha : a < 9223372036854775808) (hb : b < 9223372036854775808) : bits .xor .i64 (a : Int) (b : Int) = ((a ^^^ b : Nat) : Int) := by
  have hx : a ^^^ b < 2 ^ 63 := Nat.xor_lt_two_pow (by omega) (by omega)
  show IntKind.i64.wrap ((BitVec.ofInt 64 (a : Int) ^^^ BitVec.ofInt 64 (b : Int)).toNat : Int) = _
  rw [BitVec.toNat_xor, ofInt64 a ha, ofInt64 b hb, IntKind.wrap_i64]
  omega
theorem info_int : (Try.prog.info? 3).map (fun i => (i.zero, i.size, i.bytes)) = some (some (.int .i64 0), 1, 8) := by kernel_rfl
theorem tab_ok {N m : Nat} (hN : N ≤ 4) (hm : m = 2 ^ N) : tabE (N : Int) m 0 = 0 := by
  have := tpow_bd hN
  unfold tabE
  rw [if_pos ⟨by omega, by omega⟩, Int.toNat_natCast, if_pos hm, if_pos ⟨by omega, by omega⟩]
theorem tab_zero {n : Int} {m : Nat} (h : tabE n m 0 = 0) : ∃ N : Nat, n = N ∧ N ≤ 4 ∧ m = 2 ^ N := by
  unfold tabE at h
  by_cases hn : 0 ≤ n ∧ n ≤ 4
  · rw [if_pos hn] at h
    by_cases hm : m = 2 ^ n.toNat
    · exact ⟨n.toNat, by omega, by omega, hm⟩
    · rw [if_neg hm] at h; omega
  · rw [if_neg hn] at h; omega
theorem okR_zero (m : Nat) : okR m (fun _ => 0) := fun i _ => ⟨by show (-1000000000 : Int) ≤ 0; decide, by show (0 : Int) ≤ 1000000000; decide⟩
set_option maxRecDepth 100000 in
theorem sways_bad (n : Int) (A : Option Addr) (m c : Nat) (w : World) (hm : m ≤ 1048576) (hv : tabE n m 0 ≠ 0) :
    Calls Try.prog 13 #[.int .i64 n, .slice A m c] w fun e w' => (∃ r, e = .returned (.tuple #[.slice none 0 0, .int .i64 r]) ∧ (r != 0) = true) ∧ Below w.heap.size w w' := by
  have hmk := fun W => run_make_row' (P := Try.prog) 23 3 (.int .i64 0) 8 Try.underlying23 info_int rfl .i64 .i64 m (by omega) (by omega) W
  have hr : ∀ W : World, Rd (W.alloc (.cells (madeCells #[.int .i64 0] m) 3)) (some ⟨W.heap.size, 0, none⟩) m (fun _ => .int .i64 0) := fun W => Rd.of_row (World.rowIs_made W (.int .i64 0) m 3) (Nat.le_refl _)
  have hv2 : wvE n m (fun _ => 0) ≠ 0 := fun h => by
    obtain ⟨N, rfl, hN, hm2, _⟩ := wvE_zero h
    exact hv (tab_ok hN hm2)
  have hq : (wvE n m (fun _ => 0) != 0) = true := by rw [bne_iff_ne]; exact hv2
  have HR := Lib.hid hr
  clear hr hv hv2
  go_enter Try.func13, Try.ntmps13
  go_wp2_with (go_at_call 15; refine (wrong_any n _ m _ (fun _ => 0) _ (HR.out _) (by unfold maxLen; omega)).mono ?_; rintro e w' ⟨rfl, rfl⟩)
  go_ret2
  exact ⟨⟨_, rfl, hq⟩, (Below.refl _ _).alloc (Nat.le_refl _) _⟩
theorem sw_succ (f : Nat → Bool) (i x : Nat) : sw f i (x + 1) = sw f i x + (f (flip i x) != f x).toNat := rfl
set_option maxRecDepth 100000 in
theorem sways_good (N : Nat) (A : Option Addr) (m c : Nat) (f : Nat → Bool) (w : World) (h : Rd w A m (fun i => .bool (f i))) (hN : N ≤ 4) (hm : m = 2 ^ N) :
    Calls Try.prog 13 #[.int .i64 N, .slice A m c] w fun e w' => ∃ A' c', e = .returned (.tuple #[.slice A' N c', .int .i64 0]) ∧ Rd w' A' N (fun i => .int .i64 (sw f i m : Nat)) ∧ Below w.heap.size w w' := by
  have p := tpow_bd hN
  have hm1 : 1 ≤ m := by omega
  have hm16 : m ≤ 16 := by omega
  have hmk := fun W => run_make_row' (P := Try.prog) 23 3 (.int .i64 0) 8 Try.underlying23 info_int rfl .i64 .i64 m (by omega) (by omega) W
  have hmk2 := fun W => run_make_row' (P := Try.prog) 23 3 (.int .i64 0) 8 Try.underlying23 info_int rfl .i64 .i64 N (by omega) (by omega) W
  have hr : ∀ W : World, Rd (W.alloc (.cells (madeCells #[.int .i64 0] m) 3)) (some ⟨W.heap.size, 0, none⟩) m (fun _ => .int .i64 0) := fun W => Rd.of_row (World.rowIs_made W (.int .i64 0) m 3) (Nat.le_refl _)
  have hv2 : wvE (N : Int) m (fun _ => 0) = 0 := wvE_is hN hm (okR_zero m)
  have HR := Lib.hid hr
  have H := Lib.hid h
  have HM := Lib.hid hm
  clear hr h hm p
  go_enter Try.func13, Try.ntmps13
  go_wp2_with (go_at_call 15; refine (wrong_any N _ m _ (fun _ => 0) _ (HR.out _) (by unfold maxLen; omega)).mono ?_; rintro e w' ⟨rfl, rfl⟩)
  obtain ⟨w1, hw1⟩ : ∃ w1, w1 = w.alloc (.cells (madeCells #[.int .i64 0] m) 3) := ⟨_, rfl⟩
  have hb1 : Below w.heap.size w w1 := by rw [hw1]; exact (Below.refl _ _).alloc (Nat.le_refl _) _
  have hs1 : w1.heap.size = w.heap.size + 1 := by rw [hw1]; simp
  obtain ⟨g, hg⟩ : ∃ g, g = w1.heap.size := ⟨_, rfl⟩
  go_loopw [23] (fun i wr => ∃ k : Nat, k ≤ N ∧ i = .int .i64 k ∧ wr.rowIs (w.heap.size + 1) 3 N (fun j => .int .i64 (if j < k then (sw f j m : Nat) else 0)) ∧ Below w.heap.size w wr) (fun i _ => N - (intOf i).toNat)
  case atStart => exact ⟨0, Nat.zero_le _, rfl, by
    have := World.rowIs_made w1 (.int .i64 0) N 3
    rw [hs1, hw1] at this
    exact this.congr (fun i hi => by simp), (((Below.refl _ _).alloc (Nat.le_refl _) _).alloc (by simp) _)⟩
  case round =>
    obtain ⟨wo, rfl⟩ : ∃ wo : World, wo = wr := ⟨_, rfl⟩
    obtain ⟨k, hk, rfl, hrow, hbel⟩ := hrel
    clear hw1 hb1 hs1 hg
    by_cases hlt : k < N
    · have p2 := tpow_bd (N := k) (by omega)
      obtain ⟨p0, p1, _, _⟩ := p2
      go_wp2_with fail
      go_loopw [28] (fun i wr => ∃ x : Nat, x ≤ m ∧ i = .int .i64 x ∧ wr.rowIs (w.heap.size + 1) 3 N (fun j => .int .i64 (if j < k then (sw f j m : Nat) else if j = k then (sw f j x : Nat) else 0)) ∧ Below w.heap.size w wr) (fun i _ => m - (intOf i).toNat)
      case atStart => exact ⟨0, Nat.zero_le _, rfl, hrow.congr (fun j hj => by by_cases h1 : j < k <;> by_cases h2 : j = k <;> simp [h1, h2, sw, cn]), hbel⟩
      case round =>
        obtain ⟨x, hx, rfl, hr', hbel'⟩ := hrel
        by_cases hlx : x < m
        · have hxr : bits BinOp.xor IntKind.i64 (x : Int) (2 ^ k) = ((WaveM.flip k x : Nat) : Int) := by
            have := xor_nat x (2 ^ k) (by omega) (by omega)
            rw [xor_flip k (by omega) x (by omega)] at this
            rw [← this]; simp
          have hfl := flip_lt N hN k hlt x (by rw [← HM.out]; exact hlx)
          rw [← HM.out] at hfl
          have hss := sw_succ f k x
          obtain ⟨y, hy⟩ : ∃ y, y = WaveM.flip k x := ⟨_, rfl⟩
          rw [← hy] at hxr hfl hss
          obtain ⟨b1, o1, rfl, _, cc1⟩ := (H.out.below hbel').at_ hlx
          obtain ⟨b2, o2, e2, _, cc2⟩ := (H.out.below hbel').at_ hfl
          injection e2 with e2
          injection e2 with eb eo
          subst eb; subst eo
          have hsw := cn_le (fun z => f (WaveM.flip k z) != f z) x
          have hsw2 : sw f k x ≤ x := hsw
          obtain ⟨S, hS⟩ : ∃ S, S = sw f k x := ⟨_, rfl⟩
          rw [← hS] at hss hsw2
          have ck : wr.cell? ⟨w.heap.size + 1, k, none⟩ = some (.int .i64 (S : Nat)) := by rw [hr'.cell hlt, if_neg (by omega), if_pos rfl, hS]
          have zk := hr'.frozen k
          have sg := hr'.lt
          have HSS := Lib.hid hss
          have HS := Lib.hid hS
          by_cases hd : f y = f x
          · have hq : (f y != f x) = false := by rw [hd]; simp
            have hq2 : (f y == f x) = true := by rw [hd]; simp
            rw [hq] at hss
            clear hsw hss hS hy hd
            go_wp2_with fail
            go_roundw
            case rel => exact ⟨x + 1, by omega, by go_num, hr'.congr (fun j hj => by
              by_cases h1 : j < k
              · rw [if_pos h1, if_pos h1]
              · rw [if_neg h1, if_neg h1]
                by_cases h2 : j = k
                · subst h2; rw [if_pos rfl, if_pos rfl, HSS.out, hq, HS.out]; rfl
                · rw [if_neg h2, if_neg h2]), hbel'⟩
            case measure => simp [intOf]; omega
          · have hq : (f y != f x) = true := by rw [bne_iff_ne]; exact hd
            have hq2 : (f y == f x) = false := by rw [beq_eq_false_iff_ne]; exact hd
            clear hsw hss hS hy hd
            go_wp2_with fail
            go_roundw
            case rel => exact ⟨x + 1, by omega, by go_num, (hr'.set k _).congr (fun j hj => by
              by_cases h2 : j = k
              · subst h2; simp [HSS.out, hq]
              · rw [if_neg h2]
                by_cases h1 : j < k
                · rw [if_pos h1, if_pos h1]
                · rw [if_neg h1, if_neg h1, if_neg h2, if_neg h2]), (hbel'.setCell (by simp) _)⟩
            case measure => simp [intOf]; omega
        · obtain rfl : x = m := by omega
          go_wp2_with fail
          go_roundw
          case rel => exact ⟨k + 1, by omega, by go_num, hr'.congr (fun j hj => by
            by_cases h1 : j < k
            · rw [if_pos h1, if_pos (by omega)]
            · rw [if_neg h1]
              by_cases h2 : j = k
              · rw [if_pos h2, if_pos (by omega)]
              · rw [if_neg h2, if_neg (by omega)]), hbel'⟩
          case measure => simp [intOf]; omega
    · obtain rfl : k = N := by omega
      go_wp2_with fail
      go_ret2
      exact ⟨_, _, rfl, (Rd.of_row hrow (Nat.le_refl _)).congr (fun j hj => by rw [if_pos hj]), hbel⟩
end Go.Proofs.Ytjaakdjkacnfkaa
