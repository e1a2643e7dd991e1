/- The encoding of a sum of counter values is the product of the encodings. No condition. -/
import Derived.Test.YtcbifknjoijlkaaTwoFns
namespace Go.Proofs.Ytcbifknjoijlkaa.twoTimes
open TwoM Go.ChangeShapes Go.WideShapes Go.ChangeAt Go.RowKit
set_option linter.unusedVariables false
def PackAll (n : Nat) (f : Nat → Int) (w : World) (e : Ending) (w' : World) : Prop :=
  (((1 ≤ n ∧ n ≤ 4 ∧ okP n f) ∧ e = .returned (.tuple #[.int .i64 (T (F f) 0 n : Nat), .int .i64 0])) ∨ e = .returned (.tuple #[.int .i64 0, .int .i64 4]) ∨ e = .returned (.tuple #[.int .i64 0, .int .i64 1])) ∧ Below w.heap.size w w'
theorem pack_all (A : Option Addr) (n c : Nat) (f : Nat → Int) (w : World) (h : Rd w A n (fun i => .int .i64 (f i))) (hm : n ≤ maxLen) :
    Calls Try.prog 5 #[.slice A n c] w (PackAll n f w) := by
  by_cases hn : 1 ≤ n ∧ n ≤ 4
  · refine (pack_any A n c f w h hn.1 hn.2).mono ?_
    rintro e w1 ⟨⟨hok, rfl⟩ | ⟨hok, rfl⟩, hb1⟩
    · exact ⟨.inl ⟨⟨hn.1, hn.2, hok⟩, rfl⟩, hb1⟩
    · exact ⟨.inr (.inl rfl), hb1⟩
  · refine (pack_long A n c w hn hm).mono ?_
    rintro e w1 ⟨rfl, rfl⟩
    exact ⟨.inr (.inr rfl), Below.refl _ _⟩
set_option maxRecDepth 100000 in
theorem walk (w : World) (A : Option Addr) (n c : Nat) (f : Nat → Int) (B : Option Addr) (m d : Nat) (g : Nat → Int)
    (h : Rd w A n (fun i => .int .i64 (f i))) (wf : ∀ i, (Lit.int .i64 (f i)).wf = true) (hl : n ≤ c) (hm : c ≤ maxLen) (z : c * 8 ≤ 140737488351232)
    (h' : Rd w B m (fun i => .int .i64 (g i))) (wg : ∀ i, (Lit.int .i64 (g i)).wf = true) (hl' : m ≤ d) (hm' : d ≤ maxLen) (z' : d * 8 ≤ 140737488351232) :
    Calls Try.prog 4 #[.slice A n c, .slice B m d] w fun e w' => e = .returned (.bool true) ∧ Below w.heap.size w w' := by
  have hnm : n ≤ 9223372036854775807 := by omega
  have hmm : m ≤ 9223372036854775807 := by omega
  have H := Lib.hid h
  have H' := Lib.hid h'
  clear wf wg h h' hm hm' z z' hl hl'
  go_enter Try.func4, Try.ntmps4
  go_wp2_with fail
  refine (pack_all A n c f w H.out (by unfold maxLen; omega)).mono ?_
  rintro e w1 ⟨⟨hx, rfl⟩ | rfl | rfl, hb1⟩
  · have HX := Lib.hid hx
    clear hx
    go_wp2_with fail
    refine (pack_all B m d g w1 (H'.out.below hb1) (by unfold maxLen; omega)).mono ?_
    rintro e w2 ⟨⟨hy, rfl⟩ | rfl | rfl, hb2⟩
    · have HY := Lib.hid hy
      clear hy
      have hb12 : Below w.heap.size w w2 := hb1.trans (hb2.mono hb1.size)
      by_cases hnn : n = m
      · subst hnn
        obtain ⟨n1, n4, hf⟩ := HX.out
        obtain ⟨_, _, hg⟩ := HY.out
        have hf4 : ∀ i, i < n → F f i ≤ 4 := fun i hi => by have := hf i hi; simp only [F]; omega
        have hg4 : ∀ i, i < n → F g i ≤ 4 := fun i hi => by have := hg i hi; simp only [F]; omega
        have tx := Nat.le_trans (T_bd n4 hf4) (Bd_le n)
        have ty := Nat.le_trans (T_bd n4 hg4) (Bd_le n)
        have hxy := T_add (F f) (F g) 0 n
        have hb : T (F f) 0 n * T (F g) 0 n ≤ 3782285936100000000 := Nat.mul_le_mul tx ty
        have hm0 : (0 : Int) ≤ (T (F f) 0 n : Int) * (T (F g) 0 n : Int) := by rw [← Int.natCast_mul]; omega
        have hm1 : (T (F f) 0 n : Int) * (T (F g) 0 n : Int) ≤ 3782285936100000000 := by rw [← Int.natCast_mul]; omega
        have HF := Lib.hid hf
        have HG := Lib.hid hg
        have HF4 := Lib.hid hf4
        have HG4 := Lib.hid hg4
        have HXY := Lib.hid hxy
        have HB := Lib.hid hb
        have hqn : ((n : Int) != n) = false := by simp
        clear hf hg hf4 hg4 tx ty hxy hb
        go_wp2_with fail
        rw [← Int.natCast_mul, ← HXY.out]
        refine (open_good n (fun j => F f j + F g j) w2 n1 n4 (fun i hi => by have := HF4.out i hi; have := HG4.out i hi; omega) (by rw [HXY.out]; have := HB.out; omega)).mono ?_
        rintro e w3 ⟨A', c', rfl, hrd, hb3⟩
        have hb13 : Below w.heap.size w w3 := hb12.trans (hb3.mono hb12.size)
        have HR := Lib.hid hrd
        clear hrd hm0 hm1
        go_wp2_with fail
        go_loopw [11] (fun i wr => ∃ k : Nat, k ≤ n ∧ i = .int .i64 k ∧ Below w3.heap.size w3 wr) (fun i _ => n - (intOf i).toNat)
        case atStart => exact ⟨0, Nat.zero_le _, rfl, Below.refl _ _⟩
        case round =>
          obtain ⟨k, hk, rfl, hbr⟩ := hrel
          by_cases hlt : k < n
          · obtain ⟨b1, o1, rfl, _, c1⟩ := (HR.out.below hbr).at_ hlt
            obtain ⟨b2, o2, rfl, _, c2⟩ := (H.out.below (hb13.trans (hbr.mono hb13.size))).at_ hlt
            obtain ⟨b3, o3, rfl, _, c3⟩ := (H'.out.below (hb13.trans (hbr.mono hb13.size))).at_ hlt
            have p1 := HF.out k hlt
            have p2 := HG.out k hlt
            have ev : ((F f k + F g k : Nat) : Int) = f k + g k := by simp only [F]; omega
            simp only [ev] at c1
            have ew : IntKind.i64.wrap (f k + g k) = f k + g k := IntWalk.i64_in _ (by omega)
            have hq : (f k + g k != f k + g k) = false := by simp
            clear ev
            go_wp2_with fail
            go_quiet (fail)
            go_wp2_with fail
            go_roundw
            case rel => exact ⟨k + 1, by omega, by go_num, below_drewN hbr nq⟩
            case measure => simp [intOf]; omega
          · obtain rfl : k = n := by omega
            go_wp2_with fail
            go_ret
            exact ⟨rfl, hb13.trans (hbr.mono hb13.size)⟩
      · have hq : ((n : Int) != m) = true := by rw [bne_iff_ne]; omega
        clear hnn
        go_wp2_with fail
        all_goals (go_ret; exact ⟨rfl, hb12⟩)
    · go_wp2_with fail
      all_goals (go_ret; exact ⟨by simp, hb1.trans (hb2.mono hb1.size)⟩)
    · go_wp2_with fail
      all_goals (go_ret; exact ⟨by simp, hb1.trans (hb2.mono hb1.size)⟩)
  · go_wp2_with fail
    refine (pack_all B m d g w1 (H'.out.below hb1) (by unfold maxLen; omega)).mono ?_
    rintro e w2 ⟨⟨hy, rfl⟩ | rfl | rfl, hb2⟩
    all_goals try (have HY := Lib.hid hy; clear hy)
    all_goals
      go_wp2_with fail
      go_ret
      exact ⟨rfl, hb1.trans (hb2.mono hb1.size)⟩
  · go_wp2_with fail
    refine (pack_all B m d g w1 (H'.out.below hb1) (by unfold maxLen; omega)).mono ?_
    rintro e w2 ⟨⟨hy, rfl⟩ | rfl | rfl, hb2⟩
    all_goals try (have HY := Lib.hid hy; clear hy)
    all_goals
      go_wp2_with fail
      go_ret
      exact ⟨rfl, hb1.trans (hb2.mono hb1.size)⟩
end Go.Proofs.Ytcbifknjoijlkaa.twoTimes
