/- Two instructions move the value of one counter to another. No condition. -/
import Derived.Test.YtgfiamdodjcjmaaCountRun
import Derived.Test.YtgfiamdodjcjmaaInts
namespace Go.Proofs.Ytgfiamdodjcjmaa.countMove
open Go.ChangeShapes Go.WideShapes Go.ChangeAt Go.RowKit
set_option linter.unusedVariables false
def mF : Nat → Int
  | 0 => 2
  | 1 => 0
  | 2 => 1
  | 3 => 2
  | 4 => 1
  | 5 => 1
  | 6 => 0
  | _ => 0
def two (x y : Int) : Nat → Int
  | 0 => x
  | 1 => y
  | _ => 0
theorem stA (s : (Nat → Int) × Int) (h : s.2 = 0) : st1 mF 2 s = (if s.1 0 = 0 then s.1 else upd s.1 0 (s.1 0 - 1), if s.1 0 = 0 then 2 else 1) := by
  rw [st1_go (q := 0) h (by omega)]; rfl
theorem stB (s : (Nat → Int) × Int) (h : s.2 = 1) : st1 mF 2 s = (upd s.1 1 (s.1 1 + 1), 0) := by
  rw [st1_go (q := 1) h (by omega)]; rfl
theorem moves (x y : Nat) : ∀ j, j ≤ x → (runS mF 2 (two x y) 0 (2 * j)).2 = 0 ∧ (runS mF 2 (two x y) 0 (2 * j)).1 0 = (x : Int) - j ∧ (runS mF 2 (two x y) 0 (2 * j)).1 1 = (y : Int) + j := by
  intro j
  induction j with
  | zero => intro _; refine ⟨rfl, ?_, ?_⟩ <;> show _ = _ <;> simp [runS, two]
  | succ j ih =>
    intro hj
    obtain ⟨h1, h2, h3⟩ := ih (by omega)
    have e1 : runS mF 2 (two x y) 0 (2 * (j + 1)) = st1 mF 2 (st1 mF 2 (runS mF 2 (two x y) 0 (2 * j))) := rfl
    rw [e1, stA _ h1, if_neg (by omega), if_neg (by omega), stB _ rfl]
    refine ⟨rfl, ?_, ?_⟩
    · simp [upd]; omega
    · simp [upd]; omega
theorem moved (x y : Nat) (hx : x ≤ 20) : (runS mF 2 (two x y) 0 100).2 = 2 ∧ (runS mF 2 (two x y) 0 100).1 0 = 0 ∧ (runS mF 2 (two x y) 0 100).1 1 = (x : Int) + y ∧ runD mF 2 (two x y) 0 100 = 2 * x + 1 := by
  obtain ⟨h1, h2, h3⟩ := moves x y x (Nat.le_refl _)
  have e1 : runS mF 2 (two x y) 0 (2 * x + 1) = st1 mF 2 (runS mF 2 (two x y) 0 (2 * x)) := rfl
  rw [stA _ h1, if_pos (by omega), if_pos (by omega)] at e1
  have hd : runD mF 2 (two x y) 0 (2 * x + 1) = 2 * x + 1 := by
    have e : runD mF 2 (two x y) 0 (2 * x + 1) = if (runS mF 2 (two x y) 0 (2 * x)).2 < (2 : Nat) then runD mF 2 (two x y) 0 (2 * x) + 1 else runD mF 2 (two x y) 0 (2 * x) := rfl
    rw [e, if_pos (by omega), runD_stands (by omega)]
  obtain ⟨g1, g2⟩ := runS_stop (F := mF) (n := 2) (C := two x y) (a := 0) (k := 2 * x + 1) (by rw [e1]; show ¬ ((2 : Int) < (2 : Nat)); omega) 100 (by omega)
  rw [g1, g2, hd, e1]
  exact ⟨rfl, by rw [show (runS mF 2 (two x y) 0 (2 * x)).1 0 = 0 by omega], by rw [h3]; omega, rfl⟩
theorem ok (x y : Nat) (hx : x ≤ 20) (hy : y ≤ 20) : crE 2 2 mF 2 100 (two x y) = 0 := by
  have h1 : ckO 2 2 mF = 0 := by decide
  unfold crE
  rw [if_pos h1]
  unfold haE
  rw [if_pos (by rfl), if_pos (fstE_zero.2 fun i hi => ?_), if_pos (by omega)]
  refine if_pos ?_
  match i, hi with
  | 0, _ => show 0 ≤ (x : Int) ∧ (x : Int) ≤ 20; omega
  | 1, _ => show 0 ≤ (y : Int) ∧ (y : Int) ≤ 20; omega
theorem moved' {X Y : Int} (hX : 0 ≤ X ∧ X ≤ 20) (hY : 0 ≤ Y ∧ Y ≤ 20) : crE 2 2 mF 2 100 (two X Y) = 0 ∧ (runS mF 2 (two X Y) 0 100).2 = 2 ∧ (runS mF 2 (two X Y) 0 100).1 0 = 0 ∧ (runS mF 2 (two X Y) 0 100).1 1 = X + Y ∧ (runD mF 2 (two X Y) 0 100 : Int) = 2 * X + 1 := by
  obtain ⟨x, rfl⟩ := Int.eq_ofNat_of_zero_le hX.1
  obtain ⟨y, rfl⟩ := Int.eq_ofNat_of_zero_le hY.1
  obtain ⟨h1, h2, h3, h4⟩ := moved x y (by omega)
  exact ⟨ok x y (by omega) (by omega), h1, h2, h3, by rw [h4]; omega⟩
theorem rd8 (W : World) (N : Nat) (hN : W.heap.size = N) (e : TypeId) : Rd (W.alloc (.cells #[.int .i64 2, .int .i64 0, .int .i64 1, .int .i64 2, .int .i64 1, .int .i64 1, .int .i64 0, .int .i64 0] e)) (some ⟨N, 0, none⟩) (2 * 4) (fun q => .int .i64 (mF q)) := by
  subst hN
  refine Rd.of_row (World.rowIs_alloc W _ e _ fun i hi => ?_) (Nat.le_refl 8)
  have : i < 8 := hi
  match i, this with
  | 0, _ => rfl
  | 1, _ => rfl
  | 2, _ => rfl
  | 3, _ => rfl
  | 4, _ => rfl
  | 5, _ => rfl
  | 6, _ => rfl
  | 7, _ => rfl
theorem rd2 (W : World) (N : Nat) (hN : W.heap.size = N) (e : TypeId) (x y : Int) : Rd (W.alloc (.cells #[.int .i64 x, .int .i64 y] e)) (some ⟨N, 0, none⟩) 2 (fun q => .int .i64 (two x y q)) := by
  subst hN
  refine Rd.of_row (World.rowIs_alloc W _ e _ fun i hi => ?_) (Nat.le_refl 2)
  have : i < 2 := hi
  match i, this with
  | 0, _ => rfl
  | 1, _ => rfl
set_option maxRecDepth 100000 in
set_option maxHeartbeats 1000000 in
theorem walk (w : World) (a b : Int) (wa : (Lit.int .u8 a).wf = true) (wb : (Lit.int .u8 b).wf = true) :
    Calls Try.prog 4 #[.int .u8 a, .int .u8 b] w fun e w' => e = .returned (.bool true) ∧ Below w.heap.size w w' := by
  have ha : 0 ≤ a ∧ a ≤ 255 := by simp [Lit.wf, IntKind.min, IntKind.max, IntKind.signed, IntKind.bits] at wa; omega
  have hb : 0 ≤ b ∧ b ≤ 255 := by simp [Lit.wf, IntKind.min, IntKind.max, IntKind.signed, IntKind.bits] at wb; omega
  obtain ⟨a0, a1⟩ := ha
  obtain ⟨b0, b1⟩ := hb
  have X0 : 0 ≤ a % 21 ∧ a % 21 ≤ 20 := by omega
  have Y0 : 0 ≤ b % 21 ∧ b % 21 ≤ 20 := by omega
  obtain ⟨m0, m1, m2, m3, m4⟩ := moved' X0 Y0
  obtain ⟨x0, x1⟩ := X0
  obtain ⟨y0, y1⟩ := Y0
  have M0 := Lib.hid m0
  have M2 := Lib.hid m2
  have M3 := Lib.hid m3
  have hq : ((runD mF 2 (two (a % 21) (b % 21)) 0 100 : Int) == 2 * (a % 21) + 1) = true := by rw [m4]; exact beq_self_eq_true _
  clear wa wb m0 m2 m3 m4
  go_enter Try.func4, Try.ntmps4
  go_wp2_with fail
  refine (run_any 2 100 (some ⟨w.heap.size, 0, none⟩) (some ⟨w.heap.size + 1, 0, none⟩) 2 2 2 2 mF (two (a % 21) (b % 21)) _ ((rd8 w _ rfl _).alloc _) (rd2 _ _ (by simp) _ _ _) (by decide) (by decide)).mono ?_
  rintro e w1 ⟨hb1, ⟨hne, rfl⟩ | ⟨hz, A1, c1, rfl, hrd, hmc⟩⟩
  · exact absurd M0.out hne
  · have e100 : Int.toNat 100 = 100 := rfl
    have hB1 := (((Below.refl w.heap.size w).alloc (Nat.le_refl _) (.cells #[.int .i64 2, .int .i64 0, .int .i64 1, .int .i64 2, .int .i64 1, .int .i64 1, .int .i64 0, .int .i64 0] 29)).alloc (by simp) (.cells #[.int .i64 (a % 21), .int .i64 (b % 21)] 3)).trans (hb1.mono (by simp; omega))
    have sz1 := hB1.size
    rw [e100] at hrd
    rw [e100]
    clear hz hb1 e100
    have hsame : sameI 2 2 (fun i => (runS mF 2 (two (a % 21) (b % 21)) 0 100).1 i) (two 0 (a % 21 + b % 21)) = true := sameI_iff.2 ⟨rfl, fun i hi => by
      match i, hi with
      | 0, _ => exact M2.out
      | 1, _ => exact M3.out⟩
    go_wp2_with fail
    refine (ints_any A1 (some ⟨w1.heap.size, 0, none⟩) 2 c1 2 2 _ (two 0 (a % 21 + b % 21)) _ (hrd.alloc _) (rd2 w1 _ rfl _ _ _) (by decide) (by decide)).mono ?_
    rintro e w2 ⟨rfl, hb2⟩
    rw [hsame]
    clear hsame
    go_wp2_with fail
    go_ret
    exact ⟨rfl, (hB1.alloc sz1 _).trans (hb2.mono (by simp; omega))⟩
end Go.Proofs.Ytgfiamdodjcjmaa.countMove
