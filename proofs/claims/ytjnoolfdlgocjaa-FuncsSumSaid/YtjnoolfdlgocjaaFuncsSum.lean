/- FuncsSum: the functions made for addition compute the sum, and their rank is 6. No condition. -/
import Derived.Test.YtjnoolfdlgocjaaFsVal
namespace Go.Proofs.Ytjnoolfdlgocjaa.funcsSum
open Go.ChangeShapes Go.WideShapes Go.ChangeAt Go.RowKit
set_option linter.unusedVariables false
set_option linter.unusedSimpArgs false
theorem fl_mk (w : World) : FL ((w.alloc (.cells #[.int .i64 2] 3)).alloc (.cells #[.int .i64 3, .int .i64 1, .int .i64 0, .int .i64 0, .int .i64 0, .slice none 0 0, .int .i64 2, .int .i64 1, .int .i64 0, .int .i64 0, .int .i64 0, .slice none 0 0, .int .i64 3, .int .i64 3, .int .i64 2, .int .i64 0, .int .i64 0, .slice none 0 0, .int .i64 4, .int .i64 3, .int .i64 0, .int .i64 1, .int .i64 0, .slice (some ⟨w.heap.size, 0, none⟩) 1 1, .int .i64 5, .int .i64 2, .int .i64 0, .int .i64 0, .int .i64 3, .slice none 0 0] 29)) (w.heap.size + 1) w.heap.size := by
  have h1 := World.rowIs_alloc (w.alloc (.cells #[.int .i64 2] 3)) #[.int .i64 3, .int .i64 1, .int .i64 0, .int .i64 0, .int .i64 0, .slice none 0 0, .int .i64 2, .int .i64 1, .int .i64 0, .int .i64 0, .int .i64 0, .slice none 0 0, .int .i64 3, .int .i64 3, .int .i64 2, .int .i64 0, .int .i64 0, .slice none 0 0, .int .i64 4, .int .i64 3, .int .i64 0, .int .i64 1, .int .i64 0, .slice (some ⟨w.heap.size, 0, none⟩) 1 1, .int .i64 5, .int .i64 2, .int .i64 0, .int .i64 0, .int .i64 3, .slice none 0 0] 29 (fC w.heap.size) fun i hi => by
    unfold fC
    have hi' : i < 30 := hi
    rw [Array.getD_eq_getD_getElem?]
    have : i < (#[.int .i64 3, .int .i64 1, .int .i64 0, .int .i64 0, .int .i64 0, .slice none 0 0, .int .i64 2, .int .i64 1, .int .i64 0, .int .i64 0, .int .i64 0, .slice none 0 0, .int .i64 3, .int .i64 3, .int .i64 2, .int .i64 0, .int .i64 0, .slice none 0 0, .int .i64 4, .int .i64 3, .int .i64 0, .int .i64 1, .int .i64 0, .slice (some ⟨w.heap.size, 0, none⟩) 1 1, .int .i64 5, .int .i64 2, .int .i64 0, .int .i64 0, .int .i64 3, .slice none 0 0] : Array Value).size := hi
    rw [Array.getElem?_eq_getElem this]
    rfl
  have h2 := World.rowIs_alloc w #[.int .i64 2] 3 (fun _ => .int .i64 2) fun i hi => by
    have : i < 1 := hi
    match i, this with
    | 0, _ => rfl
  have e : (w.alloc (.cells #[.int .i64 2] 3)).heap.size = w.heap.size + 1 := by simp
  rw [e] at h1
  exact ⟨h1, h2.alloc _⟩
set_option maxRecDepth 100000 in
set_option maxHeartbeats 2000000 in
theorem walk (w : World) (a b : Int) (wa : (Lit.int .u8 a).wf = true) (wb : (Lit.int .u8 b).wf = true) :
    Calls Try.prog 4 #[.int .u8 a, .int .u8 b] w fun e w' => e = .returned (.bool true) ∧ Below w.heap.size w w' := by
  have ha : 0 ≤ a ∧ a ≤ 255 := by simp [Lit.wf, IntKind.min, IntKind.max, IntKind.signed, IntKind.bits] at wa; omega
  have hb : 0 ≤ b ∧ b ≤ 255 := by simp [Lit.wf, IntKind.min, IntKind.max, IntKind.signed, IntKind.bits] at wb; omega
  obtain ⟨a0, a1⟩ := ha
  obtain ⟨b0, b1⟩ := hb
  clear wa wb
  obtain ⟨x, hx, hx2⟩ : ∃ x : Nat, a % 21 = (x : Int) ∧ x ≤ 20 := ⟨(a % 21).toNat, by omega, by omega⟩
  obtain ⟨y, hy, hy2⟩ : ∃ y : Nat, b % 21 = (y : Int) ∧ y ≤ 20 := ⟨(b % 21).toNat, by omega, by omega⟩
  go_enter Try.func4, Try.ntmps4
  go_wp2_with fail
  have hfl := fl_mk w
  have hb0 := ((Below.refl w.heap.size w).alloc (Nat.le_refl _) (.cells #[.int .i64 2] 3)).alloc (by simp) (.cells #[.int .i64 3, .int .i64 1, .int .i64 0, .int .i64 0, .int .i64 0, .slice none 0 0, .int .i64 2, .int .i64 1, .int .i64 0, .int .i64 0, .int .i64 0, .slice none 0 0, .int .i64 3, .int .i64 3, .int .i64 2, .int .i64 0, .int .i64 0, .slice none 0 0, .int .i64 4, .int .i64 3, .int .i64 0, .int .i64 1, .int .i64 0, .slice (some ⟨w.heap.size, 0, none⟩) 1 1, .int .i64 5, .int .i64 2, .int .i64 0, .int .i64 0, .int .i64 3, .slice none 0 0] 29)
  obtain ⟨W2, hW2⟩ : ∃ W2, W2 = ((w.alloc (.cells #[.int .i64 2] 3)).alloc (.cells #[.int .i64 3, .int .i64 1, .int .i64 0, .int .i64 0, .int .i64 0, .slice none 0 0, .int .i64 2, .int .i64 1, .int .i64 0, .int .i64 0, .int .i64 0, .slice none 0 0, .int .i64 3, .int .i64 3, .int .i64 2, .int .i64 0, .int .i64 0, .slice none 0 0, .int .i64 4, .int .i64 3, .int .i64 0, .int .i64 1, .int .i64 0, .slice (some ⟨w.heap.size, 0, none⟩) 1 1, .int .i64 5, .int .i64 2, .int .i64 0, .int .i64 0, .int .i64 3, .slice none 0 0] 29)) := ⟨_, rfl⟩
  have hz : W2.heap.size = w.heap.size + 1 + 1 := by rw [hW2]; simp
  rw [← hW2] at hfl hb0
  rw [← hW2]
  have hrd := rd2 W2 (.int .i64 (x : Nat)) (.int .i64 (y : Nat)) 3 (fun q => .int .i64 (if q = 0 then (x : Int) else (y : Int))) rfl rfl
  rw [hz] at hrd
  have HFL := Lib.hid (hfl.below ((Below.refl _ _).alloc (Nat.le_refl _) (.cells #[.int .i64 (x : Nat), .int .i64 (y : Nat)] 3)))
  have HB := Lib.hid (hb0.alloc hb0.size (.cells #[.int .i64 (x : Nat), .int .i64 (y : Nat)] 3))
  have HRD := Lib.hid hrd
  clear hW2 hfl hb0 hrd hz
  refine (value_any _ w.heap.size _ HFL.out _ 2 x y HRD.out hx2 hy2 ⟨by omega, by omega⟩).mono ?_
  rintro e w3 ⟨rfl, hb3⟩
  have HF3 := Lib.hid (HFL.out.below hb3)
  have HB3 := Lib.hid (HB.out.trans (hb3.mono HB.out.size))
  clear hb3
  have wxy : IntKind.i64.wrap ((x : Int) + (y : Int)) = ((x + y : Nat) : Int) := by rw [show (x : Int) + (y : Int) = ((x + y : Nat) : Int) by omega]; exact IntWalk.i64_in _ (by omega)
  go_wp2_with fail
  refine (rank_any _ w.heap.size _ HF3.out).mono ?_
  rintro e w4 ⟨rfl, hb4⟩
  have HB4 := Lib.hid (HB3.out.trans (hb4.mono HB3.out.size))
  clear hb4
  go_wp2_with fail
  go_ret
  exact ⟨rfl, HB4.out⟩
end Go.Proofs.Ytjnoolfdlgocjaa.funcsSum
