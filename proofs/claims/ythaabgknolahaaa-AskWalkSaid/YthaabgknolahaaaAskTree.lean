/- What ask.Tree computes. Conditions: the table reads as a function of its index. -/
import Derived.Test.YthaabgknolahaaaAskPut
namespace Go.Proofs.Ythaabgknolahaaa
open Go.ChangeShapes Go.WideShapes Go.ChangeAt Go.RowKit
set_option linter.unusedVariables false
set_option linter.unusedSimpArgs false
def TreeP (w : World) (n : Nat) (F : Nat → Bool) (e : Ending) (w' : World) : Prop :=
  ∃ (j : Nat) (A' : Option Addr) (c' : Nat) (T : Nat → Qn) (d : Nat), e = .returned (.tuple #[.slice A' j c', .int .i64 0]) ∧ Rd w' A' (j * 3) (akC T) ∧ 1 ≤ j ∧ j ≤ 16 ∧ (∀ q, q < j → (T q).1 < n ∧ -2 ≤ (T q).2.1 ∧ (T q).2.1 < (q : Int) ∧ -2 ≤ (T q).2.2 ∧ (T q).2.2 < (q : Int)) ∧ Tr n F T j ((j : Int) - 1) 0 0 d ∧ (d ≤ (lst n F 0 0).1 ∨ d ≤ 1)
set_option maxRecDepth 100000 in
set_option maxHeartbeats 1000000 in
theorem Tree_any (A : Option Addr) (n c : Nat) (F : Nat → Bool) (w : World) (h : Tb w A n F) (h4 : n ≤ 4) (n1 : 1 ≤ n) :
    Calls Try.prog 12 #[.int .i64 (n : Nat), .slice A (2 ^ n) c] w fun e w' => TreeP w n F e w' ∧ Below w.heap.size w w' := by
  have hp := p16 h4
  have hw := askWrong_any (n : Nat) 0 A (2 ^ n) c w (by unfold maxLen; omega)
  rw [show tabE ((n : Nat) : Int) (2 ^ n) 0 = 0 by unfold tabE; rw [if_pos (by omega), if_pos (by simp), if_pos (by omega)]] at hw
  have HW := Lib.hid hw
  obtain ⟨W1, hW1⟩ : ∃ W, W = w.alloc (.cells #[.int .i64 (n : Nat), .slice A (2 ^ n) c, .slice none 0 0] 46) := ⟨_, rfl⟩
  have hM : Mk W1 w.heap.size n A c 0 none 0 (fun _ => (0, 0, 0)) := by
    rw [hW1]
    exact ⟨World.rowIs_alloc w #[.int .i64 (n : Nat), .slice A (2 ^ n) c, .slice none 0 0] 46 _ fun i hi => by
      have : i < 3 := hi
      match i, this with
      | 0, _ => rfl
      | 1, _ => rfl
      | 2, _ => rfl, Own.nil _ _ _ _ _⟩
  have hb1 : Below w.heap.size w W1 := by rw [hW1]; exact (Below.refl _ _).alloc (Nat.le_refl _) _
  have hput : Calls Try.prog 21 #[.pointer (some ⟨w.heap.size, 0, none⟩), .int .i64 0, .int .i64 0] W1 (PutE w w.heap.size n A c F 0 (fun _ => (0, 0, 0)) 0 0) :=
    put_any w w.heap.size n A c F h4 n1 h (Nat.le_refl _) 16 0 0 (by omega) (by omega) (by omega) 0 none 0 _ W1 (by rw [show popc 0 = 0 from rfl]; simp; omega) hM hb1
  have HP := Lib.hid hput
  have HW1 := Lib.hid hW1
  clear hw h hM hb1 hW1 hput
  go_enter Try.func12, Try.ntmps12
  go_wp2_with fail
  refine HW.out.mono ?_
  rintro e w2 ⟨rfl, rfl⟩
  go_wp2_with fail
  rw [← HW1.out]
  refine HP.out.mono ?_
  rintro e w2 ⟨r, j, A', c', T, d, rfl, hM, hB, _, hj, _, hv, ht, _, _, _, hz⟩
  obtain ⟨hr, hj0, hd⟩ := hz rfl
  rw [show popc 0 = 0 from rfl] at hj
  have hcb : w2.cell? ⟨w.heap.size, 2, none⟩ = some (.slice A' j c') := hM.row.cell (i := 2) (by omega)
  have HOW := Lib.hid hM.own
  have HB := Lib.hid hB
  have HV := Lib.hid hv
  have HT := Lib.hid ht
  have HR := Lib.hid hr
  have HJ := Lib.hid hj
  have HD := Lib.hid hd
  clear hM hB hv ht hr hj hd hz
  go_wp2_with fail
  go_ret2
  exact ⟨⟨j, A', c', T, d, rfl, HOW.out.rd, hj0, by have := HJ.out; simp at this; omega, fun q hq => HV.out q (Nat.zero_le _) hq, by rw [← HR.out]; exact HT.out, HD.out⟩, HB.out⟩
set_option maxRecDepth 100000 in
theorem Tree_zero (A : Option Addr) (c : Nat) (w : World) :
    Calls Try.prog 12 #[.int .i64 0, .slice A 1 c] w fun e w' => e = .returned (.tuple #[.slice none 0 0, .int .i64 0]) ∧ Below w.heap.size w w' := by
  have HW := Lib.hid (askWrong_any 0 0 A 1 c w (by decide))
  go_enter Try.func12, Try.ntmps12
  go_wp2_with fail
  refine HW.out.mono ?_
  rintro e w2 ⟨rfl, rfl⟩
  rw [show tabE 0 1 0 = 0 from rfl]
  obtain ⟨W1, hW1⟩ : ∃ W, W = w.alloc (.cells #[.int .i64 0, .slice A 1 c, .slice none 0 0] 46) := ⟨_, rfl⟩
  have hr1 : W1.rowIs w.heap.size 46 3 (fun q => if q = 0 then .int .i64 0 else if q = 1 then .slice A 1 c else .slice none 0 0) := by
    rw [hW1]
    exact World.rowIs_alloc w #[.int .i64 0, .slice A 1 c, .slice none 0 0] 46 _ fun i hi => by
      have : i < 3 := hi
      match i, this with
      | 0, _ => rfl
      | 1, _ => rfl
      | 2, _ => rfl
  have hcb : (w.alloc (.cells #[.int .i64 0, .slice A 1 c, .slice none 0 0] 46)).cell? ⟨w.heap.size, 2, none⟩ = some (.slice none 0 0) := by rw [← hW1]; exact hr1.cell (i := 2) (by omega)
  clear hr1 hW1
  go_wp2_with fail
  go_ret2
  exact ⟨rfl, (Below.refl _ _).alloc (Nat.le_refl _) _⟩
set_option maxRecDepth 100000 in
theorem Tree_bad (A : Option Addr) (n : Int) (m c : Nat) (w : World) (hm : m ≤ maxLen) (hv : tabE n m 0 ≠ 0) :
    Calls Try.prog 12 #[.int .i64 n, .slice A m c] w fun e w' => e = .returned (.tuple #[.slice none 0 0, .int .i64 (tabE n m 0)]) ∧ w = w' := by
  have hw := askWrong_any n 0 A m c w hm
  obtain ⟨v, hvv⟩ : ∃ v, v = tabE n m 0 := ⟨_, rfl⟩
  rw [← hvv] at hw hv ⊢
  have q : (v != 0) = true := by rw [bne_iff_ne]; exact hv
  have HW := Lib.hid hw
  clear hw hvv hv
  go_enter Try.func12, Try.ntmps12
  go_wp2_with fail
  refine HW.out.mono ?_
  rintro e w2 ⟨rfl, rfl⟩
  go_wp2_with fail
  go_ret2
  exact ⟨rfl, rfl⟩
end Go.Proofs.Ythaabgknolahaaa
