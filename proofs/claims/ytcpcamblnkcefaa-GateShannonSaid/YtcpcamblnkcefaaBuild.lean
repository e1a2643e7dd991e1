/- What gate.Build makes: a circuit with the values of the table. Conditions: the table reads as told. -/
import Derived.Test.YtcpcamblnkcefaaTable
import Derived.Test.YtcpcamblnkcefaaTurn
namespace Go.Proofs.Ytcpcamblnkcefaa
open Go.ChangeShapes Go.WideShapes Go.ChangeAt Go.RowKit Go.Maps
set_option linter.unusedVariables false
theorem w64B {x : Nat} (h : x ≤ 1000000) : wrap64 (x : Int) = (x : Int) := IntWalk.wrap64_in _ (by omega)
def BuildR (inn : Int) (L : Nat) (tb : Nat → Bool) (w : World) (e : Ending) (w' : World) : Prop :=
  ∃ (A' : Option Addr) (m c' : Nat) (F' : Nat → Int) (x : Int), e = .returned (.tuple #[.slice A' m c', .int .i64 x]) ∧ Below w.heap.size w w' ∧
    ((x ≠ 0 ∧ m = 0) ∨ (x = 0 ∧ 1 ≤ inn ∧ inn ≤ 5 ∧ L = 2 ^ inn.toNat ∧ Rd w' A' (m * 3) (fun q => .int .i64 (F' q)) ∧ 1 ≤ m ∧ m ≤ 300 ∧ GW inn F' m ∧ ∀ h, val F' h (m - 1) = tb (wd h inn.toNat)))
set_option maxRecDepth 100000 in
set_option maxHeartbeats 1000000 in
theorem build_any (inn : Int) (TA : Option Addr) (L tc : Nat) (tb : Nat → Bool) (w : World) (wn : (Lit.int .i64 inn).wf = true) (h : Rd w TA L (fun i => .bool (tb i))) (hL : L ≤ tc) (ht : tc ≤ maxLen) :
    Calls Try.prog 10 #[.int .i64 inn, .slice TA L tc] w (BuildR inn L tb w) := by
  have hi63 : -9223372036854775808 ≤ inn ∧ inn ≤ 9223372036854775807 := by
    have := wn
    simp [Lit.wf, IntKind.min, IntKind.max, IntKind.signed, IntKind.bits] at this; omega
  have hLm : L ≤ maxLen := by omega
  have H := Lib.hid h
  have HT := Lib.hid ht
  unfold maxLen at hLm
  clear h ht wn
  by_cases h1 : inn < 1
  · go_enter Try.func10, Try.ntmps10
    go_wp2_with fail
    refine bodyPost_ret (v := .tuple #[.slice none 0 0, .int .i64 1]) (by simp [results, Try.results10, go_sem]) rfl ?_
    exact ⟨none, 0, 0, fun _ => 0, 1, rfl, Below.refl _ _, .inl ⟨by decide, rfl⟩⟩
  · by_cases h5 : 5 < inn
    · go_enter Try.func10, Try.ntmps10
      go_wp2_with fail
      refine bodyPost_ret (v := .tuple #[.slice none 0 0, .int .i64 1]) (by simp [results, Try.results10, go_sem]) rfl ?_
      exact ⟨none, 0, 0, fun _ => 0, 1, rfl, Below.refl _ _, .inl ⟨by decide, rfl⟩⟩
    · obtain ⟨N, rfl⟩ : ∃ N : Nat, inn = (N : Int) := ⟨inn.toNat, by omega⟩
      obtain ⟨P, hP⟩ : ∃ P : Nat, P = 2 ^ N := ⟨_, rfl⟩
      have hP32 : 2 ≤ P ∧ P ≤ 32 := by
        rw [hP]
        have : N = 1 ∨ N = 2 ∨ N = 3 ∨ N = 4 ∨ N = 5 := by omega
        rcases this with rfl | rfl | rfl | rfl | rfl <;> decide
      have hpi : (2 : Int) ^ N = (P : Int) := by rw [hP]; push_cast; rfl
      have HW64 : Hid (wrap64 ((2 : Int) ^ N) = (P : Int)) := Lib.hid (by rw [hpi]; exact w64B (by omega))
      have HP := Lib.hid hP
      clear hpi hP
      by_cases hl : L = P
      · have q1 : ((L : Int) != wrap64 ((2 : Int) ^ N)) = false := by rw [HW64.out, hl]; exact bne_self_eq_false _
        have HLP := Lib.hid hl
        clear hl
        have hm0 : MS (N : Int) w (w.alloc (.cells #[.slice none 0 0, .map none] 43)) 43 2 w.heap.size 0 (fun _ => 0) none 0 none (fun j => if j = 0 then .slice none 0 0 else .map none) :=
          ⟨⟨World.rowIs_alloc w #[.slice none 0 0, .map none] 43 _ (fun i hi => by
            have : i = 0 ∨ i = 1 := by simp at hi; omega
            rcases this with rfl | rfl <;> rfl), Nat.le_refl _, by decide, Nat.le_refl _, rfl, rfl, Own.nil _ _ _ _ _, fun b e => by cases e⟩, fun i hi => absurd hi (Nat.not_lt_zero _), (Below.refl _ _).alloc (Nat.le_refl _) _⟩
        have HM0 := Lib.hid hm0
        have hL32 : L ≤ 32 := by have := HLP.out; omega
        clear hm0
        go_enter Try.func10, Try.ntmps10
        go_wp2_with fail
        refine (table_any (by omega) N _ 0 _ none 0 none _ TA L tc tb (Int.le_refl _) (by omega) (by rw [HLP.out]; exact HP.out) hL HT.out H.out HM0.out (by omega)).mono ?_
        rintro e w2 ⟨i, n', F', A', c', M', R', rfl, q2, q3, q4, q5, q6, q7, q8⟩
        have HV := Lib.hid q8
        have hS := Lib.hid q6
        have hn' : n' ≤ 256 := by omega
        clear q5 q7 q8
        obtain ⟨g, R0, rfl, hgb, hrow, hmc, _⟩ := (show Own w2 w.heap.size 28 3 A' n' c' (n' * 3) _ from q6.mm.own).rowSG (by omega)
        have hcm := q6.mm.own.le.2
        have c0 : w2.cell? ⟨w.heap.size, 0, none⟩ = some (.slice (some ⟨g, 0, none⟩) n' c') := by rw [q6.mm.row.cell (by omega), q6.mm.r0]
        have hrd := q6.mm.own.rd.le (m := (i + 1) * 3) (by omega)
        have hcl := cloneG_any (some ⟨g, 0, none⟩) (i + 1) c' F' w2 hrd (by omega)
        have HCL := Lib.hid hcl
        unfold maxLen at hcm
        clear hcl hrd hrow q6
        go_wp2_with fail
        refine HCL.out.mono ?_
        rintro e w5 ⟨A5, c5, rfl, hown5, hb5⟩
        go_wp2_with fail
        refine bodyPost_ret (v := .tuple #[.slice A5 (i + 1) c5, .int .i64 0]) (by simp [results, Try.results10, go_sem]) rfl ?_
        refine ⟨A5, i + 1, c5, F', 0, rfl, hS.out.bel.trans (hb5.mono hS.out.bel.size), .inr ⟨rfl, by omega, by omega, ?_, hown5.rd, by omega, by omega, fun j hj => hS.out.gw j (by omega), fun h => ?_⟩⟩
        · rw [Int.toNat_natCast, HLP.out]; exact HP.out
        · rw [Nat.add_sub_cancel, Int.toNat_natCast]; exact HV.out h
      · have q1 : ((L : Int) != wrap64 ((2 : Int) ^ N)) = true := by rw [HW64.out, bne_iff_ne]; omega
        clear hl
        go_enter Try.func10, Try.ntmps10
        go_wp2_with fail
        refine bodyPost_ret (v := .tuple #[.slice none 0 0, .int .i64 3]) (by simp [results, Try.results10, go_sem]) rfl ?_
        exact ⟨none, 0, 0, fun _ => 0, 3, rfl, Below.refl _ _, .inl ⟨by decide, rfl⟩⟩
end Go.Proofs.Ytcpcamblnkcefaa
