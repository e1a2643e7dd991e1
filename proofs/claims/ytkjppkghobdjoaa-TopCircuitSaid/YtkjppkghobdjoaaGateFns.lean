/- What gate.Wrong computes. Conditions: as each theorem states. -/
import Derived.Test.YtkjppkghobdjoaaRecs
import Derived.Test.YtkjppkghobdjoaaApp
import Derived.Test.YtkjppkghobdjoaaInside
import Derived.WalkSpells
import Derived.WalkLawsBesides
import Derived.BigQuiet
import Derived.Deep.QuietTactic
import Derived.Deep.RegionLaw
namespace Go.Proofs.Ytkjppkghobdjoaa
open Go.ChangeShapes Go.WideShapes Go.ChangeAt Go.RowKit
set_option linter.unusedVariables false
theorem Rd.at3 {w : World} {A : Option Addr} {n : Nat} {F : Nat → Int} (h : Rd w A (n * 3) (fun q => .int .i64 (F q))) {k : Nat} (hk : k < n) :
    ∃ b off, A = some ⟨b, off, none⟩ ∧ w.cell? ⟨b, off + k * 3, none⟩ = some (.int .i64 (F (3 * k))) ∧ w.cell? ⟨b, off + k * 3 + 1, none⟩ = some (.int .i64 (F (3 * k + 1))) ∧ w.cell? ⟨b, off + k * 3 + 2, none⟩ = some (.int .i64 (F (3 * k + 2))) := by
  obtain ⟨b, off, e, _, hc⟩ := h (by omega)
  have e0 : k * 3 = 3 * k := Nat.mul_comm _ _
  exact ⟨b, off, e, by rw [e0]; exact hc _ (by omega), by rw [e0, Nat.add_assoc]; exact hc _ (by omega), by rw [e0, Nat.add_assoc]; exact hc _ (by omega)⟩
def gE (inn : Int) (F : Nat → Int) (i : Nat) : Int :=
  if F (3 * i) < 1 ∨ 4 < F (3 * i) then 6 else
  if F (3 * i) = 1 ∧ (F (3 * i + 1) < 0 ∨ inn ≤ F (3 * i + 1)) then 4 else
  if (1 < F (3 * i) ∧ ¬ (0 ≤ F (3 * i + 1) ∧ F (3 * i + 1) < i)) ∨ (2 < F (3 * i) ∧ ¬ (0 ≤ F (3 * i + 2) ∧ F (3 * i + 2) < i)) then 2 else 0
def gw (inn : Int) (F : Nat → Int) : Nat → Int
  | 0 => 0
  | k + 1 => if gw inn F k = 0 then gE inn F k else gw inn F k
theorem gw_stop {inn : Int} {F : Nat → Int} {k : Nat} {x : Int} (h0 : x ≠ 0) (h : gw inn F (k + 1) = x) : ∀ n, k < n → gw inn F n = x := by
  intro n
  induction n with
  | zero => intro h; omega
  | succ n ih =>
    intro hk
    by_cases e : n = k
    · subst e; exact h
    · have := ih (by omega)
      show (if gw inn F n = 0 then _ else _) = x
      rw [if_neg (by rw [this]; exact h0), this]
def inn3 (i : Nat) (x : Int) : Bool := decide (0 ≤ x ∧ x < i)
theorem inn3_yes {i : Nat} {x : Int} (h : 0 ≤ x ∧ x < i) : inn3 i x = true := by simp [inn3, h]
theorem inn3_no {i : Nat} {x : Int} (h : ¬ (0 ≤ x ∧ x < i)) : inn3 i x = false := by simp only [inn3, h, decide_false]
set_option maxRecDepth 100000 in
theorem there_any (x : Int) (i B : Nat) (w : World) (h : w.cell? ⟨B, 0, none⟩ = some (.int .i64 i)) :
    Calls Try.prog 38 #[.int .i64 x, .pointer (some ⟨B, 0, none⟩)] w fun e w' => e = .returned (.bool (inn3 i x)) ∧ w = w' := by
  by_cases h0 : 0 ≤ x
  · by_cases h1 : x < i
    · have hr : inn3 i x = true := by simp [inn3, h0, h1]
      rw [hr]
      go_enter Try.func38, Try.ntmps38
      go_wp2_with fail
      go_ret
      exact ⟨rfl, rfl⟩
    · have hr : inn3 i x = false := by simp [inn3, h1]
      rw [hr]
      go_enter Try.func38, Try.ntmps38
      go_wp2_with fail
      go_ret
      exact ⟨rfl, rfl⟩
  · have hr : inn3 i x = false := by simp [inn3, h0]
    rw [hr]
    go_enter Try.func38, Try.ntmps38
    go_wp2_with fail
    go_ret
    exact ⟨rfl, rfl⟩
set_option maxRecDepth 100000 in
set_option maxHeartbeats 1000000 in
theorem gwrong_any (inn : Int) (A : Option Addr) (n c : Nat) (F : Nat → Int) (w : World) (h : Rd w A (n * 3) (fun q => .int .i64 (F q))) (hn : n ≤ maxLen) :
    Calls Try.prog 28 #[.int .i64 inn, .slice A n c] w fun e w' => e = .returned (.int .i64 (gw inn F n)) ∧ Below w.heap.size w w' := by
  unfold maxLen at hn
  have H := Lib.hid h
  clear h
  go_enter Try.func28, Try.ntmps28
  go_wp2_with fail
  go_loopw [10] (fun i wr => ∃ k : Nat, k ≤ n ∧ i = .int .i64 k ∧ gw inn F k = 0 ∧ Below w.heap.size w wr) (fun i _ => n - (intOf i).toNat)
  case atStart => exact ⟨0, Nat.zero_le _, rfl, rfl, Below.refl _ _⟩
  case round =>
    obtain ⟨wo, rfl⟩ : ∃ wo : World, wo = wr := ⟨_, rfl⟩
    obtain ⟨k, hk, rfl, hall0, hbel⟩ := hrel
    have hall := Lib.hid hall0
    clear hall0
    by_cases hlt : k < n
    · obtain ⟨b, off, rfl, hc1, hc2, hc3⟩ := (H.out.below hbel).at3 hlt
      obtain ⟨kd, hkd⟩ : ∃ x, x = F (3 * k) := ⟨_, rfl⟩
      obtain ⟨ga, hga⟩ : ∃ x, x = F (3 * k + 1) := ⟨_, rfl⟩
      obtain ⟨gb, hgb⟩ : ∃ x, x = F (3 * k + 2) := ⟨_, rfl⟩
      rw [← hkd] at hc1
      rw [← hga] at hc2
      rw [← hgb] at hc3
      have hgw : gw inn F (k + 1) = gE inn F k := by show (if gw inn F k = 0 then gE inn F k else gw inn F k) = _; rw [if_pos hall.out]
      have hge : gE inn F k = if kd < 1 ∨ 4 < kd then 6 else if kd = 1 ∧ (ga < 0 ∨ inn ≤ ga) then 4 else
        if (1 < kd ∧ ¬ (0 ≤ ga ∧ ga < k)) ∨ (2 < kd ∧ ¬ (0 ≤ gb ∧ gb < k)) then 2 else 0 := by rw [hkd, hga, hgb]; rfl
      have hcB : ((wo.alloc (.cells #[.int .i64 k] 3)).alloc (.cells #[.int .i64 kd, .int .i64 ga, .int .i64 gb] 46)).cell? ⟨wo.heap.size, 0, none⟩ = some (.int .i64 k) := by simp [go_sem]
      have hb2 := (hbel.alloc hbel.size (.cells #[.int .i64 k] 3)).alloc (by have := hbel.size; simp; omega) (.cells #[.int .i64 kd, .int .i64 ga, .int .i64 gb] 46)
      have HG := Lib.hid (hgw.trans hge)
      have stop : ∀ x, x ≠ 0 → gw inn F (k + 1) = x → gw inn F n = x := fun x h0 h1 => gw_stop h0 h1 n hlt
      have ST := Lib.hid stop
      clear hkd hga hgb hgw hge stop
      by_cases h1 : kd < 1 ∨ 4 < kd
      · have hs := ST.out 6 (by decide) (by rw [HG.out, if_pos h1])
        have HS := Lib.hid hs
        clear hs
        have hd : (decide (kd < 1) || decide (4 < kd)) = true := by simpa using h1
        clear h1
        go_wp2_with fail
        all_goals go_ret
        all_goals exact ⟨ret_int HS.out.symm, hb2⟩
      · by_cases h2 : kd = 1
        · subst h2
          by_cases h3 : ga < 0 ∨ inn ≤ ga
          · have hs := ST.out 4 (by decide) (by rw [HG.out, if_neg h1, if_pos ⟨rfl, h3⟩])
            have HS := Lib.hid hs
            have hd : (decide (ga < 0) || decide (inn ≤ ga)) = true := by simpa using h3
            clear hs h3
            go_wp2_with fail
            all_goals go_ret
            all_goals exact ⟨ret_int HS.out.symm, hb2⟩
          · have hs : gw inn F (k + 1) = 0 := by rw [HG.out, if_neg h1, if_neg (by simp only [true_and]; exact h3), if_neg (by omega)]
            have HS := Lib.hid hs
            have d1 : 0 ≤ ga := by omega
            have d2 : ga < inn := by omega
            clear hs h3
            go_wp2_with fail
            go_roundw
            case rel => exact ⟨k + 1, by omega, by go_num, HS.out, hb2⟩
            case measure => simp [intOf]; omega
        · have d0 : 2 ≤ kd := by omega
          have d4 : kd ≤ 4 := by omega
          have hne : (kd == 1) = false := by rw [beq_eq_false_iff_ne]; exact h2
          by_cases h3 : 0 ≤ ga ∧ ga < k
          · have r1 := inn3_yes h3
            by_cases h4 : kd = 2
            · subst h4
              have hs : gw inn F (k + 1) = 0 := by rw [HG.out, if_neg h1, if_neg (by omega), if_neg (by omega)]
              have HS := Lib.hid hs
              clear hs h3 h1 h2
              go_wp2_with fail
              refine (there_any ga k wo.heap.size _ hcB).mono ?_
              rintro e w' ⟨rfl, rfl⟩
              go_wp2_with fail
              go_roundw
              case rel => exact ⟨k + 1, by omega, by go_num, HS.out, hb2⟩
              case measure => simp [intOf]; omega
            · have d3 : 3 ≤ kd := by omega
              by_cases h5 : 0 ≤ gb ∧ gb < k
              · have r2 := inn3_yes h5
                have hs : gw inn F (k + 1) = 0 := by rw [HG.out, if_neg h1, if_neg (by omega), if_neg (by omega)]
                have HS := Lib.hid hs
                clear hs h3 h5 h1 h2 h4
                go_wp2_with fail
                refine (there_any ga k wo.heap.size _ hcB).mono ?_
                rintro e w' ⟨rfl, rfl⟩
                go_wp2_with fail
                refine (there_any gb k wo.heap.size _ hcB).mono ?_
                rintro e w' ⟨rfl, rfl⟩
                go_wp2_with fail
                go_roundw
                case rel => exact ⟨k + 1, by omega, by go_num, HS.out, hb2⟩
                case measure => simp [intOf]; omega
              · have r2 := inn3_no h5
                have hs := ST.out 2 (by decide) (by rw [HG.out, if_neg h1, if_neg (by omega), if_pos (.inr ⟨by omega, h5⟩)])
                have HS := Lib.hid hs
                clear hs h3 h5 h1 h2 h4
                go_wp2_with fail
                refine (there_any ga k wo.heap.size _ hcB).mono ?_
                rintro e w' ⟨rfl, rfl⟩
                go_wp2_with fail
                refine (there_any gb k wo.heap.size _ hcB).mono ?_
                rintro e w' ⟨rfl, rfl⟩
                go_wp2_with fail
                go_ret
                exact ⟨ret_int HS.out.symm, hb2⟩
          · have r1 := inn3_no h3
            have hs := ST.out 2 (by decide) (by rw [HG.out, if_neg h1, if_neg (by omega), if_pos (.inl ⟨by omega, h3⟩)])
            have HS := Lib.hid hs
            clear hs h3 h1 h2
            go_wp2_with fail
            refine (there_any ga k wo.heap.size _ hcB).mono ?_
            rintro e w' ⟨rfl, rfl⟩
            go_wp2_with fail
            go_ret
            exact ⟨ret_int HS.out.symm, hb2⟩
    · obtain rfl : k = n := by omega
      go_wp2_with fail
      go_ret
      exact ⟨ret_int hall.out.symm, hbel⟩
end Go.Proofs.Ytkjppkghobdjoaa
