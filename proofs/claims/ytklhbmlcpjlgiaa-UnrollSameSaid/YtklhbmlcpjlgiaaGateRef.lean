/- What the references' GatesCheck and GateCheck say. Conditions: the gates read as told. -/
import Derived.Test.YtklhbmlcpjlgiaaGateValue
import Derived.Test.YtklhbmlcpjlgiaaInside
import Derived.Test.YtklhbmlcpjlgiaaApp
namespace Go.Proofs.Ytklhbmlcpjlgiaa
open Go.ChangeShapes Go.WideShapes Go.ChangeAt Go.RowKit
set_option linter.unusedVariables false
theorem rd1g (W : World) (N : Nat) (hN : W.heap.size = N) (v : Value) (e : TypeId) : Rd (W.alloc (.cells #[v] e)) (some ⟨N, 0, none⟩) 1 (fun _ => v) := by subst hN; exact Rd.one W v e
theorem ins1g {N x : Int} (h : 0 ≤ x ∧ x < N) : insB N 1 (fun _ => x) = true := insB_iff.2 fun _ _ => h
theorem ins1g_no {N x : Int} (h : ¬ (0 ≤ x ∧ x < N)) : insB N 1 (fun _ => x) = false := insB_no (k := 0) (by omega) h
set_option maxRecDepth 100000 in
set_option maxHeartbeats 1000000 in
theorem gatesCheck_any (inn : Int) (A : Option Addr) (n c : Nat) (F : Nat → Int) (w : World) (h : Rd w A (n * 3) (fun q => .int .i64 (F q))) (hn : n ≤ maxLen) :
    Calls Try.prog 8 #[.int .i64 inn, .slice A n c] w fun e w' => e = .returned (.int .i64 (gw inn F n)) ∧ Below w.heap.size w w' := by
  unfold maxLen at hn
  have H := Lib.hid h
  clear h
  go_enter Try.func8, Try.ntmps8
  go_wp2_with fail
  go_loopw [9] (fun s9 wr => ∃ k : Nat, k ≤ n ∧ s9 = .int .i64 k ∧ Hid (gw inn F k = 0) ∧ Below w.heap.size w wr) (fun s9 _ => n - (intOf s9).toNat)
  case atStart => exact ⟨0, Nat.zero_le _, rfl, Lib.hid rfl, Below.refl _ _⟩
  case round =>
    obtain ⟨wo, rfl⟩ : ∃ wo : World, wo = wr := ⟨_, rfl⟩
    obtain ⟨k, hk, rfl, HA, hbel⟩ := hrel
    by_cases hlt : k < n
    · obtain ⟨b, off, rfl, hc0, hc1, hc2⟩ := (H.out.below hbel).at3 hlt
      have hst : ∀ x, x ≠ 0 → gE inn F k = x → gw inn F n = x := fun x h0 hx => gw_stop h0 (show (if gw inn F k = 0 then gE inn F k else gw inn F k) = x by rw [if_pos HA.out, hx]) n hlt
      have hgo : gE inn F k = 0 → gw inn F (k + 1) = 0 := fun hx => (show (if gw inn F k = 0 then gE inn F k else gw inn F k) = 0 by rw [if_pos HA.out, hx])
      have hge : gE inn F k = (if F (3 * k) < 1 ∨ 4 < F (3 * k) then 6 else if F (3 * k) = 1 ∧ (F (3 * k + 1) < 0 ∨ inn ≤ F (3 * k + 1)) then 4 else if (1 < F (3 * k) ∧ ¬ (0 ≤ F (3 * k + 1) ∧ F (3 * k + 1) < k)) ∨ (2 < F (3 * k) ∧ ¬ (0 ≤ F (3 * k + 2) ∧ F (3 * k + 2) < k)) then 2 else 0) := rfl
      obtain ⟨kd, hkd⟩ : ∃ kd, kd = F (3 * k) := ⟨_, rfl⟩
      obtain ⟨ga, hga⟩ : ∃ ga, ga = F (3 * k + 1) := ⟨_, rfl⟩
      obtain ⟨gb, hgb⟩ : ∃ gb, gb = F (3 * k + 2) := ⟨_, rfl⟩
      rw [← hkd] at hc0 hge
      rw [← hga] at hc1 hge
      rw [← hgb] at hc2 hge
      have HST := Lib.hid hst
      have HGO := Lib.hid hgo
      have HGE := Lib.hid hge
      clear hkd hga hgb hst hgo hge
      have sz := hbel.size
      have hb1 := hbel.alloc sz (.cells #[.int .i64 kd, .int .i64 ga, .int .i64 gb] 59)
      have hb2 := hb1.alloc (by simp; omega) (.cells #[.int .i64 ga] 3)
      have hb3 := hb2.alloc (by simp; omega) (.cells #[.int .i64 gb] 3)
      by_cases h1 : 1 ≤ kd ∧ kd ≤ 4
      · have r1 := inB_yes h1.1 h1.2
        by_cases k1 : kd = 1
        · subst k1
          by_cases h2 : 0 ≤ ga ∧ ga < inn
          · have r2 := ins1g h2
            have hs := HGO.out (by rw [HGE.out, if_neg (by omega), if_neg (by omega), if_neg (by omega)])
            have HSS := Lib.hid hs
            clear hs h1 h2
            go_wp2_with (first
              | (go_at_call 7; refine (within_any _ _ _ _).mono ?_; rintro e w' ⟨rfl, rfl⟩)
              | (go_at_call 20; refine (inside_any _ _ 1 1 _ _ (rd1g _ _ (by simp) _ _) (by decide)).mono ?_; rintro e w' ⟨rfl, rfl⟩))
            go_roundw
            case rel => exact ⟨k + 1, by omega, by go_num, HSS.out, hb2⟩
            case measure => simp [intOf]; omega
          · have r2 := ins1g_no h2
            have hs := HST.out 4 (by decide) (by rw [HGE.out, if_neg (by omega), if_pos (by omega)])
            have HSS := Lib.hid hs
            clear hs h1 h2
            go_wp2_with (first
              | (go_at_call 7; refine (within_any _ _ _ _).mono ?_; rintro e w' ⟨rfl, rfl⟩)
              | (go_at_call 20; refine (inside_any _ _ 1 1 _ _ (rd1g _ _ (by simp) _ _) (by decide)).mono ?_; rintro e w' ⟨rfl, rfl⟩))
            go_ret
            exact ⟨ret_int HSS.out.symm, hb2⟩
        · have q1 : (kd == 1) = false := by rw [beq_eq_false_iff_ne]; exact k1
          have q2 : (kd != 1) = true := by rw [bne_iff_ne]; exact k1
          by_cases h2 : 0 ≤ ga ∧ ga < (k : Int)
          · have r2 := ins1g h2
            by_cases k3 : 3 ≤ kd
            · by_cases h3 : 0 ≤ gb ∧ gb < (k : Int)
              · have r3 := ins1g h3
                have hs := HGO.out (by rw [HGE.out, if_neg (by omega), if_neg (by omega), if_neg (by omega)])
                have HSS := Lib.hid hs
                clear hs h1 h2 h3
                go_wp2_with (first
                  | (go_at_call 7; refine (within_any _ _ _ _).mono ?_; rintro e w' ⟨rfl, rfl⟩)
                  | (go_at_call 20; refine (inside_any _ _ 1 1 _ _ (rd1g _ _ (by simp) _ _) (by decide)).mono ?_; rintro e w' ⟨rfl, rfl⟩))
                go_roundw
                case rel => exact ⟨k + 1, by omega, by go_num, HSS.out, hb3⟩
                case measure => simp [intOf]; omega
              · have r3 := ins1g_no h3
                have hs := HST.out 2 (by decide) (by rw [HGE.out, if_neg (by omega), if_neg (by omega), if_pos (by omega)])
                have HSS := Lib.hid hs
                clear hs h1 h2 h3
                go_wp2_with (first
                  | (go_at_call 7; refine (within_any _ _ _ _).mono ?_; rintro e w' ⟨rfl, rfl⟩)
                  | (go_at_call 20; refine (inside_any _ _ 1 1 _ _ (rd1g _ _ (by simp) _ _) (by decide)).mono ?_; rintro e w' ⟨rfl, rfl⟩))
                go_ret
                exact ⟨ret_int HSS.out.symm, hb3⟩
            · have hs := HGO.out (by rw [HGE.out, if_neg (by omega), if_neg (by omega), if_neg (by omega)])
              have HSS := Lib.hid hs
              clear hs h1 h2
              go_wp2_with (first
                | (go_at_call 7; refine (within_any _ _ _ _).mono ?_; rintro e w' ⟨rfl, rfl⟩)
                | (go_at_call 20; refine (inside_any _ _ 1 1 _ _ (rd1g _ _ (by simp) _ _) (by decide)).mono ?_; rintro e w' ⟨rfl, rfl⟩))
              go_roundw
              case rel => exact ⟨k + 1, by omega, by go_num, HSS.out, hb2⟩
              case measure => simp [intOf]; omega
          · have r2 := ins1g_no h2
            have hs := HST.out 2 (by decide) (by rw [HGE.out, if_neg (by omega), if_neg (by omega), if_pos (by omega)])
            have HSS := Lib.hid hs
            clear hs h1 h2
            go_wp2_with (first
              | (go_at_call 7; refine (within_any _ _ _ _).mono ?_; rintro e w' ⟨rfl, rfl⟩)
              | (go_at_call 20; refine (inside_any _ _ 1 1 _ _ (rd1g _ _ (by simp) _ _) (by decide)).mono ?_; rintro e w' ⟨rfl, rfl⟩))
            go_ret
            exact ⟨ret_int HSS.out.symm, hb2⟩
      · have r1 := inB_no h1
        have hs := HST.out 6 (by decide) (by rw [HGE.out, if_pos (by omega)])
        have HSS := Lib.hid hs
        clear hs h1
        go_wp2_with (go_at_call 7; refine (within_any _ _ _ _).mono ?_; rintro e w' ⟨rfl, rfl⟩)
        go_ret
        exact ⟨ret_int HSS.out.symm, hb1⟩
    · obtain rfl : k = n := by omega
      go_wp2_with fail
      go_ret
      exact ⟨ret_int HA.out.symm, hbel⟩
end Go.Proofs.Ytklhbmlcpjlgiaa
