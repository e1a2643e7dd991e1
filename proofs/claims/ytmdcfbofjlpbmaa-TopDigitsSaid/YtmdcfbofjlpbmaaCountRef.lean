/- What the references' OrdersCheck, CountCheck and HaveCheck compute. Conditions: as each theorem states. -/
import Derived.Test.YtmdcfbofjlpbmaaCountFns
namespace Go.Proofs.Ytmdcfbofjlpbmaa
open Go.ChangeShapes Go.WideShapes Go.ChangeAt Go.RowKit
set_option linter.unusedVariables false
theorem rd1 (W : World) (N : Nat) (hN : W.heap.size = N) (v : Value) (e : TypeId) : Rd (W.alloc (.cells #[v] e)) (some ⟨N, 0, none⟩) 1 (fun _ => v) := by subst hN; exact Rd.one W v e
theorem ins1 {N x : Int} (h : 0 ≤ x ∧ x < N) : insB N 1 (fun _ => x) = true := insB_iff.2 fun _ _ => h
theorem ins1_no {N x : Int} (h : ¬ (0 ≤ x ∧ x < N)) : insB N 1 (fun _ => x) = false := insB_no (k := 0) (by omega) h
set_option maxRecDepth 100000 in
set_option maxHeartbeats 1000000 in
theorem ordersCheck_any (cs : Int) (A : Option Addr) (n c : Nat) (F : Nat → Int) (w : World) (h : Rd w A (n * 4) (fun q => .int .i64 (F q))) (hn : n ≤ 1000000000) :
    Calls Try.prog 9 #[.int .i64 cs, .slice A n c] w fun e w' => e = .returned (.int .i64 (fstE (oE cs n F) n)) ∧ Below w.heap.size w w' := by
  have H := Lib.hid h
  have hw : IntKind.i64.wrap ((n : Int) + 1) = n + 1 := IntWalk.i64_in _ (by omega)
  clear h
  go_enter Try.func9, Try.ntmps9
  go_wp2_with fail
  go_loopw [9] (fun i wr => ∃ k : Nat, k ≤ n ∧ i = .int .i64 k ∧ fstE (oE cs n F) k = 0 ∧ Below w.heap.size w wr) (fun i _ => n - (intOf i).toNat)
  case atStart => exact ⟨0, Nat.zero_le _, rfl, rfl, Below.refl _ _⟩
  case round =>
    obtain ⟨wo, rfl⟩ : ∃ wo : World, wo = wr := ⟨_, rfl⟩
    obtain ⟨k, hk, rfl, hall0, hbel⟩ := hrel
    have hall := Lib.hid hall0
    clear hall0
    by_cases hlt : k < n
    · obtain ⟨b, off, rfl, hb, f0, f1, f2, f3⟩ := (H.out.below hbel).at4 hlt
      have he : oE cs n F k = if F (4 * k) ≠ 1 ∧ F (4 * k) ≠ 2 then 6 else if F (4 * k + 1) < 0 ∨ cs ≤ F (4 * k + 1) then 2 else
        if ¬ (0 ≤ F (4 * k + 2) ∧ F (4 * k + 2) ≤ n) ∨ F (4 * k) = 2 ∧ ¬ (0 ≤ F (4 * k + 3) ∧ F (4 * k + 3) ≤ n) then 3 else 0 := rfl
      obtain ⟨x0, h0⟩ : ∃ x, x = F (4 * k) := ⟨_, rfl⟩
      obtain ⟨x1, h1⟩ : ∃ x, x = F (4 * k + 1) := ⟨_, rfl⟩
      obtain ⟨x2, h2⟩ : ∃ x, x = F (4 * k + 2) := ⟨_, rfl⟩
      obtain ⟨x3, h3⟩ : ∃ x, x = F (4 * k + 3) := ⟨_, rfl⟩
      rw [← h0, ← h1, ← h2, ← h3] at he
      rw [← h0] at f0
      rw [← h1] at f1
      rw [← h2] at f2
      rw [← h3] at f3
      have HE := Lib.hid he
      have stop : ∀ x, x ≠ 0 → oE cs n F k = x → fstE (oE cs n F) n = x := fun x g0 g1 => fstE_stop hall.out g1 g0 n hlt
      have ST := Lib.hid stop
      have hb2 := hbel.alloc hbel.size (.cells #[.int .i64 x0, .int .i64 x1, .int .i64 x2, .int .i64 x3] 28)
      have hb3 := fun x => hb2.alloc hb2.size (.cells #[.int .i64 x] 3)
      have hb4 := fun x y => (hb3 x).alloc (hb3 x).size (.cells #[.int .i64 y] 3)
      have hb5 := fun x y z => (hb4 x y).alloc (hb4 x y).size (.cells #[.int .i64 z] 3)
      have HB3 := Lib.hid hb3
      have HB4 := Lib.hid hb4
      have HB5 := Lib.hid hb5
      clear he stop h0 h1 h2 h3 hb3 hb4 hb5
      by_cases g1 : x0 = 1 ∨ x0 = 2
      · by_cases g2 : 0 ≤ x1 ∧ x1 < cs
        · have r1 := ins1 g2
          by_cases g3 : 0 ≤ x2 ∧ x2 < (n : Int) + 1
          · have r2 := ins1 g3
            rcases g1 with g1 | g1
            · subst g1
              have hs := fstE_next hall.out (show oE cs n F k = 0 by rw [HE.out, if_neg (by omega), if_neg (by omega), if_neg (by omega)])
              have HS := Lib.hid hs
              clear hs g2 g3
              go_wp2_with (go_at_call 21; refine (inside_any _ _ 1 1 _ _ (rd1 _ _ (by simp) _ _) (by decide)).mono ?_; rintro e w' ⟨rfl, rfl⟩)
              go_roundw
              case rel => exact ⟨k + 1, by omega, by go_num, HS.out, HB4.out _ _⟩
              case measure => simp [intOf]; omega
            · subst g1
              by_cases g4 : 0 ≤ x3 ∧ x3 < (n : Int) + 1
              · have r3 := ins1 g4
                have hs := fstE_next hall.out (show oE cs n F k = 0 by rw [HE.out, if_neg (by omega), if_neg (by omega), if_neg (by omega)])
                have HS := Lib.hid hs
                clear hs g2 g3 g4
                go_wp2_with (go_at_call 21; refine (inside_any _ _ 1 1 _ _ (rd1 _ _ (by simp) _ _) (by decide)).mono ?_; rintro e w' ⟨rfl, rfl⟩)
                go_roundw
                case rel => exact ⟨k + 1, by omega, by go_num, HS.out, HB5.out _ _ _⟩
                case measure => simp [intOf]; omega
              · have r3 := ins1_no g4
                have hs := ST.out 3 (by decide) (by rw [HE.out, if_neg (by omega), if_neg (by omega), if_pos (.inr ⟨rfl, by omega⟩)])
                have HS := Lib.hid hs
                clear hs g2 g3 g4
                go_wp2_with (go_at_call 21; refine (inside_any _ _ 1 1 _ _ (rd1 _ _ (by simp) _ _) (by decide)).mono ?_; rintro e w' ⟨rfl, rfl⟩)
                go_ret
                exact ⟨ret_int HS.out.symm, HB5.out _ _ _⟩
          · have r2 := ins1_no g3
            rcases g1 with g1 | g1
            · subst g1
              have hs := ST.out 3 (by decide) (by rw [HE.out, if_neg (by omega), if_neg (by omega), if_pos (.inl (by omega))])
              have HS := Lib.hid hs
              clear hs g2 g3
              go_wp2_with (go_at_call 21; refine (inside_any _ _ 1 1 _ _ (rd1 _ _ (by simp) _ _) (by decide)).mono ?_; rintro e w' ⟨rfl, rfl⟩)
              go_ret
              exact ⟨ret_int HS.out.symm, HB4.out _ _⟩
            · subst g1
              have hs := ST.out 3 (by decide) (by rw [HE.out, if_neg (by omega), if_neg (by omega), if_pos (.inl (by omega))])
              have HS := Lib.hid hs
              clear hs g2 g3
              go_wp2_with (go_at_call 21; refine (inside_any _ _ 1 1 _ _ (rd1 _ _ (by simp) _ _) (by decide)).mono ?_; rintro e w' ⟨rfl, rfl⟩)
              go_ret
              exact ⟨ret_int HS.out.symm, HB4.out _ _⟩
        · have r1 := ins1_no g2
          rcases g1 with g1 | g1
          · subst g1
            have hs := ST.out 2 (by decide) (by rw [HE.out, if_neg (by omega), if_pos (by omega)])
            have HS := Lib.hid hs
            clear hs g2
            go_wp2_with (go_at_call 21; refine (inside_any _ _ 1 1 _ _ (rd1 _ _ (by simp) _ _) (by decide)).mono ?_; rintro e w' ⟨rfl, rfl⟩)
            go_ret
            exact ⟨ret_int HS.out.symm, HB3.out _⟩
          · subst g1
            have hs := ST.out 2 (by decide) (by rw [HE.out, if_neg (by omega), if_pos (by omega)])
            have HS := Lib.hid hs
            clear hs g2
            go_wp2_with (go_at_call 21; refine (inside_any _ _ 1 1 _ _ (rd1 _ _ (by simp) _ _) (by decide)).mono ?_; rintro e w' ⟨rfl, rfl⟩)
            go_ret
            exact ⟨ret_int HS.out.symm, HB3.out _⟩
      · have d1 : (x0 != 1) = true := by rw [bne_iff_ne]; omega
        have d2 : (x0 != 2) = true := by rw [bne_iff_ne]; omega
        have hs := ST.out 6 (by decide) (by rw [HE.out, if_pos (by omega)])
        have HS := Lib.hid hs
        clear hs g1
        go_wp2_with (go_at_call 21; refine (inside_any _ _ 1 1 _ _ (rd1 _ _ (by simp) _ _) (by decide)).mono ?_; rintro e w' ⟨rfl, rfl⟩)
        go_ret
        exact ⟨ret_int HS.out.symm, hb2⟩
    · obtain rfl : k = n := by omega
      go_wp2_with fail
      go_ret
      exact ⟨ret_int hall.out.symm, hbel⟩
def rgE (f : Nat → Int) (i : Nat) : Int := if 0 ≤ f i ∧ f i ≤ 20 then 0 else 4
def haE (cs : Int) (m : Nat) (t : Int) (f : Nat → Int) : Int := if (m : Int) = cs then (if fstE (rgE f) m = 0 then (if 0 ≤ t ∧ t ≤ 400 then 0 else 7) else 4) else 3
theorem rgE_any {f : Nat → Int} {m : Nat} : fstE (rgE f) m = 0 ∨ fstE (rgE f) m = 4 := by
  induction m with
  | zero => exact .inl rfl
  | succ m ih =>
    have e : fstE (rgE f) (m + 1) = if fstE (rgE f) m = 0 then rgE f m else fstE (rgE f) m := rfl
    rw [e]
    by_cases h : fstE (rgE f) m = 0
    · rw [if_pos h]; unfold rgE; split
      · exact .inl rfl
      · exact .inr rfl
    · rw [if_neg h]; exact ih
end Go.Proofs.Ytmdcfbofjlpbmaa
