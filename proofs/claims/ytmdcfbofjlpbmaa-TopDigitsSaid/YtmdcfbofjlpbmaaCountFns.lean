/- What count.Check, count.Turn, count.Run and the references' OrdersCheck, CountCheck and HaveCheck compute. Conditions: as each theorem states. -/
import Derived.Test.YtmdcfbofjlpbmaaRecs
import Derived.Test.YtmdcfbofjlpbmaaFirst
import Derived.Test.YtmdcfbofjlpbmaaInside
import Derived.Test.YtmdcfbofjlpbmaaPred
import Derived.Test.YtmdcfbofjlpbmaaClone
import Derived.Test.YtmdcfbofjlpbmaaRow
import Derived.BigQuiet
import Derived.Deep.QuietTactic
import Derived.Deep.RegionLaw
namespace Go.Proofs.Ytmdcfbofjlpbmaa
open Go.ChangeShapes Go.WideShapes Go.ChangeAt Go.RowKit
set_option linter.unusedVariables false
theorem Rd.at4 {w : World} {A : Option Addr} {n : Nat} {F : Nat → Int} (h : Rd w A (n * 4) (fun q => .int .i64 (F q))) {k : Nat} (hk : k < n) :
    ∃ b off, A = some ⟨b, off, none⟩ ∧ b < w.heap.size ∧ w.cell? ⟨b, off + k * 4, none⟩ = some (.int .i64 (F (4 * k))) ∧ w.cell? ⟨b, off + k * 4 + 1, none⟩ = some (.int .i64 (F (4 * k + 1))) ∧ w.cell? ⟨b, off + k * 4 + 2, none⟩ = some (.int .i64 (F (4 * k + 2))) ∧ w.cell? ⟨b, off + k * 4 + 3, none⟩ = some (.int .i64 (F (4 * k + 3))) := by
  obtain ⟨b, off, e, hb, hc⟩ := h (by omega)
  have e0 : k * 4 = 4 * k := Nat.mul_comm _ _
  have at_ : ∀ j, j < 4 → w.cell? ⟨b, off + k * 4 + j, none⟩ = some (.int .i64 (F (4 * k + j))) := fun j hj => by
    rw [e0, Nat.add_assoc]; exact hc _ (by omega)
  exact ⟨b, off, e, hb, at_ 0 (by omega), at_ 1 (by omega), at_ 2 (by omega), at_ 3 (by omega)⟩
/-- what is wrong with order k of n -/
def oE (cs : Int) (n : Nat) (F : Nat → Int) (k : Nat) : Int :=
  if F (4 * k) ≠ 1 ∧ F (4 * k) ≠ 2 then 6 else if F (4 * k + 1) < 0 ∨ cs ≤ F (4 * k + 1) then 2 else
  if ¬ (0 ≤ F (4 * k + 2) ∧ F (4 * k + 2) ≤ n) ∨ F (4 * k) = 2 ∧ ¬ (0 ≤ F (4 * k + 3) ∧ F (4 * k + 3) ≤ n) then 3 else 0
def ckO (cs : Int) (n : Nat) (F : Nat → Int) : Int := if cs < 1 ∨ 4 < cs ∨ n < 1 ∨ 12 < n then 1 else fstE (oE cs n F) n
/-- is there such an order, or the end -/
def thB (n : Nat) (x : Int) : Bool := decide (0 ≤ x ∧ x ≤ n)
theorem thB_yes {n : Nat} {x : Int} (h : 0 ≤ x ∧ x ≤ n) : thB n x = true := decide_eq_true h
theorem thB_no {n : Nat} {x : Int} (h : ¬ (0 ≤ x ∧ x ≤ n)) : thB n x = false := decide_eq_false h
set_option maxRecDepth 100000 in
theorem there_any (x : Int) (n c B : Nat) (A : Option Addr) (w : World) (h : w.cell? ⟨B, 0, none⟩ = some (.slice A n c)) (hn : n ≤ maxLen) :
    Calls Try.prog 22 #[.int .i64 x, .pointer (some ⟨B, 0, none⟩)] w fun e w' => e = .returned (.bool (thB n x)) ∧ w = w' := by
  unfold maxLen at hn
  by_cases h0 : 0 ≤ x
  · by_cases h1 : x ≤ n
    · rw [thB_yes ⟨h0, h1⟩]
      go_enter Try.func22, Try.ntmps22
      go_wp2_with fail
      go_ret
      exact ⟨rfl, rfl⟩
    · rw [thB_no (by omega)]
      go_enter Try.func22, Try.ntmps22
      go_wp2_with fail
      go_ret
      exact ⟨rfl, rfl⟩
  · rw [thB_no (by omega)]
    go_enter Try.func22, Try.ntmps22
    go_wp2_with fail
    go_ret
    exact ⟨rfl, rfl⟩
set_option maxRecDepth 100000 in
set_option maxHeartbeats 1000000 in
theorem check_any (cs : Int) (A : Option Addr) (n c : Nat) (F : Nat → Int) (w : World) (h : Rd w A (n * 4) (fun q => .int .i64 (F q))) (hn : n ≤ maxLen) :
    Calls Try.prog 12 #[.int .i64 cs, .slice A n c] w fun e w' => e = .returned (.int .i64 (ckO cs n F)) ∧ Below w.heap.size w w' := by
  have HN := Lib.hid hn
  unfold maxLen at hn
  have H := Lib.hid h
  clear h
  by_cases hl : cs < 1 ∨ 4 < cs ∨ n < 1 ∨ 12 < n
  · have er : ckO cs n F = 1 := if_pos hl
    rw [er]
    clear er
    by_cases h1 : cs < 1
    · go_enter Try.func12, Try.ntmps12
      go_wp2_with fail
      go_ret
      exact ⟨rfl, (Below.refl _ _).alloc (Nat.le_refl _) _⟩
    · by_cases h2 : 4 < cs
      · go_enter Try.func12, Try.ntmps12
        go_wp2_with fail
        go_ret
        exact ⟨rfl, (Below.refl _ _).alloc (Nat.le_refl _) _⟩
      · by_cases h3 : n < 1
        · go_enter Try.func12, Try.ntmps12
          go_wp2_with fail
          go_ret
          exact ⟨rfl, (Below.refl _ _).alloc (Nat.le_refl _) _⟩
        · have h4 : 12 < n := by omega
          go_enter Try.func12, Try.ntmps12
          go_wp2_with fail
          go_ret
          exact ⟨rfl, (Below.refl _ _).alloc (Nat.le_refl _) _⟩
  · have er : ckO cs n F = fstE (oE cs n F) n := if_neg hl
    rw [er]
    clear er
    have c1 : 1 ≤ cs := by omega
    have c4 : cs ≤ 4 := by omega
    have n1 : 1 ≤ n := by omega
    have n12 : n ≤ 12 := by omega
    clear hl hn
    go_enter Try.func12, Try.ntmps12
    go_wp2_with fail
    go_loopw [27] (fun i wr => ∃ k : Nat, k ≤ n ∧ i = .int .i64 k ∧ fstE (oE cs n F) k = 0 ∧ wr.cell? ⟨w.heap.size, 0, none⟩ = some (.slice A n c) ∧ Below w.heap.size w wr ∧ w.heap.size < wr.heap.size) (fun i _ => n - (intOf i).toNat)
    case atStart => exact ⟨0, Nat.zero_le _, rfl, rfl, by simp [go_sem], (Below.refl _ _).alloc (Nat.le_refl _) _, by simp⟩
    case round =>
      obtain ⟨wo, rfl⟩ : ∃ wo : World, wo = wr := ⟨_, rfl⟩
      obtain ⟨k, hk, rfl, hall0, hcl, hbel, hsz⟩ := hrel
      have hall := Lib.hid hall0
      clear hall0
      by_cases hlt : k < n
      · obtain ⟨b, off, rfl, hb, f0, f1, f2, f3⟩ := (H.out.below hbel).at4 hlt
        have he : oE cs n F k = if F (4 * k) ≠ 1 ∧ F (4 * k) ≠ 2 then 6 else if F (4 * k + 1) < 0 ∨ cs ≤ F (4 * k + 1) then 2 else
          if ¬ (0 ≤ F (4 * k + 2) ∧ F (4 * k + 2) ≤ n) ∨ F (4 * k) = 2 ∧ ¬ (0 ≤ F (4 * k + 3) ∧ F (4 * k + 3) ≤ n) then 3 else 0 := rfl
        obtain ⟨x0, h0⟩ : ∃ x, x = F (4 * k) := ⟨_, rfl⟩
        obtain ⟨x1, h1⟩ : ∃ x, x = F (4 * k + 1) := ⟨_, rfl⟩
        obtain ⟨x2, h2⟩ : ∃ x, x = F (4 * k + 2) := ⟨_, rfl⟩
        obtain ⟨x3, h3⟩ : ∃ x, x = F (4 * k + 3) := ⟨_, rfl⟩
        rw [← h0, ← h1, ← h2, ← h3] at he
        rw [← h0] at f0
        rw [← h1] at f1
        rw [← h2] at f2
        rw [← h3] at f3
        have HE := Lib.hid he
        have stop : ∀ x, x ≠ 0 → oE cs n F k = x → fstE (oE cs n F) n = x := fun x g0 g1 => fstE_stop hall.out g1 g0 n hlt
        have ST := Lib.hid stop
        have hb2 := hbel.alloc hbel.size (.cells #[.int .i64 x0, .int .i64 x1, .int .i64 x2, .int .i64 x3] 28)
        have hcl2 : ∀ W, W = wo.alloc (.cells #[.int .i64 x0, .int .i64 x1, .int .i64 x2, .int .i64 x3] 28) → W.cell? ⟨w.heap.size, 0, none⟩ = some (.slice (some ⟨b, off, none⟩) n c) := fun W e => by
          subst e; rw [World.cell?_alloc_lt _ _ _ hsz]; exact hcl
        have HCL := Lib.hid hcl2
        clear he stop h0 h1 h2 h3 hcl2
        by_cases g1 : x0 = 1
        · subst g1
          by_cases g1 : x1 < 0 ∨ cs ≤ x1
          · have d1 : (decide (x1 < 0) || decide (cs ≤ x1)) = true := by simpa using g1
            by_cases g2 : x1 < 0
            · have g3 : True := trivial
              have hs := ST.out 2 (by decide) (by rw [HE.out, if_neg (by omega), if_pos g1])
              have HS := Lib.hid hs
              clear hs g1
              go_wp2_with fail
              go_ret
              exact ⟨ret_int HS.out.symm, hb2⟩
            · have g3 : cs ≤ x1 := by omega
              have hs := ST.out 2 (by decide) (by rw [HE.out, if_neg (by omega), if_pos g1])
              have HS := Lib.hid hs
              clear hs g1
              go_wp2_with fail
              go_ret
              exact ⟨ret_int HS.out.symm, hb2⟩
          · have g2 : 0 ≤ x1 := by omega
            have g3 : x1 < cs := by omega
            by_cases g4 : 0 ≤ x2 ∧ x2 ≤ n
            · have r1 := thB_yes g4
              have hs := fstE_next hall.out (show oE cs n F k = 0 by rw [HE.out, if_neg (by omega), if_neg (by omega), if_neg (by omega)])
              have HS := Lib.hid hs
              clear hs g1 g4
              go_wp2_with fail
              refine (there_any x2 n c w.heap.size (some ⟨b, off, none⟩) _ (HCL.out _ rfl) HN.out).mono ?_
              rintro e w' ⟨rfl, rfl⟩
              go_wp2_with fail
              go_roundw
              case rel => exact ⟨k + 1, by omega, by go_num, HS.out, HCL.out _ rfl, hb2, by simp; omega⟩
              case measure => simp [intOf]; omega
            · have r1 := thB_no g4
              have hs := ST.out 3 (by decide) (by rw [HE.out, if_neg (by omega), if_neg (by omega), if_pos (.inl g4)])
              have HS := Lib.hid hs
              clear hs g1 g4
              go_wp2_with fail
              refine (there_any x2 n c w.heap.size (some ⟨b, off, none⟩) _ (HCL.out _ rfl) HN.out).mono ?_
              rintro e w' ⟨rfl, rfl⟩
              go_wp2_with fail
              go_ret
              exact ⟨ret_int HS.out.symm, hb2⟩
        · by_cases g2 : x0 = 2
          · subst g2
            by_cases g1 : x1 < 0 ∨ cs ≤ x1
            · have d1 : (decide (x1 < 0) || decide (cs ≤ x1)) = true := by simpa using g1
              by_cases g2 : x1 < 0
              · have g3 : True := trivial
                have hs := ST.out 2 (by decide) (by rw [HE.out, if_neg (by omega), if_pos g1])
                have HS := Lib.hid hs
                clear hs g1
                go_wp2_with fail
                go_ret
                exact ⟨ret_int HS.out.symm, hb2⟩
              · have g3 : cs ≤ x1 := by omega
                have hs := ST.out 2 (by decide) (by rw [HE.out, if_neg (by omega), if_pos g1])
                have HS := Lib.hid hs
                clear hs g1
                go_wp2_with fail
                go_ret
                exact ⟨ret_int HS.out.symm, hb2⟩
            · have g2 : 0 ≤ x1 := by omega
              have g3 : x1 < cs := by omega
              by_cases g4 : 0 ≤ x2 ∧ x2 ≤ n
              · have r1 := thB_yes g4
                by_cases g5 : 0 ≤ x3 ∧ x3 ≤ n
                · have r2 := thB_yes g5
                  have hs := fstE_next hall.out (show oE cs n F k = 0 by rw [HE.out, if_neg (by omega), if_neg (by omega), if_neg (by omega)])
                  have HS := Lib.hid hs
                  clear hs g1 g4 g5
                  go_wp2_with fail
                  refine (there_any x2 n c w.heap.size (some ⟨b, off, none⟩) _ (HCL.out _ rfl) HN.out).mono ?_
                  rintro e w' ⟨rfl, rfl⟩
                  go_wp2_with fail
                  refine (there_any x3 n c w.heap.size (some ⟨b, off, none⟩) _ (HCL.out _ rfl) HN.out).mono ?_
                  rintro e w' ⟨rfl, rfl⟩
                  go_wp2_with fail
                  go_roundw
                  case rel => exact ⟨k + 1, by omega, by go_num, HS.out, HCL.out _ rfl, hb2, by simp; omega⟩
                  case measure => simp [intOf]; omega
                · have r2 := thB_no g5
                  have hs := ST.out 3 (by decide) (by rw [HE.out, if_neg (by omega), if_neg (by omega), if_pos (.inr ⟨rfl, g5⟩)])
                  have HS := Lib.hid hs
                  clear hs g1 g4 g5
                  go_wp2_with fail
                  refine (there_any x2 n c w.heap.size (some ⟨b, off, none⟩) _ (HCL.out _ rfl) HN.out).mono ?_
                  rintro e w' ⟨rfl, rfl⟩
                  go_wp2_with fail
                  refine (there_any x3 n c w.heap.size (some ⟨b, off, none⟩) _ (HCL.out _ rfl) HN.out).mono ?_
                  rintro e w' ⟨rfl, rfl⟩
                  go_wp2_with fail
                  go_ret
                  exact ⟨ret_int HS.out.symm, hb2⟩
              · have r1 := thB_no g4
                have hs := ST.out 3 (by decide) (by rw [HE.out, if_neg (by omega), if_neg (by omega), if_pos (.inl g4)])
                have HS := Lib.hid hs
                clear hs g1 g4
                go_wp2_with fail
                refine (there_any x2 n c w.heap.size (some ⟨b, off, none⟩) _ (HCL.out _ rfl) HN.out).mono ?_
                rintro e w' ⟨rfl, rfl⟩
                go_wp2_with fail
                go_ret
                exact ⟨ret_int HS.out.symm, hb2⟩
          · have hs := ST.out 6 (by decide) (by rw [HE.out, if_pos ⟨g1, g2⟩])
            have HS := Lib.hid hs
            have d1 : (x0 != 1) = true := by rw [bne_iff_ne]; exact g1
            have d2 : (x0 != 2) = true := by rw [bne_iff_ne]; exact g2
            clear hs g1 g2
            go_wp2_with fail
            go_ret
            exact ⟨ret_int HS.out.symm, hb2⟩
      · obtain rfl : k = n := by omega
        go_wp2_with fail
        go_ret
        exact ⟨ret_int hall.out.symm, hbel⟩
end Go.Proofs.Ytmdcfbofjlpbmaa
