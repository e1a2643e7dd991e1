/- What name.wrong and name.is compute. Conditions: as each theorem states. -/
import Derived.Test.YtkedkgmcdhmjiaaRowsOf
import Derived.Test.YtkedkgmcdhmjiaaApp
import Derived.Test.YtkedkgmcdhmjiaaFirst
import Derived.Test.YtkedkgmcdhmjiaaPred
import Derived.BigQuiet
import Derived.Deep.QuietTactic
import Derived.Deep.RegionLaw
namespace Go.Proofs.Ytkedkgmcdhmjiaa
open Go.ChangeShapes Go.WideShapes Go.ChangeAt Go.RowKit
set_option linter.unusedVariables false
/-- clauses, n of them, with what they hold -/
structure Cls (w : World) (A : Option Addr) (n : Nat) (Y N : Nat → SI) : Prop where
  rd : Rd w A (n * 2) (clC Y N)
  good : ∀ k, k < n → (Y k).good w ∧ (N k).good w
theorem Cls.below {w w' : World} {A : Option Addr} {n : Nat} {Y N : Nat → SI} (h : Cls w A n Y N) (hb : Below w.heap.size w w') : Cls w' A n Y N :=
  ⟨h.rd.below hb, fun k hk => ⟨(h.good k hk).1.below hb, (h.good k hk).2.below hb⟩⟩
theorem Cls.at2 {w : World} {A : Option Addr} {n : Nat} {Y N : Nat → SI} (h : Cls w A n Y N) {k : Nat} (hk : k < n) :
    ∃ b off, A = some ⟨b, off, none⟩ ∧ b < w.heap.size ∧ w.cell? ⟨b, off + k * 2, none⟩ = some (.slice (Y k).A (Y k).n (Y k).c) ∧ w.cell? ⟨b, off + k * 2 + 1, none⟩ = some (.slice (N k).A (N k).n (N k).c) := by
  obtain ⟨b, off, e, hb, hc⟩ := h.rd (by omega)
  refine ⟨b, off, e, hb, ?_, ?_⟩
  · rw [hc (k * 2) (by omega), clC_0]; rfl
  · rw [Nat.add_assoc, hc (k * 2 + 1) (by omega), clC_1]; rfl
def badV (vars : Int) (f : Nat → Int) (i : Nat) : Bool := decide (f i < 0 ∨ vars ≤ f i)
def clE (vars : Int) (Y N : Nat → SI) (k : Nat) : Int :=
  if 8 < (Y k).n ∨ 8 < (N k).n then 1 else if anyB (badV vars (Y k).f) (Y k).n = true ∨ anyB (badV vars (N k).f) (N k).n = true then 2 else 0
def wrC (vars most : Int) (n : Nat) (Y N : Nat → SI) : Int := if vars < 0 ∨ most < vars ∨ 200 < n then 1 else fstE (clE vars Y N) n
set_option maxRecDepth 100000 in
theorem badc_any (x vars : Int) (B : Nat) (b : Bool) (hb : b = decide (x < 0 ∨ vars ≤ x)) (w : World) (h : w.cell? ⟨B, 0, none⟩ = some (.int .i64 vars)) :
    Calls Try.prog 38 #[.int .i64 x, .pointer (some ⟨B, 0, none⟩)] w fun e w' => e = .returned (.bool b) ∧ w = w' := by
  by_cases h0 : x < 0
  · obtain rfl : b = true := by rw [hb]; exact decide_eq_true (.inl h0)
    clear hb
    go_enter Try.func38, Try.ntmps38
    go_wp2_with fail
    go_ret
    exact ⟨rfl, rfl⟩
  · by_cases h1 : vars ≤ x
    · obtain rfl : b = true := by rw [hb]; exact decide_eq_true (.inr h1)
      clear hb
      go_enter Try.func38, Try.ntmps38
      go_wp2_with fail
      go_ret
      exact ⟨rfl, rfl⟩
    · obtain rfl : b = false := by rw [hb]; exact decide_eq_false (by omega)
      clear hb
      go_enter Try.func38, Try.ntmps38
      go_wp2_with fail
      go_ret
      exact ⟨rfl, rfl⟩
theorem bad_holds {vars : Int} {B : Nat} {w : World} (f : Nat → Int) (h : w.cell? ⟨B, 0, none⟩ = some (.int .i64 vars)) (m : Nat) :
    ∀ i, i < m → Calls Try.prog 38 (#[.int .i64 (f i)] ++ #[.pointer (some ⟨B, 0, none⟩)]) w fun e w' => e = .returned (.bool (badV vars f i)) ∧ w = w' :=
  fun i _ => badc_any (f i) vars B _ rfl w h
set_option maxRecDepth 100000 in
set_option maxHeartbeats 2000000 in
theorem wrong_any (vars most : Int) (A : Option Addr) (n c : Nat) (Y N : Nat → SI) (w : World) (h : Cls w A n Y N) (hn : n ≤ maxLen) :
    Calls Try.prog 28 #[.int .i64 vars, .int .i64 most, .slice A n c] w fun e w' => e = .returned (.int .i64 (wrC vars most n Y N)) ∧ Below w.heap.size w w' := by
  unfold maxLen at hn
  have H := Lib.hid h
  clear h
  by_cases hl : vars < 0 ∨ most < vars ∨ 200 < n
  · have er : wrC vars most n Y N = 1 := if_pos hl
    rw [er]
    clear er
    by_cases h1 : vars < 0
    · go_enter Try.func28, Try.ntmps28
      go_wp2_with fail
      go_ret
      exact ⟨rfl, (Below.refl _ _).alloc (Nat.le_refl _) _⟩
    · by_cases h2 : most < vars
      · go_enter Try.func28, Try.ntmps28
        go_wp2_with fail
        go_ret
        exact ⟨rfl, (Below.refl _ _).alloc (Nat.le_refl _) _⟩
      · have h3 : 200 < n := by omega
        go_enter Try.func28, Try.ntmps28
        go_wp2_with fail
        go_ret
        exact ⟨rfl, (Below.refl _ _).alloc (Nat.le_refl _) _⟩
  · have er : wrC vars most n Y N = fstE (clE vars Y N) n := if_neg hl
    rw [er]
    clear er
    have v0 : 0 ≤ vars := by omega
    have vm : vars ≤ most := by omega
    have n2 : n ≤ 200 := by omega
    clear hl hn
    go_enter Try.func28, Try.ntmps28
    go_wp2_with fail
    go_loopw [24] (fun i wr => ∃ k : Nat, k ≤ n ∧ i = .int .i64 k ∧ fstE (clE vars Y N) k = 0 ∧ wr.cell? ⟨w.heap.size, 0, none⟩ = some (.int .i64 vars) ∧ Below w.heap.size w wr ∧ w.heap.size < wr.heap.size) (fun i _ => n - (intOf i).toNat)
    case atStart => exact ⟨0, Nat.zero_le _, rfl, rfl, by simp [go_sem], (Below.refl _ _).alloc (Nat.le_refl _) _, by simp⟩
    case round =>
      obtain ⟨wo, rfl⟩ : ∃ wo : World, wo = wr := ⟨_, rfl⟩
      obtain ⟨k, hk, rfl, hall0, hcl, hbel, hsz⟩ := hrel
      have hall := Lib.hid hall0
      clear hall0
      by_cases hlt : k < n
      · have hcls := H.out.below hbel
        obtain ⟨b, off, rfl, hb, f0, f1⟩ := hcls.at2 hlt
        obtain ⟨gy, gn⟩ := hcls.good k hlt
        have he : clE vars Y N k = if 8 < (Y k).n ∨ 8 < (N k).n then 1 else if anyB (badV vars (Y k).f) (Y k).n = true ∨ anyB (badV vars (N k).f) (N k).n = true then 2 else 0 := rfl
        have stop : ∀ x, x ≠ 0 → clE vars Y N k = x → fstE (clE vars Y N) n = x := fun x g0 g1 => fstE_stop hall.out g1 g0 n hlt
        have next : clE vars Y N k = 0 → fstE (clE vars Y N) (k + 1) = 0 := fun g => fstE_next hall.out g
        have ST := Lib.hid stop
        have NX := Lib.hid next
        obtain ⟨y, hy⟩ : ∃ y, y = Y k := ⟨_, rfl⟩
        obtain ⟨z, hz⟩ : ∃ z, z = N k := ⟨_, rfl⟩
        rw [← hy, ← hz] at he
        rw [← hy] at f0 gy
        rw [← hz] at f1 gn
        have HE := Lib.hid he
        obtain ⟨ry, _, ly, cy⟩ := gy
        obtain ⟨rz, _, lz, cz⟩ := gn
        have hb2 := hbel.alloc hbel.size (.cells #[.slice y.A y.n y.c, .slice z.A z.n z.c] 50)
        have hcl2 : (wo.alloc (.cells #[.slice y.A y.n y.c, .slice z.A z.n z.c] 50)).cell? ⟨w.heap.size, 0, none⟩ = some (.int .i64 vars) := by rw [World.cell?_alloc_lt _ _ _ hsz]; exact hcl
        have HCL := Lib.hid hcl2
        have RY := Lib.hid (ry.alloc (.cells #[.slice y.A y.n y.c, .slice z.A z.n z.c] 50))
        have RZ := Lib.hid (rz.alloc (.cells #[.slice y.A y.n y.c, .slice z.A z.n z.c] 50))
        have CY := Lib.hid (show y.n ≤ maxLen by omega)
        have CZ := Lib.hid (show z.n ≤ maxLen by omega)
        clear he stop next hy hz hcl2 ry rz cy cz hcls
        by_cases g1 : 8 < y.n
        · have hs := ST.out 1 (by decide) (by rw [HE.out, if_pos (.inl g1)])
          have HS := Lib.hid hs
          clear hs
          go_wp2_with fail
          go_ret
          exact ⟨ret_int HS.out.symm, hb2⟩
        · by_cases g2 : 8 < z.n
          · have hs := ST.out 1 (by decide) (by rw [HE.out, if_pos (.inr g2)])
            have HS := Lib.hid hs
            clear hs
            go_wp2_with fail
            go_ret
            exact ⟨ret_int HS.out.symm, hb2⟩
          · have hE2 := HE.out
            rw [if_neg (by omega)] at hE2
            cases r1 : anyB (badV vars y.f) y.n with
            | true =>
              have hs := ST.out 2 (by decide) (by rw [hE2, if_pos (.inl r1)])
              have HS := Lib.hid hs
              clear hs hE2
              go_wp2_with fail
              refine (containsP_any 38 #[.pointer (some ⟨w.heap.size, 0, none⟩)] y.A y.n y.c y.f (badV vars y.f) _ RY.out CY.out (fun _ _ => rfl) (bad_holds _ HCL.out _)).mono ?_
              rintro e w' ⟨rfl, rfl⟩
              rw [r1]
              go_wp2_with fail
              go_ret
              exact ⟨ret_int HS.out.symm, hb2⟩
            | false =>
              cases r2 : anyB (badV vars z.f) z.n with
              | true =>
                have hs := ST.out 2 (by decide) (by rw [hE2, if_pos (.inr r2)])
                have HS := Lib.hid hs
                clear hs hE2
                go_wp2_with fail
                refine (containsP_any 38 #[.pointer (some ⟨w.heap.size, 0, none⟩)] y.A y.n y.c y.f (badV vars y.f) _ RY.out CY.out (fun _ _ => rfl) (bad_holds _ HCL.out _)).mono ?_
                rintro e w' ⟨rfl, rfl⟩
                rw [r1]
                go_wp2_with fail
                refine (containsP_any 38 #[.pointer (some ⟨w.heap.size, 0, none⟩)] z.A z.n z.c z.f (badV vars z.f) _ RZ.out CZ.out (fun _ _ => rfl) (bad_holds _ HCL.out _)).mono ?_
                rintro e w' ⟨rfl, rfl⟩
                rw [r2]
                go_wp2_with fail
                go_ret
                exact ⟨ret_int HS.out.symm, hb2⟩
              | false =>
                have hs := NX.out (by rw [hE2, r1, r2]; rfl)
                have HS := Lib.hid hs
                clear hs hE2
                go_wp2_with fail
                refine (containsP_any 38 #[.pointer (some ⟨w.heap.size, 0, none⟩)] y.A y.n y.c y.f (badV vars y.f) _ RY.out CY.out (fun _ _ => rfl) (bad_holds _ HCL.out _)).mono ?_
                rintro e w' ⟨rfl, rfl⟩
                rw [r1]
                go_wp2_with fail
                refine (containsP_any 38 #[.pointer (some ⟨w.heap.size, 0, none⟩)] z.A z.n z.c z.f (badV vars z.f) _ RZ.out CZ.out (fun _ _ => rfl) (bad_holds _ HCL.out _)).mono ?_
                rintro e w' ⟨rfl, rfl⟩
                rw [r2]
                go_wp2_with fail
                go_roundw
                case rel => exact ⟨k + 1, by omega, by go_num, HS.out, HCL.out, hb2, by simp; omega⟩
                case measure => simp [intOf]; omega
      · obtain rfl : k = n := by omega
        go_wp2_with fail
        go_ret
        exact ⟨ret_int hall.out.symm, hbel⟩
end Go.Proofs.Ytkedkgmcdhmjiaa
