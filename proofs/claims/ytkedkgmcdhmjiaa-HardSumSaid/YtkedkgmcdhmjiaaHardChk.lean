/- hard.wrong and the reference's HardCheck: both say the same of clauses. Condition: the clauses read. -/
import Derived.Test.YtkedkgmcdhmjiaaNameFns
import Derived.Test.YtkedkgmcdhmjiaaInside
import Derived.IntWalk
namespace Go.Proofs.Ytkedkgmcdhmjiaa
open Go.ChangeShapes Go.WideShapes Go.ChangeAt Go.RowKit
set_option linter.unusedVariables false
set_option linter.unusedSimpArgs false
def bigC (Y N : Nat → SI) (k : Nat) : Bool := decide (3 < (Y k).n + (N k).n)
def badC (vars : Int) (Y N : Nat → SI) (k : Nat) : Bool := anyB (badV vars (Y k).f) (Y k).n || anyB (badV vars (N k).f) (N k).n
def hdE (vars : Int) (n : Nat) (Y N : Nat → SI) : Int :=
  if vars < 0 ∨ 8 < vars ∨ 12 < n then 1 else if anyB (bigC Y N) n = true then 1 else if anyB (badC vars Y N) n = true then 2 else 0
theorem ins_bad {vars : Int} {f : Nat → Int} {m : Nat} : insB vars m f = !(anyB (badV vars f) m) := by
  cases h : anyB (badV vars f) m
  · refine insB_iff.2 fun i hi => ?_
    have := anyB_false.1 h i hi
    unfold badV at this
    have := of_decide_eq_false this
    omega
  · cases h2 : insB vars m f
    · rfl
    · have h3 := insB_iff.1 h2
      have h4 : anyB (badV vars f) m = false := anyB_no fun i hi => decide_eq_false (by have := h3 i hi; omega)
      rw [h4] at h
      cases h
set_option maxRecDepth 100000 in
theorem badh_any (x vars : Int) (B : Nat) (b : Bool) (hb : b = decide (x < 0 ∨ vars ≤ x)) (w : World) (h : w.cell? ⟨B, 0, none⟩ = some (.int .i64 vars)) :
    Calls Try.prog 37 #[.int .i64 x, .pointer (some ⟨B, 0, none⟩)] w fun e w' => e = .returned (.bool b) ∧ w = w' := by
  by_cases h0 : x < 0
  · obtain rfl : b = true := by rw [hb]; exact decide_eq_true (.inl h0)
    clear hb
    go_enter Try.func37, Try.ntmps37
    go_wp2_with fail
    go_ret
    exact ⟨rfl, rfl⟩
  · by_cases h1 : vars ≤ x
    · obtain rfl : b = true := by rw [hb]; exact decide_eq_true (.inr h1)
      clear hb
      go_enter Try.func37, Try.ntmps37
      go_wp2_with fail
      go_ret
      exact ⟨rfl, rfl⟩
    · obtain rfl : b = false := by rw [hb]; exact decide_eq_false (by omega)
      clear hb
      go_enter Try.func37, Try.ntmps37
      go_wp2_with fail
      go_ret
      exact ⟨rfl, rfl⟩
theorem badh_holds {vars : Int} {B : Nat} {w : World} (f : Nat → Int) (h : w.cell? ⟨B, 0, none⟩ = some (.int .i64 vars)) (m : Nat) :
    ∀ i, i < m → Calls Try.prog 37 (#[.int .i64 (f i)] ++ #[.pointer (some ⟨B, 0, none⟩)]) w fun e w' => e = .returned (.bool (badV vars f i)) ∧ w = w' :=
  fun i _ => badh_any (f i) vars B _ rfl w h
set_option maxRecDepth 100000 in
set_option maxHeartbeats 2000000 in
theorem hwrong_any (vars : Int) (A : Option Addr) (n c : Nat) (Y N : Nat → SI) (w : World) (h : Cls w A n Y N) (hn : n ≤ maxLen) :
    Calls Try.prog 26 #[.int .i64 vars, .slice A n c] w fun e w' => e = .returned (.int .i64 (hdE vars n Y N)) ∧ Below w.heap.size w w' := by
  unfold maxLen at hn
  have H := Lib.hid h
  clear h
  by_cases hl : vars < 0 ∨ 8 < vars ∨ 12 < n
  · have er : hdE vars n Y N = 1 := if_pos hl
    rw [er]
    clear er
    by_cases h1 : vars < 0
    · go_enter Try.func26, Try.ntmps26
      go_wp2_with fail
      go_ret
      exact ⟨rfl, (Below.refl _ _).alloc (Nat.le_refl _) _⟩
    · by_cases h2 : 8 < vars
      · go_enter Try.func26, Try.ntmps26
        go_wp2_with fail
        go_ret
        exact ⟨rfl, (Below.refl _ _).alloc (Nat.le_refl _) _⟩
      · have h3 : 12 < n := by omega
        go_enter Try.func26, Try.ntmps26
        go_wp2_with fail
        go_ret
        exact ⟨rfl, (Below.refl _ _).alloc (Nat.le_refl _) _⟩
  · have HE : Hid (hdE vars n Y N = if anyB (bigC Y N) n = true then 1 else if anyB (badC vars Y N) n = true then 2 else 0) := Lib.hid (if_neg hl)
    have v0 : 0 ≤ vars := by omega
    have vm : vars ≤ 8 := by omega
    have n2 : n ≤ 12 := by omega
    clear hl hn
    go_enter Try.func26, Try.ntmps26
    go_wp2_with fail
    go_loopw [24] (fun i wr => ∃ k : Nat, k ≤ n ∧ i = .int .i64 k ∧ Hid (∀ q, q < k → bigC Y N q = false) ∧ Hid (wr.cell? ⟨w.heap.size, 0, none⟩ = some (.int .i64 vars)) ∧ Hid (Below w.heap.size w wr) ∧ w.heap.size < wr.heap.size) (fun i _ => n - (intOf i).toNat)
    case atStart => exact ⟨0, Nat.zero_le _, rfl, Lib.hid (fun q hq => absurd hq (Nat.not_lt_zero _)), Lib.hid (by simp [go_sem]), Lib.hid ((Below.refl _ _).alloc (Nat.le_refl _) _), by simp⟩
    case round =>
      obtain ⟨wo, rfl⟩ : ∃ wo : World, wo = wr := ⟨_, rfl⟩
      obtain ⟨k, hk, rfl, HALL, HC, HB, hsz⟩ := hrel
      by_cases hlt : k < n
      · have hcls := H.out.below HB.out
        obtain ⟨b, off, rfl, hb, f0, f1⟩ := hcls.at2 hlt
        obtain ⟨gy, gn⟩ := hcls.good k hlt
        obtain ⟨y, hy⟩ : ∃ y, y = Y k := ⟨_, rfl⟩
        obtain ⟨z, hz⟩ : ∃ z, z = N k := ⟨_, rfl⟩
        have HG : Hid (bigC Y N k = decide (3 < y.n + z.n)) := Lib.hid (by rw [hy, hz]; rfl)
        rw [← hy] at f0 gy
        rw [← hz] at f1 gn
        have ly : y.n ≤ 9223372036854775807 := by have := gy.2.2; unfold maxLen at this; omega
        have lz : z.n ≤ 9223372036854775807 := by have := gn.2.2; unfold maxLen at this; omega
        have HB2 := Lib.hid (HB.out.alloc HB.out.size (.cells #[.slice y.A y.n y.c, .slice z.A z.n z.c] 50))
        have HC2 : Hid ((wo.alloc (.cells #[.slice y.A y.n y.c, .slice z.A z.n z.c] 50)).cell? ⟨w.heap.size, 0, none⟩ = some (.int .i64 vars)) := Lib.hid (by rw [World.cell?_alloc_lt _ _ _ hsz]; exact HC.out)
        clear hy hz gy gn hcls
        by_cases hbig : 3 < y.n + z.n
        · have HE1 : Hid (hdE vars n Y N = 1) := Lib.hid (by rw [HE.out, if_pos (anyB_yes hlt (by rw [HG.out]; exact decide_eq_true hbig))])
          by_cases g1 : 3 < y.n
          · go_wp2_with fail
            go_ret
            exact ⟨(by rw [HE1.out]; try rfl), HB2.out⟩
          by_cases g2 : 3 < z.n
          · go_wp2_with fail
            go_ret
            exact ⟨(by rw [HE1.out]; try rfl), HB2.out⟩
          go_wp2_with fail
          go_ret
          exact ⟨(by rw [HE1.out]; try rfl), HB2.out⟩
        · have HN : Hid (bigC Y N k = false) := Lib.hid (by rw [HG.out]; exact decide_eq_false hbig)
          have g1 : y.n ≤ 3 := by omega
          have g2 : z.n ≤ 3 := by omega
          clear HG
          go_wp2_with fail
          go_roundw
          case rel => exact ⟨k + 1, by omega, by go_num, Lib.hid (fun q hq => by
            by_cases e : q = k
            · subst e; exact HN.out
            · exact HALL.out q (by omega)), HC2, HB2, by simp; omega⟩
          case measure => simp [intOf]; omega
      · obtain rfl : k = n := by omega
        have HNB : Hid (anyB (bigC Y N) k = false) := Lib.hid (anyB_no HALL.out)
        have HCO := HC
        have HBO := HB
        go_wp2_with fail
        go_loopw [51] (fun i wr => ∃ j : Nat, j ≤ k ∧ i = .int .i64 j ∧ Hid (∀ q, q < j → badC vars Y N q = false) ∧ Hid (wr.cell? ⟨w.heap.size, 0, none⟩ = some (.int .i64 vars)) ∧ Hid (Below w.heap.size w wr) ∧ w.heap.size < wr.heap.size) (fun i _ => k - (intOf i).toNat)
        case atStart => exact ⟨0, Nat.zero_le _, rfl, Lib.hid (fun q hq => absurd hq (Nat.not_lt_zero _)), HCO, HBO, hsz⟩
        case round =>
          clear HALL HC HB HCO HBO hsz
          obtain ⟨wq, rfl⟩ : ∃ wq : World, wq = wr := ⟨_, rfl⟩
          obtain ⟨j, hj, rfl, HALL, HC, HB, hsz⟩ := hrel
          by_cases hlt : j < k
          · have hcls := H.out.below HB.out
            obtain ⟨b, off, rfl, hb, f0, f1⟩ := hcls.at2 hlt
            obtain ⟨gy, gn⟩ := hcls.good j hlt
            obtain ⟨y, hy⟩ : ∃ y, y = Y j := ⟨_, rfl⟩
            obtain ⟨z, hz⟩ : ∃ z, z = N j := ⟨_, rfl⟩
            have HG : Hid (badC vars Y N j = (anyB (badV vars y.f) y.n || anyB (badV vars z.f) z.n)) := Lib.hid (by rw [hy, hz]; rfl)
            rw [← hy] at f0 gy
            rw [← hz] at f1 gn
            have LY := Lib.hid (show y.n ≤ maxLen from Nat.le_trans gy.2.2.1 gy.2.2.2)
            have LZ := Lib.hid (show z.n ≤ maxLen from Nat.le_trans gn.2.2.1 gn.2.2.2)
            have RY := Lib.hid (gy.1.alloc (.cells #[.slice y.A y.n y.c, .slice z.A z.n z.c] 50))
            have RZ := Lib.hid (gn.1.alloc (.cells #[.slice y.A y.n y.c, .slice z.A z.n z.c] 50))
            have HB2 := Lib.hid (HB.out.alloc HB.out.size (.cells #[.slice y.A y.n y.c, .slice z.A z.n z.c] 50))
            have HC2 : Hid ((wq.alloc (.cells #[.slice y.A y.n y.c, .slice z.A z.n z.c] 50)).cell? ⟨w.heap.size, 0, none⟩ = some (.int .i64 vars)) := Lib.hid (by rw [World.cell?_alloc_lt _ _ _ hsz]; exact HC.out)
            clear hy hz gy gn hcls
            cases r1 : anyB (badV vars y.f) y.n
            · have R1 := Lib.hid r1
              clear r1
              cases r2 : anyB (badV vars z.f) z.n
              · have R2 := Lib.hid r2
                have HN : Hid (badC vars Y N j = false) := Lib.hid (by rw [HG.out, R1.out, R2.out]; rfl)
                clear r2 HG
                go_wp2_with fail
                refine (containsP_any 37 #[.pointer (some ⟨w.heap.size, 0, none⟩)] y.A y.n y.c y.f _ _ RY.out LY.out (fun _ _ => rfl) (badh_holds y.f HC2.out y.n)).mono ?_
                rintro e w2 ⟨rfl, rfl⟩
                rw [R1.out]
                go_wp2_with fail
                refine (containsP_any 37 #[.pointer (some ⟨w.heap.size, 0, none⟩)] z.A z.n z.c z.f _ _ RZ.out LZ.out (fun _ _ => rfl) (badh_holds z.f HC2.out z.n)).mono ?_
                rintro e w2 ⟨rfl, rfl⟩
                rw [R2.out]
                go_wp2_with fail
                go_roundw
                case rel => exact ⟨j + 1, by omega, by go_num, Lib.hid (fun q hq => by
                  by_cases e : q = j
                  · subst e; exact HN.out
                  · exact HALL.out q (by omega)), HC2, HB2, by simp; omega⟩
                case measure => simp [intOf]; omega
              · have R2 := Lib.hid r2
                have HE2 : Hid (hdE vars k Y N = 2) := Lib.hid (by rw [HE.out, HNB.out, if_neg (by decide), if_pos (anyB_yes hlt (by rw [HG.out, R2.out, Bool.or_true]))])
                clear r2 HG
                go_wp2_with fail
                refine (containsP_any 37 #[.pointer (some ⟨w.heap.size, 0, none⟩)] y.A y.n y.c y.f _ _ RY.out LY.out (fun _ _ => rfl) (badh_holds y.f HC2.out y.n)).mono ?_
                rintro e w2 ⟨rfl, rfl⟩
                rw [R1.out]
                go_wp2_with fail
                refine (containsP_any 37 #[.pointer (some ⟨w.heap.size, 0, none⟩)] z.A z.n z.c z.f _ _ RZ.out LZ.out (fun _ _ => rfl) (badh_holds z.f HC2.out z.n)).mono ?_
                rintro e w2 ⟨rfl, rfl⟩
                rw [R2.out]
                go_wp2_with fail
                go_ret
                exact ⟨(by rw [HE2.out]; try rfl), HB2.out⟩
            · have R1 := Lib.hid r1
              have HE2 : Hid (hdE vars k Y N = 2) := Lib.hid (by rw [HE.out, HNB.out, if_neg (by decide), if_pos (anyB_yes hlt (by rw [HG.out, R1.out]; rfl))])
              clear r1 HG
              go_wp2_with fail
              refine (containsP_any 37 #[.pointer (some ⟨w.heap.size, 0, none⟩)] y.A y.n y.c y.f _ _ RY.out LY.out (fun _ _ => rfl) (badh_holds y.f HC2.out y.n)).mono ?_
              rintro e w2 ⟨rfl, rfl⟩
              rw [R1.out]
              go_wp2_with fail
              go_ret
              exact ⟨(by rw [HE2.out]; try rfl), HB2.out⟩
          · obtain rfl : j = k := by omega
            have HE2 : Hid (hdE vars j Y N = 0) := Lib.hid (by rw [HE.out, HNB.out, anyB_no HALL.out, if_neg (by decide), if_neg (by decide)])
            go_wp2_with fail
            go_ret
            exact ⟨(by rw [HE2.out]; try rfl), HB.out⟩
end Go.Proofs.Ytkedkgmcdhmjiaa
