/- What name.True and the references' ClausesCheck compute. Conditions: as each theorem states. -/
import Derived.Test.YtkogobnnimincaaNameIs
import Derived.Test.YtkogobnnimincaaInside
namespace Go.Proofs.Ytkogobnnimincaa
open Go.ChangeShapes Go.WideShapes Go.ChangeAt Go.RowKit
set_option linter.unusedVariables false
def trE (vars : Int) (n : Nat) (Y N : Nat → SI) (m : Nat) : Int := if wrC vars 200 n Y N = 0 then (if (m : Int) = vars then 0 else 3) else wrC vars 200 n Y N
def trB (vars : Int) (n : Nat) (Y N : Nat → SI) (m : Nat) (h : Nat → Bool) : Bool := if trE vars n Y N m = 0 then isC n Y N h else false
set_option maxRecDepth 100000 in
set_option maxHeartbeats 1000000 in
theorem true_any (vars : Int) (A HA : Option Addr) (n c m hc : Nat) (Y N : Nat → SI) (h : Nat → Bool) (w : World) (hC : Cls w A n Y N) (hr : Rd w HA m (fun i => .bool (h i))) (hn : n ≤ maxLen) (hm : m ≤ maxLen) :
    Calls Try.prog 17 #[.int .i64 vars, .slice A n c, .slice HA m hc] w fun e w' => e = .returned (.tuple #[.bool (trB vars n Y N m h), .int .i64 (trE vars n Y N m)]) ∧ Below w.heap.size w w' := by
  have H := Lib.hid hC
  have G := Lib.hid hr
  have HN := Lib.hid hn
  unfold maxLen at hm
  clear hC hr hn
  by_cases he : wrC vars 200 n Y N = 0
  · obtain ⟨⟨v0, v8, n2⟩, hV⟩ := wrC_zero he
    have er : trE vars n Y N m = if (m : Int) = vars then 0 else 3 := if_pos he
    by_cases hmv : (m : Int) = vars
    · rw [if_pos hmv] at er
      have eb : trB vars n Y N m h = isC n Y N h := if_pos er
      have hq : ((m : Int) != vars) = false := by rw [bne_eq_false_iff_eq]; exact hmv
      have HV := Lib.hid (show ∀ k, k < n → varsIn m (Y k) ∧ varsIn m (N k) from fun k hk => by
        have := (hV k hk).2
        rw [show vars.toNat = m by omega] at this
        exact this)
      have ER := Lib.hid (And.intro er eb)
      clear hV er eb hmv
      go_enter Try.func17, Try.ntmps17
      go_wp2_with fail
      refine (wrong_any vars 200 A n c Y N w H.out HN.out).mono ?_
      rintro e w1 ⟨rfl, hb1⟩
      rw [he]
      clear he
      go_wp2_with fail
      refine (is_any A HA n c m hc Y N h _ (H.out.below hb1) (G.out.below hb1) (by omega) HV.out).mono ?_
      rintro e w2 ⟨rfl, hb2⟩
      go_wp2_with fail
      go_ret2
      exact ⟨by rw [ER.out.1, ER.out.2]; rfl, hb1.trans (hb2.mono hb1.size)⟩
    · rw [if_neg hmv] at er
      have eb : trB vars n Y N m h = false := if_neg (by rw [er]; decide)
      have hq : ((m : Int) != vars) = true := by rw [bne_iff_ne]; exact hmv
      have ER := Lib.hid (And.intro er eb)
      clear hV er eb hmv
      go_enter Try.func17, Try.ntmps17
      go_wp2_with fail
      refine (wrong_any vars 200 A n c Y N w H.out HN.out).mono ?_
      rintro e w1 ⟨rfl, hb1⟩
      rw [he]
      clear he
      go_wp2_with fail
      go_ret2
      exact ⟨by rw [ER.out.1, ER.out.2]; rfl, hb1⟩
  · have er : trE vars n Y N m = wrC vars 200 n Y N := if_neg he
    have eb : trB vars n Y N m h = false := if_neg (by rw [er]; exact he)
    have hq : (wrC vars 200 n Y N != 0) = true := by rw [bne_iff_ne]; exact he
    have ER := Lib.hid (And.intro er eb)
    clear er eb he
    go_enter Try.func17, Try.ntmps17
    go_wp2_with fail
    refine (wrong_any vars 200 A n c Y N w H.out HN.out).mono ?_
    rintro e w1 ⟨rfl, hb1⟩
    go_wp2_with fail
    go_ret2
    exact ⟨by rw [ER.out.1, ER.out.2]; rfl, hb1⟩
theorem any_ins {vars : Int} {f : Nat → Int} {m : Nat} : anyB (badV vars f) m = !(insB vars m f) := by
  cases e : insB vars m f with
  | true =>
    exact anyB_no fun j hj => by
      have := insB_iff.1 e j hj
      exact decide_eq_false (by omega)
  | false =>
    cases e2 : anyB (badV vars f) m with
    | true => rfl
    | false =>
      have : insB vars m f = true := insB_iff.2 fun i hi => by
        have := of_decide_eq_false (anyB_false.1 e2 i hi); omega
      rw [this] at e; cases e
set_option maxRecDepth 100000 in
set_option maxHeartbeats 2000000 in
theorem clausesCheck_any (vars most : Int) (A : Option Addr) (n c : Nat) (Y N : Nat → SI) (w : World) (h : Cls w A n Y N) (hn : n ≤ maxLen) :
    Calls Try.prog 14 #[.int .i64 vars, .int .i64 most, .slice A n c] w fun e w' => e = .returned (.int .i64 (wrC vars most n Y N)) ∧ Below w.heap.size w w' := by
  unfold maxLen at hn
  have H := Lib.hid h
  clear h
  by_cases hv : 0 ≤ vars ∧ vars ≤ most
  · have r1 := inB_yes hv.1 hv.2
    by_cases hl : 200 < n
    · have er : wrC vars most n Y N = 1 := if_pos (.inr (.inr hl))
      rw [er]
      clear er hv
      go_enter Try.func14, Try.ntmps14
      go_wp2_with (go_at_call 19; refine (within_any _ _ _ _).mono ?_; rintro e w' ⟨rfl, rfl⟩)
      go_ret
      exact ⟨rfl, Below.refl _ _⟩
    · have er : wrC vars most n Y N = fstE (clE vars Y N) n := if_neg (by omega)
      rw [er]
      have n2 : n ≤ 200 := by omega
      clear er hl hv hn
      go_enter Try.func14, Try.ntmps14
      go_wp2_with (go_at_call 19; refine (within_any _ _ _ _).mono ?_; rintro e w' ⟨rfl, rfl⟩)
      go_loopw [20] (fun i wr => ∃ k : Nat, k ≤ n ∧ i = .int .i64 k ∧ fstE (clE vars Y N) k = 0 ∧ Below w.heap.size w wr) (fun i _ => n - (intOf i).toNat)
      case atStart => exact ⟨0, Nat.zero_le _, rfl, rfl, Below.refl _ _⟩
      case round =>
        obtain ⟨wo, rfl⟩ : ∃ wo : World, wo = wr := ⟨_, rfl⟩
        obtain ⟨k, hk, rfl, hall0, hbel⟩ := hrel
        have hall := Lib.hid hall0
        clear hall0
        by_cases hlt : k < n
        · have hcls := H.out.below hbel
          obtain ⟨b, off, rfl, hb, f0, f1⟩ := hcls.at2 hlt
          obtain ⟨gy, gn⟩ := hcls.good k hlt
          have he : clE vars Y N k = if 8 < (Y k).n ∨ 8 < (N k).n then 1 else if anyB (badV vars (Y k).f) (Y k).n = true ∨ anyB (badV vars (N k).f) (N k).n = true then 2 else 0 := rfl
          rw [any_ins, any_ins] at he
          have stop : ∀ x, x ≠ 0 → clE vars Y N k = x → fstE (clE vars Y N) n = x := fun x g0 g1 => fstE_stop hall.out g1 g0 n hlt
          have next : clE vars Y N k = 0 → fstE (clE vars Y N) (k + 1) = 0 := fun g => fstE_next hall.out g
          have ST := Lib.hid stop
          have NX := Lib.hid next
          obtain ⟨y, hy⟩ : ∃ y, y = Y k := ⟨_, rfl⟩
          obtain ⟨z, hz⟩ : ∃ z, z = N k := ⟨_, rfl⟩
          rw [← hy, ← hz] at he
          rw [← hy] at f0 gy
          rw [← hz] at f1 gn
          have HE := Lib.hid he
          obtain ⟨ry, _, ly, cy⟩ := gy
          obtain ⟨rz, _, lz, cz⟩ := gn
          have hb2 := hbel.alloc hbel.size (.cells #[.slice y.A y.n y.c, .slice z.A z.n z.c] 49)
          have RY := Lib.hid (ry.alloc (.cells #[.slice y.A y.n y.c, .slice z.A z.n z.c] 49))
          have RZ := Lib.hid (rz.alloc (.cells #[.slice y.A y.n y.c, .slice z.A z.n z.c] 49))
          have CY := Lib.hid (show y.n ≤ maxLen by omega)
          have CZ := Lib.hid (show z.n ≤ maxLen by omega)
          clear he stop next hy hz ry rz cy cz hcls
          by_cases g1 : 8 < y.n
          · have hs := ST.out 1 (by decide) (by rw [HE.out, if_pos (.inl g1)])
            have HS := Lib.hid hs
            clear hs
            go_wp2_with fail
            go_ret
            exact ⟨ret_int HS.out.symm, hb2⟩
          · by_cases g2 : 8 < z.n
            · have hs := ST.out 1 (by decide) (by rw [HE.out, if_pos (.inr g2)])
              have HS := Lib.hid hs
              clear hs
              go_wp2_with fail
              go_ret
              exact ⟨ret_int HS.out.symm, hb2⟩
            · have hE2 := HE.out
              rw [if_neg (by omega)] at hE2
              cases r1 : insB vars y.n y.f with
              | false =>
                have hs := ST.out 2 (by decide) (by rw [hE2, r1]; rfl)
                have HS := Lib.hid hs
                clear hs hE2
                go_wp2_with fail
                refine (inside_any vars y.A y.n y.c y.f _ RY.out CY.out).mono ?_
                rintro e w' ⟨rfl, rfl⟩
                rw [r1]
                go_wp2_with fail
                go_ret
                exact ⟨ret_int HS.out.symm, hb2⟩
              | true =>
                cases r2 : insB vars z.n z.f with
                | false =>
                  have hs := ST.out 2 (by decide) (by rw [hE2, r1, r2]; rfl)
                  have HS := Lib.hid hs
                  clear hs hE2
                  go_wp2_with fail
                  refine (inside_any vars y.A y.n y.c y.f _ RY.out CY.out).mono ?_
                  rintro e w' ⟨rfl, rfl⟩
                  rw [r1]
                  go_wp2_with fail
                  refine (inside_any vars z.A z.n z.c z.f _ RZ.out CZ.out).mono ?_
                  rintro e w' ⟨rfl, rfl⟩
                  rw [r2]
                  go_wp2_with fail
                  go_ret
                  exact ⟨ret_int HS.out.symm, hb2⟩
                | true =>
                  have hs := NX.out (by rw [hE2, r1, r2]; rfl)
                  have HS := Lib.hid hs
                  clear hs hE2
                  go_wp2_with fail
                  refine (inside_any vars y.A y.n y.c y.f _ RY.out CY.out).mono ?_
                  rintro e w' ⟨rfl, rfl⟩
                  rw [r1]
                  go_wp2_with fail
                  refine (inside_any vars z.A z.n z.c z.f _ RZ.out CZ.out).mono ?_
                  rintro e w' ⟨rfl, rfl⟩
                  rw [r2]
                  go_wp2_with fail
                  go_roundw
                  case rel => exact ⟨k + 1, by omega, by go_num, HS.out, hb2⟩
                  case measure => simp [intOf]; omega
        · obtain rfl : k = n := by omega
          go_wp2_with fail
          go_ret
          exact ⟨ret_int hall.out.symm, hbel⟩
  · have r1 := inB_no hv
    have er : wrC vars most n Y N = 1 := if_pos (by omega)
    rw [er]
    clear er hv
    go_enter Try.func14, Try.ntmps14
    go_wp2_with (go_at_call 19; refine (within_any _ _ _ _).mono ?_; rintro e w' ⟨rfl, rfl⟩)
    go_ret
    exact ⟨rfl, Below.refl _ _⟩
end Go.Proofs.Ytkogobnnimincaa
