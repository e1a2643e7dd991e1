/- The references' PolyCheck and Power. Condition: the terms read as told. -/
import Derived.Test.YtoodmoliglhpiaaZeroLaw
import Derived.Test.YtoodmoliglhpiaaInside
import Derived.Test.YtoodmoliglhpiaaApp
import Derived.IntWalk
import Derived.BigQuiet
namespace Go.Proofs.Ytoodmoliglhpiaa
open Go.ChangeShapes Go.WideShapes Go.ChangeAt Go.RowKit Go.Maps PolyL
set_option linter.unusedVariables false
set_option linter.unusedSimpArgs false
set_option maxRecDepth 100000 in
theorem power7_any (m : Nat) (w : World) (hm : m ≤ 3) :
    Calls Try.prog 8 #[.int .i64 7, .int .i64 (m : Nat)] w fun e w' => e = .returned (.int .i64 (7 ^ m : Nat)) ∧ w = w' := by
  go_enter Try.func8, Try.ntmps8
  go_wp2_with fail
  go_loop [5, 6] (fun s5 s6 => ∃ i P : Nat, i ≤ m ∧ s6 = .int .i64 (i : Nat) ∧ s5 = .int .i64 (P : Nat) ∧ P ≤ 343 ∧ Hid (P = 7 ^ i)) (fun _ s6 => m - (intOf s6).toNat)
  case atStart => exact ⟨0, 1, Nat.zero_le _, rfl, rfl, by omega, Lib.hid rfl⟩
  case round =>
    obtain ⟨i, P, hi, rfl, rfl, hP, HP⟩ := hrel
    by_cases hlt : i < m
    · have hlI : (i : Int) < (m : Int) := by omega
      have hP2 : P * 7 ≤ 343 := by
        have h : i = 0 ∨ i = 1 ∨ i = 2 := by omega
        rw [HP.out]
        rcases h with rfl | rfl | rfl <;> decide
      go_wp2_with fail
      go_round
      case rel => exact ⟨i + 1, P * 7, by omega, by go_num, by go_num, hP2, Lib.hid (by rw [Nat.pow_succ, HP.out])⟩
      case measure => simp [intOf]; omega
    · have hie : i = m := by omega
      have hlI : ¬ (i : Int) < (m : Int) := by omega
      have HP2 : Hid (P = 7 ^ m) := Lib.hid (by rw [HP.out, hie])
      clear hie
      go_wp2_with fail
      go_ret
      exact ⟨by rw [HP2.out]; try simp, rfl⟩
set_option maxRecDepth 100000 in
set_option maxHeartbeats 4000000 in
theorem poly_any (vars : Int) (A : Option Addr) (n c : Nat) (D : Nat → ST) (w : World) (hr : Rd w A (n * 2) (tcF D)) (hg : ∀ i, (D i).good w) (hn : n ≤ maxLen) :
    Calls Try.prog 7 #[.int .i64 vars, .slice A n c] w fun e w' => (∃ z, e = .returned (.int .i64 z) ∧ (z = 0 ↔ okZ vars n D)) ∧ Below w.heap.size w w' := by
  unfold maxLen at hn
  have HR := Lib.hid hr
  have HG := Lib.hid hg
  clear hr hg
  by_cases h1 : 1 ≤ vars ∧ vars ≤ 3
  case neg =>
    have Q0 : Hid (¬ okZ vars n D) := Lib.hid fun h => h1 h.1
    go_enter Try.func7, Try.ntmps7
    go_wp2_with fail
    refine (within_any 1 vars 3 w).mono ?_
    rintro e w' ⟨rfl, rfl⟩
    rw [inB_no h1]
    go_wp2_with fail
    go_ret
    exact ⟨⟨1, rfl, fun h => absurd h (by decide), fun h => absurd h Q0.out⟩, Below.refl _ _⟩
  by_cases h12 : 12 < n
  case pos =>
    have Q0 : Hid (¬ okZ vars n D) := Lib.hid fun h => by have := h.2.1; omega
    go_enter Try.func7, Try.ntmps7
    go_wp2_with fail
    refine (within_any 1 vars 3 w).mono ?_
    rintro e w' ⟨rfl, rfl⟩
    rw [inB_yes h1.1 h1.2]
    go_wp2_with fail
    go_ret
    exact ⟨⟨1, rfl, fun h => absurd h (by decide), fun h => absurd h Q0.out⟩, Below.refl _ _⟩
  go_enter Try.func7, Try.ntmps7
  go_wp2_with fail
  refine (within_any 1 vars 3 w).mono ?_
  rintro e w' ⟨rfl, rfl⟩
  rw [inB_yes h1.1 h1.2]
  go_wp2_with fail
  go_loopw [21] (fun s21 wr => ∃ t : Nat, t ≤ n ∧ s21 = .int .i64 (t : Nat) ∧ Hid (∀ i, i < t → ((D i).s.n : Int) = vars) ∧ Hid (Below w.heap.size w wr)) (fun s21 _ => n - (intOf s21).toNat)
  case atStart => exact ⟨0, Nat.zero_le _, rfl, Lib.hid fun i h => absurd h (by omega), Lib.hid (Below.refl _ _)⟩
  case round =>
    obtain ⟨wo, hwo⟩ : ∃ wo : World, wo = wr := ⟨_, rfl⟩
    subst hwo
    obtain ⟨t, ht, rfl, HAL, HB⟩ := hrel
    by_cases hlt : t < n
    · obtain ⟨b, off, rfl, hlb, _⟩ := HR.out.at_ (show 0 < n * 2 by omega)
      obtain ⟨c0, c1⟩ := tc_at (HR.out.below HB.out) hlt
      have lb : b < wo.heap.size := Nat.lt_of_lt_of_le hlb HB.out.size
      obtain ⟨d, hd⟩ : ∃ d, d = D t := ⟨_, rfl⟩
      have HADD : Hid (¬ ((d.s.n : Int) = vars) → ¬ okZ vars n D) := Lib.hid fun h h2 => h (by rw [hd]; exact h2.2.2.1 t hlt)
      have HGO : Hid ((d.s.n : Int) = vars → ∀ i, i < t + 1 → ((D i).s.n : Int) = vars) := Lib.hid fun h i hi => by
        by_cases e : i = t
        · subst e; rw [← hd]; exact h
        · exact HAL.out i (by omega)
      rw [← hd] at c0 c1
      obtain ⟨dt, ⟨sA, sn, sc, sf⟩⟩ := d
      change _ = some (Value.slice sA sn sc) at c1
      change _ = some (Value.int .i64 dt) at c0
      clear hd
      by_cases he : (sn : Int) = vars
      · have nb : ((sn : Int) != vars) = false := by simp [he]
        have HG2 := Lib.hid (HGO.out he)
        clear he
        go_wp2_with fail
        go_roundw
        case rel => exact ⟨t + 1, by omega, by go_num, HG2, Lib.hid (HB.out.alloc HB.out.size _)⟩
        case measure => simp [intOf]; omega
      · have nb : ((sn : Int) != vars) = true := by simp [he]
        have Q0 := Lib.hid (HADD.out he)
        clear he
        go_wp2_with fail
        go_ret
        exact ⟨⟨3, rfl, fun h => absurd h (by decide), fun h => absurd h Q0.out⟩, HB.out.alloc HB.out.size _⟩
    · have hte : t = n := by omega
      have htI : ¬ (t : Int) < (n : Int) := by omega
      have HALN : Hid (∀ i, i < n → ((D i).s.n : Int) = vars) := Lib.hid (hte ▸ HAL.out)
      clear hte HAL
      go_wp2_with fail
      go_loopw [33] (fun s33 wr => ∃ t : Nat, t ≤ n ∧ s33 = .int .i64 (t : Nat) ∧ Hid (∀ i, i < t → (0 ≤ (D i).t ∧ (D i).t < 7) ∧ ∀ q, q < (D i).s.n → 0 ≤ (D i).s.f q ∧ (D i).s.f q ≤ 8) ∧ Hid (Below w.heap.size w wr)) (fun s33 _ => n - (intOf s33).toNat)
      case atStart => exact ⟨0, Nat.zero_le _, rfl, Lib.hid fun i h => absurd h (by omega), HB⟩
      case round =>
        clear HB
        obtain ⟨wp, hwp⟩ : ∃ wp : World, wp = wr := ⟨_, rfl⟩
        subst hwp
        obtain ⟨t, ht, rfl, HAL, HB⟩ := hrel
        by_cases hlt : t < n
        · obtain ⟨b, off, rfl, hlb, _⟩ := HR.out.at_ (show 0 < n * 2 by omega)
          obtain ⟨c0, c1⟩ := tc_at (HR.out.below HB.out) hlt
          have lb : b < wp.heap.size := Nat.lt_of_lt_of_le hlb HB.out.size
          have hgd := (HG.out t).2.below HB.out
          obtain ⟨d, hd⟩ : ∃ d, d = D t := ⟨_, rfl⟩
          have HADD : Hid (¬ ((0 ≤ d.t ∧ d.t < 7) ∧ ∀ q, q < d.s.n → 0 ≤ d.s.f q ∧ d.s.f q ≤ 8) → ¬ okZ vars n D) := Lib.hid fun h h2 => h (by rw [hd]; exact h2.2.2.2 t hlt)
          have HGO : Hid (((0 ≤ d.t ∧ d.t < 7) ∧ ∀ q, q < d.s.n → 0 ≤ d.s.f q ∧ d.s.f q ≤ 8) → ∀ i, i < t + 1 → (0 ≤ (D i).t ∧ (D i).t < 7) ∧ ∀ q, q < (D i).s.n → 0 ≤ (D i).s.f q ∧ (D i).s.f q ≤ 8) := Lib.hid fun h i hi => by
            by_cases e : i = t
            · subst e; rw [← hd]; exact h
            · exact HAL.out i (by omega)
          rw [← hd] at c0 c1 hgd
          obtain ⟨dt, ⟨sA, sn, sc, sf⟩⟩ := d
          change _ = some (Value.slice sA sn sc) at c1
          change _ = some (Value.int .i64 dt) at c0
          obtain ⟨hsr, _, hsl, hsm⟩ := hgd
          change Rd wp sA sn (fun i => .int .i64 (sf i)) at hsr
          change sn ≤ sc at hsl
          change sc ≤ maxLen at hsm
          unfold maxLen at hsm
          have HSR := Lib.hid hsr
          clear hd hsr
          obtain ⟨x, hx⟩ : ∃ x, x = wp.heap.size := ⟨_, rfl⟩
          obtain ⟨W3, hW3⟩ : ∃ W3, W3 = (wp.alloc (.cells #[.int .i64 dt, .slice sA sn sc] 43)).alloc (.cells #[.int .i64 dt] 3) := ⟨_, rfl⟩
          have hb3 : Below wp.heap.size wp W3 := by rw [hW3]; exact ((Below.refl _ _).alloc (Nat.le_refl _) _).alloc (by simp) _
          have d0 : W3.cell? ⟨x, 0, none⟩ = some (.int .i64 dt) := by rw [hW3, hx]; simp [go_sem]
          have d1 : W3.cell? ⟨x, 1, none⟩ = some (.slice sA sn sc) := by rw [hW3, hx]; simp [go_sem]
          have lx : x < W3.heap.size := by rw [hW3, hx]; simp; omega
          have hz : W3.heap.size = x + 2 := by rw [hW3, hx]; simp
          have HRD : Hid (Rd W3 (some ⟨x + 1, 0, none⟩) 1 (fun _ => .int .i64 dt)) := Lib.hid (by
            rw [hW3, hx]
            have := Rd.one (wp.alloc (.cells #[.int .i64 dt, .slice sA sn sc] 43)) (.int .i64 dt) 3
            rw [show (wp.alloc (.cells #[.int .i64 dt, .slice sA sn sc] 43)).heap.size = wp.heap.size + 1 by simp] at this
            exact this)
          have HS3 := Lib.hid (HSR.out.below hb3)
          have HB3 := Lib.hid (HB.out.trans (hb3.mono HB.out.size))
          have HW3 := Lib.hid hW3
          have HX := Lib.hid hx
          clear hb3 hW3 hx hz
          go_wp2_with fail
          rw [← HX.out, ← HW3.out]
          refine (inside_any 7 (some ⟨x + 1, 0, none⟩) 1 1 (fun _ => dt) W3 HRD.out (by decide)).mono ?_
          rintro e w' ⟨rfl, rfl⟩
          by_cases hdt : 0 ≤ dt ∧ dt < 7
          case neg =>
            rw [show insB 7 1 (fun _ => dt) = false from insB_no (k := 0) (by omega) hdt]
            have Q0 := Lib.hid (HADD.out fun h => hdt h.1)
            go_wp2_with fail
            go_ret
            exact ⟨⟨4, rfl, fun h => absurd h (by decide), fun h => absurd h Q0.out⟩, HB3.out⟩
          rw [show insB 7 1 (fun _ => dt) = true from insB_iff.2 fun _ _ => hdt]
          go_wp2_with fail
          go_loop [45] (fun s45 => ∃ q : Nat, q ≤ sn ∧ s45 = .int .i64 (q : Nat) ∧ Hid (∀ j, j < q → 0 ≤ sf j ∧ sf j ≤ 8)) (fun s45 => sn - (intOf s45).toNat)
          case atStart => exact ⟨0, Nat.zero_le _, rfl, Lib.hid fun i h => absurd h (by omega)⟩
          case round =>
            obtain ⟨q, hq, rfl, HQ⟩ := hrel
            by_cases hqs : q < sn
            · obtain ⟨b', o', e', lb', hc⟩ := HS3.out.at_ hqs
              subst e'
              obtain ⟨y, hy⟩ : ∃ y, y = sf q := ⟨_, rfl⟩
              rw [← hy] at hc
              have HY := Lib.hid hy
              clear hy
              go_wp2_with fail
              refine (within_any 0 y 8 W3).mono ?_
              rintro e w' ⟨rfl, rfl⟩
              by_cases hyb : 0 ≤ y ∧ y ≤ 8
              · rw [inB_yes hyb.1 hyb.2]
                go_wp2_with fail
                go_round
                case rel => exact ⟨q + 1, by omega, by go_num, Lib.hid fun j hj => by
                  by_cases e : j = q
                  · subst e; rw [← HY.out]; exact hyb
                  · exact HQ.out j (by omega)⟩
                case measure => simp [intOf]; omega
              · rw [inB_no hyb]
                have Q0 := Lib.hid (HADD.out fun h => hyb (by rw [HY.out]; exact h.2 q hqs))
                go_wp2_with fail
                go_ret
                exact ⟨⟨4, rfl, fun h => absurd h (by decide), fun h => absurd h Q0.out⟩, HB3.out⟩
            · have hqe : q = sn := by omega
              have hqI : ¬ (q : Int) < (sn : Int) := by omega
              have HG2 := Lib.hid (HGO.out ⟨hdt, fun j hj => HQ.out j (by change j < sn at hj; omega)⟩)
              clear hqe
              go_wp2_with fail
              go_roundw
              case rel => exact ⟨t + 1, by omega, by go_num, HG2, HB3⟩
              case measure => simp [intOf]; omega
        · have hte : t = n := by omega
          have htI2 : ¬ (t : Int) < (n : Int) := by omega
          have HOK : Hid (okZ vars n D) := Lib.hid ⟨h1, by omega, HALN.out, hte ▸ HAL.out⟩
          clear hte HAL
          go_wp2_with fail
          go_ret
          exact ⟨⟨0, rfl, fun _ => HOK.out, fun _ => rfl⟩, HB.out⟩
end Go.Proofs.Ytoodmoliglhpiaa
