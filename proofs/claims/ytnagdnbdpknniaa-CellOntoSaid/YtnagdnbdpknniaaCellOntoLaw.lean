/- Onto and one to one: what the laws say of cell.Onto, cell.Single and cell.Many. No condition. -/
import Derived.Test.YtnagdnbdpknniaaCellOrph
import Derived.Test.YtnagdnbdpknniaaCellMany
import Derived.Test.YtnagdnbdpknniaaCellSingleW
import Derived.Test.YtnagdnbdpknniaaCellCert
import Derived.Deep.RegionLaw
namespace Go.Proofs.Ytnagdnbdpknniaa
open CellM Go.ChangeShapes Go.WideShapes Go.ChangeAt Go.RowKit
set_option linter.unusedVariables false
set_option maxRecDepth 100000 in
theorem onto_any (r : Int) (w : World) (r0 : 0 ≤ r) (r1 : r ≤ 255) :
    Calls Try.prog 12 #[.int .i64 r] w fun e w' => Below w.heap.size w w' ∧ ∃ o, e = .returned (.tuple #[.bool o, .int .i64 0]) ∧ (o = false → ∃ n f, SF r f n = 0) ∧ (o = true → ∃ seen : Nat → Bool, seen 15 = true ∧ ∀ s, s < 16 → seen s = true → ∀ b, nS r s b ≠ 0 ∧ seen (nS r s b) = true) := by
  have hr := inB_yes r0 r1
  go_enter Try.func12, Try.ntmps12
  go_wp2_with (go_at_call 14; refine (wrong_any _ _).mono ?_; rintro e w' ⟨rfl, rfl⟩)
  refine (orphan_any r _ r0 r1).mono ?_
  rintro e w1 ⟨hb, h⟩
  rcases h with ⟨A, n, c, f, rfl, ho, hz, h1, h2⟩ | ⟨rfl, hs⟩
  · have HO := Lib.hid ho
    have HZ := Lib.hid hz
    clear ho hz
    go_wp2_with fail
    go_ret2
    exact ⟨hb, false, rfl, fun _ => ⟨n, f, HZ.out⟩, fun h => by cases h⟩
  · have HS := Lib.hid hs
    clear hs
    go_wp2_with fail
    go_ret2
    exact ⟨hb, true, rfl, fun h => (by cases h), fun _ => HS.out⟩
theorem onto_wrong (r : Int) (w : World) (hr0 : ¬ (0 ≤ r ∧ r ≤ 255)) : Calls Try.prog 12 #[.int .i64 r] w fun e w' => e = .returned (.tuple #[.bool false, .int .i64 4]) ∧ w = w' := by
  have hr := inB_no hr0
  clear hr0
  go_enter Try.func12, Try.ntmps12
  go_wp2_with (go_at_call 14; refine (wrong_any _ _).mono ?_; rintro e w' ⟨rfl, rfl⟩)
  go_ret2
  exact ⟨rfl, rfl⟩
theorem single_wrong (r : Int) (w : World) (hr0 : ¬ (0 ≤ r ∧ r ≤ 255)) : Calls Try.prog 13 #[.int .i64 r] w fun e w' => e = .returned (.tuple #[.bool false, .int .i64 4]) ∧ Below w.heap.size w w' := by
  have hr := inB_no hr0
  clear hr0
  go_enter Try.func13, Try.ntmps13
  go_wp2_with (go_at_call 14; refine (wrong_any _ _).mono ?_; rintro e w' ⟨rfl, rfl⟩)
  go_ret2
  exact ⟨rfl, (Below.refl w.heap.size w).alloc (Nat.le_refl _) _⟩
theorem onto_law {r : Int} (r0 : 0 ≤ r) (r1 : r ≤ 255) {o v : Bool} (h1 : o = false → ∃ n f, SF r f n = 0) (h2 : o = true → ∃ seen : Nat → Bool, seen 15 = true ∧ ∀ s, s < 16 → seen s = true → ∀ b, nS r s b ≠ 0 ∧ seen (nS r s b) = true)
    (h3 : v = true → ∀ W, Cl r W → ∀ p, p < 16 → W p = true → p / 4 = p % 4) : (v = true → o = true) ∧ (o = true → ∀ f n, many r f n = 4) := by
  obtain ⟨R, rfl⟩ : ∃ R : Nat, r = (R : Int) := ⟨r.toNat, by omega⟩
  rcases cert R (by omega) with hA | ⟨⟨l, hl⟩, W, hW, p, hp, hwp, hne⟩
  · refine ⟨fun hv => ?_, fun _ => hA⟩
    cases o
    · obtain ⟨n, f, hz⟩ := h1 rfl
      have := many_zero hz
      rw [hA f n] at this
      cases this
    · rfl
  · refine ⟨fun hv => absurd (h3 hv W hW p hp hwp) hne, fun ho => ?_⟩
    obtain ⟨seen, s15, hc⟩ := h2 ho
    exact absurd hl (SFL_seen hc l 15 (by omega) (by omega) s15)
namespace cellOnto
theorem first_call : mV 204 (fun _ => true) 1 = 4 ∧ mE 204 1 = 0 := by decide
set_option maxRecDepth 100000 in
theorem walk (w : World) (r : Int) (A : Option Addr) (n c : Nat) (f : Nat → Bool) (wr : (Lit.int .i64 r).wf = true) (h : Rd w A n (fun i => .bool (f i))) (hl : n ≤ c) (hm : c ≤ maxLen) (z : c * 1 ≤ 140737488351232) :
    Calls Try.prog 6 #[.int .i64 r, .slice A n c] w fun e w' => e = .returned (.bool true) ∧ Below w.heap.size w w' := by
  have hnm : n ≤ maxLen := by omega
  clear wr
  have hR0 : Rd (w.alloc (.cells #[.bool true] 4)) (some ⟨w.heap.size, 0, none⟩) 1 (fun i => .bool ((fun _ => true) i)) := (Own.made (n := 1) (s := 1) w 0 4 #[.bool true] (fun _ => .bool true) (Nat.zero_le _) rfl (by unfold maxLen; omega) (fun i hi => by
    obtain rfl : i = 0 := by omega
    rfl)).rd
  have HR0 := Lib.hid hR0
  have H := Lib.hid h
  clear hR0 h
  go_enter Try.func6, Try.ntmps6
  go_wp2_with fail
  refine (many_any 204 _ 1 1 (fun _ => true) _ HR0.out (by unfold maxLen; omega)).mono ?_
  rintro e w1 ⟨rfl, hb1⟩
  rw [first_call.1, first_call.2]
  have hb1' : Below w.heap.size w w1 := ((Below.refl w.heap.size w).alloc (Nat.le_refl _) _).trans (hb1.mono (by simp))
  have hs1 := hb1'.size
  have HB1 := Lib.hid hb1'
  clear hb1 hb1' HR0
  by_cases hr : 0 ≤ r ∧ r ≤ 255
  · obtain ⟨r0, r1⟩ := hr
    have hi := inB_yes r0 r1
    go_wp2_with fail
    refine (onto_any r w1 r0 r1).mono ?_
    rintro e w2 ⟨hb2, o, rfl, ho1, ho2⟩
    have hs2 := hb2.size
    have HO1 := Lib.hid ho1
    have HO2 := Lib.hid ho2
    clear ho1 ho2
    go_wp2_with fail
    refine (single_any r w2 r0 r1).mono ?_
    rintro e w3 ⟨⟨v, rfl, hv⟩, hb3⟩
    have hs3 := hb3.size
    obtain ⟨g1, g2⟩ := onto_law r0 r1 HO1.out HO2.out hv
    have G2 := Lib.hid g2
    have hbw : Below w.heap.size w w3 := HB1.out.trans ((hb2.mono hs1).trans (hb3.mono (by omega)))
    have HBW := Lib.hid hbw
    clear hv HO1 HO2 g2 hb2 hb3 hbw
    go_wp2_with fail
    refine (many_any r A n c f w3 (H.out.below HBW.out) hnm).mono ?_
    rintro e w4 ⟨rfl, hb4⟩
    have HB4 : Hid (Below w.heap.size w w4) := Lib.hid (HBW.out.trans (hb4.mono HBW.out.size))
    clear hb4
    unfold maxLen at hnm hm
    by_cases hn : n ≤ 12
    · have e1 : mV r f n = many r f n := by unfold mV; rw [if_pos ⟨⟨r0, r1⟩, hn⟩]
      have e2 : mE r n = 0 := by unfold mE; rw [if_pos ⟨r0, r1⟩, if_pos hn]
      rw [e1, e2]
      have hbd := many_bd r f hn
      obtain ⟨k, hk⟩ : ∃ k, k = many r f n := ⟨_, rfl⟩
      rw [← hk] at hbd ⊢
      clear e1 e2
      cases o
      · cases v
        · clear hk
          go_wp2_with (go_at_call 8; refine (within_any _ _ _ _).mono ?_; rintro e w' ⟨rfl, rfl⟩)
          go_ret
          exact ⟨rfl, HB4.out⟩
        · exact absurd (g1 rfl) (by decide)
      · obtain rfl : k = 4 := by rw [hk]; exact G2.out rfl f n
        clear hk g1
        cases v
        · go_wp2_with (go_at_call 8; refine (within_any _ _ _ _).mono ?_; rintro e w' ⟨rfl, rfl⟩)
          go_ret
          exact ⟨rfl, HB4.out⟩
        · go_wp2_with (go_at_call 8; refine (within_any _ _ _ _).mono ?_; rintro e w' ⟨rfl, rfl⟩)
          go_ret
          exact ⟨rfl, HB4.out⟩
    · have e2 : mE r n = 1 := by unfold mE; rw [if_pos ⟨r0, r1⟩, if_neg hn]
      rw [e2]
      clear e2
      have hn12 : 12 < n := by omega
      cases o
      · cases v
        · go_wp2_with (go_at_call 8; refine (within_any _ _ _ _).mono ?_; rintro e w' ⟨rfl, rfl⟩)
          go_ret
          exact ⟨rfl, HB4.out⟩
        · exact absurd (g1 rfl) (by decide)
      · clear g1
        cases v
        · go_wp2_with (go_at_call 8; refine (within_any _ _ _ _).mono ?_; rintro e w' ⟨rfl, rfl⟩)
          go_ret
          exact ⟨rfl, HB4.out⟩
        · go_wp2_with (go_at_call 8; refine (within_any _ _ _ _).mono ?_; rintro e w' ⟨rfl, rfl⟩)
          go_ret
          exact ⟨rfl, HB4.out⟩
  · have hi := inB_no hr
    have HR := Lib.hid hr
    have e1 : mE r n = 4 := by unfold mE; rw [if_neg hr]
    clear hr
    go_wp2_with fail
    refine (onto_wrong r w1 HR.out).mono ?_; rintro e w2 ⟨rfl, rfl⟩
    go_wp2_with fail
    refine (single_wrong r w1 HR.out).mono ?_; rintro e w2 ⟨rfl, hb2⟩
    have hbw : Below w.heap.size w w2 := HB1.out.trans (hb2.mono hs1)
    have HBW := Lib.hid hbw
    clear hb2 hbw
    go_wp2_with fail
    refine (many_any r A n c f w2 (H.out.below HBW.out) hnm).mono ?_
    rintro e w4 ⟨rfl, hb4⟩
    rw [e1]
    clear e1
    go_wp2_with (go_at_call 8; refine (within_any _ _ _ _).mono ?_; rintro e w' ⟨rfl, rfl⟩)
    go_ret
    exact ⟨rfl, HBW.out.trans (hb4.mono HBW.out.size)⟩
end cellOnto
end Go.Proofs.Ytnagdnbdpknniaa
