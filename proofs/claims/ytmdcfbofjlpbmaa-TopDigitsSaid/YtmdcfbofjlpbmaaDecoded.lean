/- What the references' Decoded and DigitsCheck compute. Conditions: the digits read as told. -/
import Derived.Test.YtmdcfbofjlpbmaaMoved
import Derived.Test.YtmdcfbofjlpbmaaCountRef
import Derived.Deep.RegionHeld3
namespace Go.Proofs.Ytmdcfbofjlpbmaa
open Go.ChangeShapes Go.WideShapes Go.ChangeAt Go.RowKit
set_option linter.unusedVariables false
def dcB (M : Nat) (g : Nat → Int) : Bool := decide (M % 4 = 0 ∧ ∀ k, k < M / 4 → bdO g k = false)
def DecRet (M : Nat) (g : Nat → Int) (w : World) (e : Ending) (w' : World) : Prop :=
  Below w.heap.size w w' ∧ ((dcB M g = false ∧ e = .returned (.tuple #[.slice none 0 0, .bool false])) ∨ (dcB M g = true ∧ ∃ A c, e = .returned (.tuple #[.slice A (M / 4) c, .bool true]) ∧ Rd w' A ((M / 4) * 4) (fun q => .int .i64 (g q)) ∧ M / 4 ≤ c ∧ c ≤ maxLen))
set_option maxRecDepth 100000 in
set_option maxHeartbeats 2000000 in
theorem decoded_any (A : Option Addr) (M c : Nat) (g : Nat → Int) (w : World) (h : Rd w A M (fun i => .int .i64 (g i))) (hz : M * 8 ≤ 140737488351232) :
    Calls Try.prog 8 #[.slice A M c] w (DecRet M g w) := by
  by_cases h4 : M % 4 = 0
  · have hM4 : ((M : Nat) : Int) % 4 = 0 := by omega
    obtain ⟨m, hm⟩ : ∃ m, M = 4 * m := ⟨M / 4, by omega⟩
    have hm4 : M / 4 = m := by omega
    have H := Lib.hid h
    have HM := Lib.hid hm
    have HM4 := Lib.hid hm4
    have hmM : m ≤ M := by omega
    clear h hm hm4 h4
    go_enter Try.func8, Try.ntmps8
    go_wp2_with fail
    clear hM4
    go_loopw [4, 5] (fun s4 s5 wr => ∃ (k x : Nat) (A' : Option Addr) (c' : Nat), k ≤ m ∧ Hid (x = 4 * k) ∧ x ≤ M ∧ s5 = .int .i64 (x : Nat) ∧ s4 = .slice A' k c' ∧ Hid (Own wr w.heap.size 28 4 A' k c' x (fun q => .int .i64 (g q))) ∧ Hid (∀ j, j < k → bdO g j = false) ∧ Hid (Below w.heap.size w wr)) (fun _ s5 _ => M - (intOf s5).toNat)
    case atStart => exact ⟨0, 0, none, 0, Nat.zero_le _, Lib.hid rfl, Nat.zero_le _, rfl, rfl, Lib.hid (Own.nil _ _ _ _ _), Lib.hid (fun j hj => absurd hj (Nat.not_lt_zero _)), Lib.hid (Below.refl _ _)⟩
    case round =>
      obtain ⟨wo, rfl⟩ : ∃ wo : World, wo = wr := ⟨_, rfl⟩
      obtain ⟨k, x, A', c', hk, HX, hxM, rfl, rfl, HO, HAL, HB⟩ := hrel
      by_cases hlt : k < m
      · have hx4 : x + 4 ≤ M := by have := HX.out; have := HM.out; omega
        obtain ⟨b, off, rfl, hbw, hcl0⟩ := H.out (by omega)
        have hcl : ∀ i, i < M → wo.cell? ⟨b, off + i, none⟩ = some (.int .i64 (g i)) := fun i hi => (HB.out.cell (p := ⟨b, off + i, none⟩) hbw).trans (hcl0 i hi)
        have hb : b < wo.heap.size := by have := HB.out.size; omega
        have hk32 : (k + 1) * 32 ≤ 140737488355328 := by have := HM.out; omega
        have DS : Hid (∀ W, Below w.heap.size w W → W.cell? ⟨b, off + x, none⟩ = some (.int .i64 (g x)) ∧ W.cell? ⟨b, off + (x + 1), none⟩ = some (.int .i64 (g (x + 1))) ∧ W.cell? ⟨b, off + (x + 2), none⟩ = some (.int .i64 (g (x + 2))) ∧ W.cell? ⟨b, off + (x + 3), none⟩ = some (.int .i64 (g (x + 3)))) := Lib.hid fun W hW => ⟨(hW.cell (p := ⟨b, off + x, none⟩) hbw).trans (hcl0 x (by omega)), (hW.cell (p := ⟨b, off + (x + 1), none⟩) hbw).trans (hcl0 _ (by omega)), (hW.cell (p := ⟨b, off + (x + 2), none⟩) hbw).trans (hcl0 _ (by omega)), (hW.cell (p := ⟨b, off + (x + 3), none⟩) hbw).trans (hcl0 _ (by omega))⟩
        have d0 : wo.cell? ⟨b, off + x, none⟩ = some (.int .i64 (g x)) := hcl x (by omega)
        have d1 : wo.cell? ⟨b, off + (x + 1), none⟩ = some (.int .i64 (g (x + 1))) := hcl (x + 1) (by omega)
        have d2 : wo.cell? ⟨b, off + (x + 2), none⟩ = some (.int .i64 (g (x + 2))) := hcl (x + 2) (by omega)
        have d3 : wo.cell? ⟨b, off + (x + 3), none⟩ = some (.int .i64 (g (x + 3))) := hcl (x + 3) (by omega)
        have E : Hid (bdO g k = decide (g x = 1 ∧ g (x + 3) ≠ 0)) := Lib.hid (by rw [HX.out]; rfl)
        obtain ⟨x0, h0⟩ : ∃ y, y = g x := ⟨_, rfl⟩
        obtain ⟨x1, h1⟩ : ∃ y, y = g (x + 1) := ⟨_, rfl⟩
        obtain ⟨x2, h2⟩ : ∃ y, y = g (x + 2) := ⟨_, rfl⟩
        obtain ⟨x3, h3⟩ : ∃ y, y = g (x + 3) := ⟨_, rfl⟩
        rw [← h0] at d0 E DS
        rw [← h1] at d1 DS
        rw [← h2] at d2 DS
        rw [← h3] at d3 E DS
        have i1 : (x : Int) < (M : Int) := by omega
        have i2 : (x : Int) + 1 < (M : Int) := by omega
        have i3 : (x : Int) + 2 < (M : Int) := by omega
        have i4 : (x : Int) + 3 < (M : Int) := by omega
        have j1 : (0 : Int) ≤ (x : Int) := by omega
        have j2 : (0 : Int) ≤ (x : Int) + 1 := by omega
        have j3 : (0 : Int) ≤ (x : Int) + 2 := by omega
        have j4 : (0 : Int) ≤ (x : Int) + 3 := by omega
        have t1 : ((x : Int) + 1).toNat = x + 1 := by omega
        have t2 : ((x : Int) + 2).toNat = x + 2 := by omega
        have t3 : ((x : Int) + 3).toNat = x + 3 := by omega
        have w1 : IntKind.i64.wrap ((x : Int) + 1) = (x : Int) + 1 := IntWalk.i64_in _ (by omega)
        have w2 : IntKind.i64.wrap ((x : Int) + 2) = (x : Int) + 2 := IntWalk.i64_in _ (by omega)
        have w3 : IntKind.i64.wrap ((x : Int) + 3) = (x : Int) + 3 := IntWalk.i64_in _ (by omega)
        have DD := Lib.hid (And.intro h0 (And.intro h1 (And.intro h2 h3)))
        have hsz := HB.out.size
        clear hcl hcl0 h0 h1 h2 h3
        by_cases hbad : x0 = 1 ∧ x3 ≠ 0
        · have HE : Hid (bdO g k = true) := Lib.hid (by rw [E.out]; exact decide_eq_true hbad)
          have q0 : (x0 == 1) = true := by rw [beq_iff_eq]; exact hbad.1
          have q3 : (x3 != 0) = true := by rw [bne_iff_ne]; exact hbad.2
          have HF : Hid (dcB M g = false) := Lib.hid (decide_eq_false fun hh => by
            have := hh.2 k (by rw [HM4.out]; exact hlt)
            rw [HE.out] at this; cases this)
          clear hbad
          go_wp2_with fail
          go_ret2
          exact ⟨HB.out, .inl ⟨HF.out, rfl⟩⟩
        · have HE : Hid (bdO g k = false) := Lib.hid (by rw [E.out]; exact decide_eq_false hbad)
          by_cases e0 : x0 = 1
          case' pos =>
            have q0 : (x0 == 1) = true := by rw [beq_iff_eq]; exact e0
            have q3 : (x3 != 0) = false := by
              have : x3 = 0 := Classical.byContradiction fun h => hbad ⟨e0, h⟩
              rw [this]; rfl
            clear hbad e0
          case' neg =>
            have q0 : (x0 == 1) = false := by rw [beq_eq_false_iff_ne]; exact e0
            clear hbad e0
          all_goals
            go_wp2_with fail
            go_region_held3 (fun W => W.cell? ⟨b, off + x, none⟩ = some (.int .i64 x0) ∧ W.cell? ⟨b, off + (x + 1), none⟩ = some (.int .i64 x1) ∧ W.cell? ⟨b, off + (x + 2), none⟩ = some (.int .i64 x2) ∧ W.cell? ⟨b, off + (x + 3), none⟩ = some (.int .i64 x3)) (first | go_keep | exact KP) (first
              | (refine step_app _ rfl (.tmp 29) (.tmp 50) 22 rfl EO4 rfl ((HO.out.alloc _).drew) rfl (l := 4) (by omega) ((rd4 wo rfl (.int .i64 x0) (.int .i64 x1) (.int .i64 x2) (.int .i64 x3) 28).drew) (fun i _ => by split <;> (try split) <;> (try split) <;> rfl) (by unfold maxLen; omega) (by omega) (by simp; omega) (k + 1) (x + 4) rfl rfl ?_; intro A2 c2 w4 hown2 hg2 hat2 hbl2; have KB := Lib.hid (((HB.out.alloc HB.out.size (.cells #[.int .i64 x0, .int .i64 x1, .int .i64 x2, .int .i64 x3] 28)).drew).trans hbl2); have KP := DS.out _ KB.out))
            go_wp2_with fail
            go_roundw
            case rel => exact ⟨k + 1, x + 4, A2, c2, by omega, Lib.hid (by have := HX.out; omega), hx4, by go_num, rfl, Lib.hid (hown2.congr fun q hq => by
              obtain ⟨e0, e1, e2, e3⟩ := DD.out
              by_cases e : q < x
              · rw [cat_lt e]
              · rw [cat_ge (by omega)]
                have : q = x ∨ q = x + 1 ∨ q = x + 2 ∨ q = x + 3 := by omega
                rcases this with rfl | rfl | rfl | rfl
                · rw [Nat.sub_self]; show Value.int .i64 x0 = _; rw [e0]
                · rw [show x + 1 - x = 1 by omega]; show Value.int .i64 x1 = _; rw [e1]
                · rw [show x + 2 - x = 2 by omega]; show Value.int .i64 x2 = _; rw [e2]
                · rw [show x + 3 - x = 3 by omega]; show Value.int .i64 x3 = _; rw [e3]), Lib.hid (fun j hj => by
              by_cases e : j = k
              · subst e; exact HE.out
              · exact HAL.out j (Nat.lt_of_le_of_ne (Nat.le_of_lt_succ hj) e)), KB⟩
            case measure => simp [intOf]; omega
      · have hxe : x = M := by have := HX.out; have := HM.out; omega
        obtain rfl : k = m := by omega
        subst hxe
        have HF : Hid (dcB x g = true) := Lib.hid (decide_eq_true ⟨by have := HM.out; omega, by rw [HM4.out]; exact HAL.out⟩)
        have hle := HO.out.le
        go_wp2_with fail
        go_ret2
        refine ⟨HB.out, .inr ⟨HF.out, A', c', by rw [HM4.out]; rfl, ?_, by rw [HM4.out]; exact hle.1, hle.2⟩⟩
        rw [HM4.out, Nat.mul_comm, ← HM.out]; exact HO.out.rd
  · have hq : (((M : Nat) : Int) % 4 != 0) = true := by rw [bne_iff_ne]; omega
    have HF : Hid (dcB M g = false) := Lib.hid (decide_eq_false fun hh => h4 hh.1)
    clear h4 h
    go_enter Try.func8, Try.ntmps8
    go_wp2_with fail
    go_ret2
    exact ⟨Below.refl _ _, .inl ⟨HF.out, rfl⟩⟩
end Go.Proofs.Ytmdcfbofjlpbmaa
