/- What tape.Check computes. Conditions: as each theorem states. -/
import Derived.Test.YtcbcbanknjhhhaaPredV
import Derived.Test.YtcbcbanknjhhhaaRowsOf
import Derived.Test.YtcbcbanknjhhhaaFirst
namespace Go.Proofs.Ytcbcbanknjhhhaa
open Go.ChangeShapes Go.WideShapes Go.ChangeAt Go.RowKit
set_option linter.unusedVariables false
/-- a row of a machine's table reads as a function: three numbers a rule -/
def SI.rules (W : World) (s : SI) : Prop := Rd W s.A (s.n * 3) (fun i => .int .i64 (s.f i)) ∧ s.n ≤ maxLen
theorem SI.rules.below {W w : World} {s : SI} (h : s.rules W) (hb : Below W.heap.size W w) : s.rules w := ⟨h.1.below hb, h.2⟩
def Tm (W : World) (A : Option Addr) (n : Nat) (R : Nat → SI) : Prop := Rd W A n (fun i => (R i).val) ∧ ∀ i, i < n → (R i).rules W
theorem Tm.below {W w : World} {A : Option Addr} {n : Nat} {R : Nat → SI} (h : Tm W A n R) (hb : Below W.heap.size W w) : Tm w A n R := ⟨h.1.below hb, fun i hi => (h.2 i hi).below hb⟩
theorem Rd.atR3 {w : World} {A : Option Addr} {n : Nat} {P : Nat → Int} (h : Rd w A (n * 3) (fun q => .int .i64 (P q))) {k : Nat} (hk : k < n) :
    ∃ b off, A = some ⟨b, off, none⟩ ∧ b < w.heap.size ∧ w.cell? ⟨b, off + k * 3, none⟩ = some (.int .i64 (P (3 * k))) ∧ w.cell? ⟨b, off + k * 3 + 1, none⟩ = some (.int .i64 (P (3 * k + 1))) ∧ w.cell? ⟨b, off + k * 3 + 2, none⟩ = some (.int .i64 (P (3 * k + 2))) := by
  obtain ⟨b, off, e, hb, hc⟩ := h (by omega)
  have e0 : k * 3 = 3 * k := Nat.mul_comm _ _
  exact ⟨b, off, e, hb, by rw [e0]; exact hc _ (by omega), by rw [e0, Nat.add_assoc]; exact hc _ (by omega), by rw [e0, Nat.add_assoc]; exact hc _ (by omega)⟩
def ruE (S Y : Int) (f : Nat → Int) (j : Nat) : Int :=
  if f (3 * j) < 0 ∨ Y ≤ f (3 * j) then 2 else if f (3 * j + 1) < -1 ∨ 1 < f (3 * j + 1) then 4 else if f (3 * j + 2) < 0 ∨ S < f (3 * j + 2) then 2 else 0
def rwE (S Y : Int) (R : Nat → SI) (i : Nat) : Int := fstE (ruE S Y (R i).f) (R i).n
def lnB (Y : Int) (R : Nat → SI) (i : Nat) : Bool := ((R i).n : Int) != Y
def tpE (S Y : Int) (n : Nat) (R : Nat → SI) : Int :=
  if S < 1 ∨ 5 < S ∨ Y < 2 ∨ 4 < Y then 1 else if (n : Int) ≠ S ∨ anyB (lnB Y R) n = true then 3 else fstE (rwE S Y R) n
set_option maxRecDepth 100000 in
theorem rowLen_any (S Y : Int) (T : Value) (g n c : Nat) (A : Option Addr) (w : World) (h1 : w.cell? ⟨g, 1, none⟩ = some (.int .i64 Y)) :
    Calls Try.prog 19 #[.slice A n c, .pointer (some ⟨g, 0, none⟩)] w fun e w' => e = .returned (.bool ((n : Int) != Y)) ∧ w = w' := by
  go_enter Try.func19, Try.ntmps19
  go_wp2_with fail
  go_ret
  exact ⟨rfl, rfl⟩
set_option maxRecDepth 100000 in
set_option maxHeartbeats 4000000 in
theorem tapeCheck_any (S Y : Int) (A : Option Addr) (n c : Nat) (R : Nat → SI) (w : World) (h : Tm w A n R) (hn : n ≤ maxLen) :
    Calls Try.prog 12 #[.agg #[.int .i64 S, .int .i64 Y, .slice A n c]] w fun e w' => e = .returned (.int .i64 (tpE S Y n R)) ∧ Below w.heap.size w w' := by
  have H := Lib.hid h
  clear h
  by_cases hb : S < 1 ∨ 5 < S ∨ Y < 2 ∨ 4 < Y
  · have e1 : tpE S Y n R = 1 := if_pos hb
    rw [e1]
    clear e1
    by_cases b1 : S < 1
    · go_enter Try.func12, Try.ntmps12
      go_wp2_with fail
      go_ret
      exact ⟨rfl, (Below.refl _ _).alloc (Nat.le_refl _) _⟩
    · by_cases b2 : 5 < S
      · go_enter Try.func12, Try.ntmps12
        go_wp2_with fail
        go_ret
        exact ⟨rfl, (Below.refl _ _).alloc (Nat.le_refl _) _⟩
      · by_cases b3 : Y < 2
        · go_enter Try.func12, Try.ntmps12
          go_wp2_with fail
          go_ret
          exact ⟨rfl, (Below.refl _ _).alloc (Nat.le_refl _) _⟩
        · have b4 : 4 < Y := by omega
          go_enter Try.func12, Try.ntmps12
          go_wp2_with fail
          go_ret
          exact ⟨rfl, (Below.refl _ _).alloc (Nat.le_refl _) _⟩
  · have e1 : tpE S Y n R = if (n : Int) ≠ S ∨ anyB (lnB Y R) n = true then 3 else fstE (rwE S Y R) n := if_neg hb
    obtain ⟨S1, S5, Y2, Y4⟩ : 1 ≤ S ∧ S ≤ 5 ∧ 2 ≤ Y ∧ Y ≤ 4 := by omega
    clear hb
    by_cases hnS : (n : Int) = S
    · subst hnS
      have B0 := (Below.refl w.heap.size w).alloc (Nat.le_refl _) (.cells #[.int .i64 n, .int .i64 Y, .slice A n c] 24)
      have d1 : (w.alloc (.cells #[.int .i64 (n : Int), .int .i64 Y, .slice A n c] 24)).cell? ⟨w.heap.size, 1, none⟩ = some (.int .i64 Y) := by simp [go_sem]
      cases hq : anyB (lnB Y R) n with
      | true =>
        rw [if_pos (.inr hq)] at e1
        rw [e1]
        have HQ := Lib.hid hq
        have HB0 := Lib.hid B0
        have D1 := Lib.hid d1
        clear e1 hq B0 d1
        go_enter Try.func12, Try.ntmps12
        go_wp2_with fail
        refine (containsV_any 19 #[.pointer (some ⟨w.heap.size, 0, none⟩)] A n c (fun i => (R i).val) (lnB Y R) _ ((H.out.below HB0.out).1) hn (fun _ _ => rfl) (fun i hi => rowLen_any n Y (.slice A n c) w.heap.size (R i).n (R i).c (R i).A _ D1.out)).mono ?_
        rintro e w' ⟨rfl, rfl⟩
        rw [HQ.out]
        go_wp2_with fail
        go_ret
        exact ⟨rfl, HB0.out⟩
      | false =>
        rw [if_neg (by rw [hq]; simp)] at e1
        have d0 : (w.alloc (.cells #[.int .i64 (n : Int), .int .i64 Y, .slice A n c] 24)).cell? ⟨w.heap.size, 0, none⟩ = some (.int .i64 n) := by simp [go_sem]
        have HQ := Lib.hid hq
        have HB0 := Lib.hid B0
        have D0 := Lib.hid d0
        have D1 := Lib.hid d1
        have E1 := Lib.hid e1
        clear e1 hq B0 d0 d1
        go_enter Try.func12, Try.ntmps12
        go_wp2_with fail
        refine (containsV_any 19 #[.pointer (some ⟨w.heap.size, 0, none⟩)] A n c (fun i => (R i).val) (lnB Y R) _ ((H.out.below HB0.out).1) hn (fun _ _ => rfl) (fun i hi => rowLen_any n Y (.slice A n c) w.heap.size (R i).n (R i).c (R i).A _ D1.out)).mono ?_
        rintro e w' ⟨rfl, rfl⟩
        rw [HQ.out]
        go_wp2_with fail
        obtain ⟨W1, hW1⟩ : ∃ W, W = w.alloc (.cells #[.int .i64 (n : Int), .int .i64 Y, .slice A n c] 24) := ⟨_, rfl⟩
        obtain ⟨g, hg⟩ : ∃ g, g = w.heap.size := ⟨_, rfl⟩
        have HB := HB0.out
        have HD0 := D0.out
        have HD1 := D1.out
        have gs : g < W1.heap.size := by rw [hW1, hg]; simp
        rw [← hW1] at HB HD0 HD1 ⊢
        have hgw : Below w.heap.size w W1 := HB
        rw [← hg] at HD0 HD1 ⊢
        have GW := Lib.hid hgw
        have X0 := Lib.hid HD0
        have X1 := Lib.hid HD1
        clear hW1 hg HB HD0 HD1 HB0 D0 D1 hgw
        go_loopw [40] (fun s40 wr => ∃ i : Nat, i ≤ n ∧ s40 = .int .i64 i ∧ fstE (rwE n Y R) i = 0 ∧ Below W1.heap.size W1 wr) (fun s40 _ => n - (intOf s40).toNat)
        case atStart => exact ⟨0, Nat.zero_le _, rfl, rfl, Below.refl _ _⟩
        case round =>
          obtain ⟨wo, rfl⟩ : ∃ wo : World, wo = wr := ⟨_, rfl⟩
          obtain ⟨i, hi, rfl, hz, hbel⟩ := hrel
          have HZ := Lib.hid hz
          clear hz
          by_cases hlt : i < n
          · have hbw := GW.out.trans (hbel.mono GW.out.size)
            have hT := H.out.below hbw
            obtain ⟨b, off, rfl, _, hcell⟩ := hT.1.at_ hlt
            obtain ⟨hrd, hrl⟩ := hT.2 i hlt
            obtain ⟨RA, hRA⟩ : ∃ x, x = (R i).A := ⟨_, rfl⟩
            obtain ⟨rn, hrn⟩ : ∃ x, x = (R i).n := ⟨_, rfl⟩
            obtain ⟨rc, hrc⟩ : ∃ x, x = (R i).c := ⟨_, rfl⟩
            obtain ⟨rf, hrf⟩ : ∃ x, x = (R i).f := ⟨_, rfl⟩
            have hcell2 : wo.cell? ⟨b, off + i, none⟩ = some (.slice RA rn rc) := by rw [hcell, hRA, hrn, hrc]; rfl
            rw [← hRA, ← hrn, ← hrf] at hrd
            rw [← hrn] at hrl
            have hrw : rwE n Y R i = fstE (ruE n Y rf) rn := by rw [hrn, hrf]; rfl
            have HRW := Lib.hid hrw
            have HRD := Lib.hid hrd
            clear hcell hRA hrn hrc hrf hrw hrd hT
            unfold maxLen at hrl
            go_wp2_with fail
            go_loopw [46] (fun s46 wr => ∃ j : Nat, j ≤ rn ∧ s46 = .int .i64 j ∧ fstE (ruE n Y rf) j = 0 ∧ Below wo.heap.size wo wr) (fun s46 _ => rn - (intOf s46).toNat)
            case atStart => exact ⟨0, Nat.zero_le _, rfl, rfl, Below.refl _ _⟩
            case round =>
              clear hcell2
              obtain ⟨wq, rfl⟩ : ∃ wq : World, wq = wr := ⟨_, rfl⟩
              obtain ⟨j, hj, rfl, hy, hbq⟩ := hrel
              have HY := Lib.hid hy
              clear hy
              have B2 := hbel.trans (hbq.mono hbel.size)
              by_cases hjn : j < rn
              · obtain ⟨rb, ro, rfl, hrb, r0, r1, r2⟩ := (HRD.out.below hbq).atR3 hjn
                have m0 := (B2.cell (p := ⟨g, 0, none⟩) gs).trans X0.out
                have m1 := (B2.cell (p := ⟨g, 1, none⟩) gs).trans X1.out
                have sz2 := B2.size
                have gq : g < wq.heap.size := by omega
                have hru : ruE n Y rf j = if rf (3 * j) < 0 ∨ Y ≤ rf (3 * j) then 2 else if rf (3 * j + 1) < -1 ∨ 1 < rf (3 * j + 1) then 4 else if rf (3 * j + 2) < 0 ∨ (n : Int) < rf (3 * j + 2) then 2 else 0 := rfl
                obtain ⟨x, hx⟩ : ∃ x, x = rf (3 * j) := ⟨_, rfl⟩
                obtain ⟨y, hy⟩ : ∃ x, x = rf (3 * j + 1) := ⟨_, rfl⟩
                obtain ⟨z, hz⟩ : ∃ x, x = rf (3 * j + 2) := ⟨_, rfl⟩
                rw [← hx, ← hy, ← hz] at hru
                rw [← hx] at r0
                rw [← hy] at r1
                rw [← hz] at r2
                have HRU := Lib.hid hru
                clear hx hy hz hru
                have B3 := (GW.out.trans (B2.mono GW.out.size)).alloc (by have := GW.out.size; omega) (.cells #[.int .i64 x, .int .i64 y, .int .i64 z] 55)
                have B4 := hbq.alloc hbq.size (.cells #[.int .i64 x, .int .i64 y, .int .i64 z] 55)
                have bad : ∀ v : Int, ruE n Y rf j = v → v ≠ 0 → tpE n Y n R = v := fun v hv h0 => by
                  rw [E1.out]
                  exact fstE_stop HZ.out (by rw [HRW.out]; exact fstE_stop HY.out hv h0 _ hjn) h0 _ hlt
                have HBAD := Lib.hid bad
                clear bad
                by_cases x1 : x < 0
                · go_wp2_with fail
                  go_ret
                  exact ⟨ret_int (by rw [HBAD.out 2 (by rw [HRU.out, if_pos (.inl x1)]) (by decide)]), B3⟩
                · by_cases x2 : Y ≤ x
                  · go_wp2_with fail
                    go_ret
                    exact ⟨ret_int (by rw [HBAD.out 2 (by rw [HRU.out, if_pos (.inr x2)]) (by decide)]), B3⟩
                  · by_cases y1 : y < -1
                    · go_wp2_with fail
                      go_ret
                      exact ⟨ret_int (by rw [HBAD.out 4 (by rw [HRU.out, if_neg (by omega), if_pos (.inl y1)]) (by decide)]), B3⟩
                    · by_cases y2 : 1 < y
                      · go_wp2_with fail
                        go_ret
                        exact ⟨ret_int (by rw [HBAD.out 4 (by rw [HRU.out, if_neg (by omega), if_pos (.inr y2)]) (by decide)]), B3⟩
                      · by_cases z1 : z < 0
                        · go_wp2_with fail
                          go_ret
                          exact ⟨ret_int (by rw [HBAD.out 2 (by rw [HRU.out, if_neg (by omega), if_neg (by omega), if_pos (.inl z1)]) (by decide)]), B3⟩
                        · by_cases z2 : (n : Int) < z
                          · go_wp2_with fail
                            go_ret
                            exact ⟨ret_int (by rw [HBAD.out 2 (by rw [HRU.out, if_neg (by omega), if_neg (by omega), if_pos (.inr z2)]) (by decide)]), B3⟩
                          · go_wp2_with fail
                            go_roundw
                            case rel => exact ⟨j + 1, by omega, by go_num, fstE_next HY.out (by rw [HRU.out, if_neg (by omega), if_neg (by omega), if_neg (by omega)]), B4⟩
                            case measure => simp [intOf]; omega
              · obtain rfl : j = rn := by omega
                go_wp2_with fail
                go_roundw
                case rel => exact ⟨i + 1, by omega, by go_num, fstE_next HZ.out (by rw [HRW.out]; exact HY.out), B2⟩
                case measure => simp [intOf]; omega
          · obtain rfl : i = n := by omega
            go_wp2_with fail
            go_ret
            exact ⟨ret_int (by rw [E1.out, HZ.out]), GW.out.trans (hbel.mono GW.out.size)⟩
    · rw [if_pos (.inl hnS)] at e1
      rw [e1]
      have hne : ((n : Int) != S) = true := by rw [bne_iff_ne]; exact hnS
      clear e1
      go_enter Try.func12, Try.ntmps12
      go_wp2_with fail
      go_ret
      exact ⟨rfl, (Below.refl _ _).alloc (Nat.le_refl _) _⟩
end Go.Proofs.Ytcbcbanknjhhhaa
