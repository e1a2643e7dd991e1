/- slices.Reverse of two or three pointers; comb's letter. Conditions: the row is the call's own; the tree lies as told. -/
import Derived.Test.YtmbemikhbcjfmaaCombTree
import Derived.Test.YtmbemikhbcjfmaaRow
import Derived.BigRegion
import Derived.OwnWalk
namespace Go.Proofs.Ytmbemikhbcjfmaa
open Go.ChangeShapes Go.WideShapes Go.ChangeAt Go.RowKit
set_option linter.unusedVariables false
set_option linter.unusedSimpArgs false
def swF (m : Nat) (F : Nat → Value) (q : Nat) : Value := if q = 0 then F (m - 1) else if q = m - 1 then F 0 else F q
theorem swF_set {m : Nat} (h : 2 ≤ m) (F : Nat → Value) (q : Nat) : (if q = m - 1 then F 0 else if q = 0 then F (m - 1) else F q) = swF m F q := by
  unfold swF
  by_cases e : q = 0
  · rw [if_pos e, if_neg (by omega), if_pos e]
  · rw [if_neg e]; simp only [if_neg e]
set_option maxRecDepth 100000 in
set_option maxHeartbeats 1000000 in
theorem reverse_any (G m c : Nat) (F : Nat → Value) (p0 p1 : Nat) (w : World) (h2 : m = 2 ∨ m = 3) (hr : w.rowIs G 45 c F) (hc : m ≤ c) (h0 : F 0 = ptrV p0) (h1 : F (m - 1) = ptrV p1) :
    Calls Try.prog 33 #[.slice (some ⟨G, 0, none⟩) m c] w fun e w' => e = .returned (.tuple #[]) ∧ w'.rowIs G 45 c (swF m F) ∧ ∀ base, base ≤ G → Below base w w' := by
  have hm : 2 ≤ m ∧ m ≤ 3 := by omega
  have c0 : w.cell? ⟨G, 0, none⟩ = some (.pointer (some ⟨p0, 0, none⟩)) := by rw [hr.cell (i := 0) (by omega), h0]; rfl
  have c1 : w.cell? ⟨G, m - 1, none⟩ = some (.pointer (some ⟨p1, 0, none⟩)) := by rw [hr.cell (i := m - 1) (by omega), h1]; rfl
  have f0 := hr.frozen 0
  have f1 := hr.frozen (m - 1)
  have HR := Lib.hid hr
  obtain ⟨l, hl⟩ : ∃ l, l = m - 1 := ⟨_, rfl⟩
  rw [← hl] at c1 f1 h1
  have hml : m = l + 1 := by omega
  have H0 := Lib.hid h0
  have H1 := Lib.hid h1
  have hl1 : 1 ≤ l ∧ l ≤ 2 := by omega
  clear hr h0 h1 hl
  go_enter Try.func33, Try.ntmps33
  go_wp2_with fail
  go_loopw [2, 3] (fun s2 s3 wr => (s2 = .int .i64 0 ∧ s3 = .int .i64 (l : Nat) ∧ wr = w) ∨ (s2 = .int .i64 1 ∧ s3 = .int .i64 ((l : Int) - 1) ∧ Hid (wr.rowIs G 45 c (swF m F) ∧ ∀ base, base ≤ G → Below base w wr))) (fun s2 _ _ => 1 - (intOf s2).toNat)
  case atStart => exact .inl ⟨rfl, rfl, rfl⟩
  case round =>
    rcases hrel with ⟨rfl, rfl, rfl⟩ | ⟨rfl, rfl, HH⟩
    · go_wp2_with fail
      go_region
      have HH : Hid ((((wr.setCell ⟨G, 0, none⟩ (.pointer (some ⟨p1, 0, none⟩))).setCell ⟨G, l, none⟩ (.pointer (some ⟨p0, 0, none⟩))).drew).rowIs G 45 c (swF m F) ∧ ∀ base, base ≤ G → Below base wr ((wr.setCell ⟨G, 0, none⟩ (.pointer (some ⟨p1, 0, none⟩))).setCell ⟨G, l, none⟩ (.pointer (some ⟨p0, 0, none⟩))).drew) := Lib.hid ⟨(((HR.out.set 0 _).set l _).congr fun q _ => by
          have := swF_set (m := m) (by omega) F q
          rw [show m - 1 = l by omega, H0.out, H1.out] at this
          exact this), fun base hb => (((Below.refl base wr).setCell hb _).setCell hb _).drew⟩
      go_wp2_with fail
      go_roundw
      case rel => exact .inr ⟨rfl, rfl, HH⟩
      case measure => simp [intOf]
    · have hd : ¬ (1 : Int) < (l : Int) - 1 := by omega
      go_wp2_with fail
      go_end0
      exact ⟨rfl, by rw [← hml]; exact HH.out⟩
def hdT : Nat → Tm → Tm
  | 0, t => t
  | i + 1, t => match hdT i t with | .ap a _ => a | .lf k v => .lf k v
def agT (i : Nat) (t : Tm) : Tm := match hdT i t with | .ap _ b => b | .lf k v => .lf k v
def apT : Tm → Bool
  | .ap _ _ => true
  | .lf _ _ => false
def kdT : Tm → Int
  | .lf k _ => k
  | .ap _ _ => 4
theorem hd_ap {i : Nat} {t a b : Tm} (h : hdT i t = .ap a b) : hdT (i + 1) t = a := by unfold hdT; rw [h]
theorem ag_ap {i : Nat} {t a b : Tm} (h : hdT i t = .ap a b) : agT i t = b := by unfold agT; rw [h]
theorem EPt : Elem Try.prog 56 45 1 8 := Elem.of Try.underlying56 (by kernel_rfl : (Try.prog.info? 45).map (fun i => (i.zero, i.size, i.bytes)) = some (some (.pointer none), 1, 8)) rfl (by omega)
def LetP (w : World) (t : Tm) (m : Nat) (k : Int) (e : Ending) (w' : World) : Prop :=
  (¬ (∀ j, j < m → apT (hdT j t) = true) ∧ e = .returned (.tuple #[.slice none 0 0, .bool false])) ∨ ((∀ j, j < m → apT (hdT j t) = true) ∧ ∃ (A : Option Addr) (c : Nat) (gs : Nat → Nat), e = .returned (.tuple #[.slice A m c, .bool (kdT (hdT m t) == k)]) ∧ Rd w' A m (fun q => ptrV (gs q)) ∧ ∀ q, q < m → TAt 58 w (agT (m - 1 - q) t) (gs q))
theorem kd_cell {e : TypeId} {W : World} {t : Tm} {g : Nat} (h : TAt e W t g) : W.cell? ⟨g, 0, none⟩ = some (.int .i64 (kdT t)) := by
  cases t with
  | lf k v => exact h.2.2.2.cell (i := 0) (by omega)
  | ap a b => obtain ⟨_, _, h1, _, _⟩ := h; exact h1.cell (i := 0) (by omega)
set_option maxRecDepth 100000 in
set_option maxHeartbeats 2000000 in
theorem letter_any (t : Tm) (g m : Nat) (k : Int) (w : World) (h : TAt 58 w t g) (hm : m = 2 ∨ m = 3) :
    Calls Try.prog 30 #[.pointer (some ⟨g, 0, none⟩), .int .i64 k, .int .i64 (m : Nat)] w fun e w' => LetP w t m k e w' ∧ Below w.heap.size w w' := by
  have hm3 : 2 ≤ m ∧ m ≤ 3 := by omega
  have H := Lib.hid h
  clear h
  go_enter Try.func30, Try.ntmps30
  go_wp2_with fail
  go_loopw [0, 8, 10] (fun s0 s8 s10 wr => ∃ (i g' : Nat) (A : Option Addr) (c : Nat) (gs : Nat → Nat), i ≤ m ∧ s10 = .int .i64 (i : Nat) ∧ s0 = .pointer (some ⟨g', 0, none⟩) ∧ s8 = .slice A i c ∧ Hid (∀ j, j < i → apT (hdT j t) = true) ∧ Hid (TAt 58 w (hdT i t) g' ∧ ∀ q, q < i → TAt 58 w (agT q t) (gs q)) ∧ Hid (Own wr w.heap.size 45 1 A i c i (fun q => ptrV (gs q))) ∧ Hid (Below w.heap.size w wr)) (fun _ _ s10 _ => m - (intOf s10).toNat)
  case atStart => exact ⟨0, g, none, 0, fun _ => 0, Nat.zero_le _, rfl, rfl, rfl, Lib.hid (fun j hj => absurd hj (Nat.not_lt_zero _)), Lib.hid ⟨H.out, fun q hq => absurd hq (Nat.not_lt_zero _)⟩, Lib.hid (Own.nil _ _ _ _ _), Lib.hid (Below.refl _ _)⟩
  case round =>
    obtain ⟨wo, rfl⟩ : ∃ wo : World, wo = wr := ⟨_, rfl⟩
    obtain ⟨i, g', A, c, gs, hi, rfl, rfl, rfl, HAP, HTA, HO, HB⟩ := hrel
    by_cases him : i < m
    · have hta := HTA.out.1.below HB.out
      have hke := kd_cell hta
      cases hh : hdT i t with
      | lf kd v =>
        rw [hh] at hta hke
        have q : (kd != 4) = true := by rw [bne_iff_ne]; exact hta.1
        have hke' : wo.cell? ⟨g', 0, none⟩ = some (.int .i64 kd) := hke
        have HH := Lib.hid hh
        clear hh hta hke
        go_wp2_with fail
        go_ret2
        exact ⟨.inl ⟨fun hall => (by have := hall i him; rw [HH.out] at this; cases this), rfl⟩, HB.out⟩
      | ap a b =>
        rw [hh] at hta hke
        have hke' : wo.cell? ⟨g', 0, none⟩ = some (.int .i64 4) := hke
        have hta0 := HTA.out.1
        rw [hh] at hta0
        obtain ⟨ga, gb, hr, ha, hb⟩ := hta0
        have hrW := row_below hr HB.out hr.lt
        have c2 : wo.cell? ⟨g', 2, none⟩ = some (.pointer (some ⟨ga, 0, none⟩)) := hrW.cell (i := 2) (by omega)
        have c3 : wo.cell? ⟨g', 3, none⟩ = some (.pointer (some ⟨gb, 0, none⟩)) := hrW.cell (i := 3) (by omega)
        have hws := HB.out.size
        have hCL : ∀ X : World, Below w.heap.size w X → X.cell? ⟨g', 2, none⟩ = some (.pointer (some ⟨ga, 0, none⟩)) := fun X hX => (row_below hr hX hr.lt).cell (i := 2) (by omega)
        have HCL := Lib.hid hCL
        have HH := Lib.hid hh
        have HA := Lib.hid ha
        have HBT := Lib.hid hb
        clear hh hta hke hr ha hb hrW hCL
        go_wp2_with (at_builtin; refine wpList_app _ rfl (.tmp 17) (.tmp 22) 56 rfl EPt rfl (HO.out.alloc _) rfl (l := 1) (by omega) (Rd.one _ (.pointer (some ⟨gb, 0, none⟩)) _) (fun _ _ => rfl) (by unfold maxLen; omega) (by omega) (by simp; omega) (i + 1) (i + 1) rfl rfl ?_; intro A2 ac2 w3 hown2 hg2 hat2 hbl2; have HOW := Lib.hid hown2; have HB3 := Lib.hid ((HB.out.alloc HB.out.size (.cells #[.pointer (some ⟨gb, 0, none⟩)] 45)).trans hbl2); have hc2 := HCL.out _ HB3.out; clear hown2 hg2 hat2 hbl2)
        go_roundw
        case rel => exact ⟨i + 1, ga, A2, ac2, fun q => if q < i then gs q else gb, by omega, by go_num, rfl, rfl, Lib.hid (fun j hj => by
          by_cases e : j < i
          · exact HAP.out j e
          · rw [show j = i by omega, HH.out]; rfl), Lib.hid ⟨by rw [hd_ap HH.out]; exact HA.out, fun q hq => by
            by_cases e : q < i
            · simp only [if_pos e]; exact HTA.out.2 q e
            · simp only [if_neg e]; rw [show q = i by omega, ag_ap HH.out]; exact HBT.out⟩, Lib.hid (HOW.out.congr fun q hq => by
            rcases Nat.lt_or_ge q i with e | e
            · rw [cat_lt e]; simp only [if_pos e]
            · rw [cat_ge e]; simp only [if_neg (Nat.not_lt.2 e)]; rfl), HB3⟩
        case measure => simp [intOf]; omega
    · obtain rfl : i = m := by omega
      obtain ⟨G, F, rfl, hG, hrow, hmc, hF⟩ := HO.out.row (by omega)
      have hrev := reverse_any G i c F (gs 0) (gs (i - 1)) wo hm hrow hmc (hF 0 (by omega)) (hF (i - 1) (by omega))
      have HREV := Lib.hid hrev
      have HF := Lib.hid hF
      have hCL : ∀ X : World, Below w.heap.size w X → X.cell? ⟨g', 0, none⟩ = some (.int .i64 (kdT (hdT i t))) := fun X hX => kd_cell (HTA.out.1.below hX)
      have HCL := Lib.hid hCL
      obtain ⟨kd, hkd⟩ : ∃ kd, kd = kdT (hdT i t) := ⟨_, rfl⟩
      rw [← hkd] at HCL
      have HKD := Lib.hid hkd
      clear hrev hrow hF hCL hkd
      go_wp2_with fail
      refine HREV.out.mono ?_
      rintro e w3 ⟨rfl, hrow3, hb3⟩
      have HR3 := Lib.hid hrow3
      have HB3 := Lib.hid (HB.out.trans (hb3 w.heap.size hG))
      have hc3 := HCL.out _ HB3.out
      clear hrow3 hb3
      go_wp2_with fail
      go_quiet (fail)
      go_wp2_with fail
      go_ret2
      refine ⟨.inr ⟨HAP.out, _, c, fun q => gs (i - 1 - q), by rw [← HKD.out]; rfl, ?_, fun q hq => HTA.out.2 _ (by omega)⟩, below_drewN HB3.out _⟩
      refine ((Rd.of_row HR3.out hmc).congr fun q hq => ?_).drewN _
      unfold swF
      by_cases e : q = 0
      · rw [if_pos e, HF.out (i - 1) (by omega), e]; rfl
      · rw [if_neg e]
        by_cases e2 : q = i - 1
        · rw [if_pos e2, HF.out 0 (by omega), e2]; show ptrV (gs 0) = ptrV (gs (i - 1 - (i - 1))); rw [Nat.sub_self]
        · rw [if_neg e2, HF.out q hq]; show ptrV (gs q) = ptrV (gs (i - 1 - q)); rw [show i - 1 - q = q by omega]
end Go.Proofs.Ytmbemikhbcjfmaa
