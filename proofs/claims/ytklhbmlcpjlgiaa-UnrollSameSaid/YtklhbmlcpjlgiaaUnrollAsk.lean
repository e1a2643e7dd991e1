/- What unroll.wrong and unroll.Ask compute. Conditions: as each theorem states. -/
import Derived.Test.YtklhbmlcpjlgiaaTapeTab
import Derived.Test.YtklhbmlcpjlgiaaTapeOpen
namespace Go.Proofs.Ytklhbmlcpjlgiaa
open Go.ChangeShapes Go.WideShapes Go.ChangeAt Go.RowKit Go.Maps
set_option linter.unusedVariables false
/-- held to the cells from 0 to below K -/
def clU (K : Nat) (h : Int) : Int := if (K : Int) - 1 < (if h < 0 then 0 else h) then (K : Int) - 1 else (if h < 0 then 0 else h)
theorem clU_bd {K : Nat} (hK : 0 < K) (h : Int) : 0 ≤ clU K h ∧ clU K h < K := by unfold clU; split <;> split <;> omega
def stU (T : Nat → Nat → Int) (K : Nat) (c : Cf) : Cf := ⟨(stp T c).f, (stp T c).s, clU K (stp T c).h⟩
def goU (n : Nat) (T : Nat → Nat → Int) (K : Nat) : Nat → Cf → Cf
  | 0, c => c
  | k + 1, c => if c.s < n then goU n T K k (stU T K c) else c
theorem goU_stop {n : Nat} {T : Nat → Nat → Int} {K : Nat} {c : Cf} (h : n ≤ c.s) : ∀ k, goU n T K k c = c
  | 0 => rfl
  | k + 1 => if_neg (by omega)
theorem goU_more {n : Nat} {T : Nat → Nat → Int} {K : Nat} : ∀ (k : Nat) (c : Cf), n ≤ (goU n T K k c).s → goU n T K (k + 1) c = goU n T K k c := by
  intro k
  induction k with
  | zero => intro c h; exact goU_stop (show n ≤ c.s from h) 1
  | succ k ih =>
    intro c h
    by_cases hs : c.s < n
    · have e : ∀ j, goU n T K (j + 1) c = goU n T K j (stU T K c) := fun j => if_pos hs
      rw [e] at h ⊢
      rw [e]
      exact ih _ h
    · rw [goU_stop (by omega), goU_stop (by omega)]
/-- a configuration on the cells -/
def Gu (n Y K : Nat) (c : Cf) : Prop := (∀ x, 0 ≤ c.f x ∧ c.f x < Y) ∧ c.s ≤ n ∧ 0 ≤ c.h ∧ c.h < K
theorem Gu.st {n Y K : Nat} {T : Nat → Nat → Int} {c : Cf} (hK : 0 < K) (g : Gt n Y T) (h : Gu n Y K c) (hs : c.s < n) : Gu n Y K (stU T K c) := by
  have r := g c.s hs (c.f c.h).toNat (by have := h.1 c.h; omega)
  have hc := clU_bd hK (stp T c).h
  refine ⟨fun x => ?_, ?_, hc.1, hc.2⟩
  · show 0 ≤ (if x = c.h then ruW T c else c.f x) ∧ (if x = c.h then ruW T c else c.f x) < _
    by_cases e : x = c.h
    · rw [if_pos e]; exact r.1
    · rw [if_neg e]; exact h.1 x
  · show (ruN T c).toNat ≤ n
    have : 0 ≤ ruN T c ∧ ruN T c ≤ n := r.2.2
    omega
def uwE (S Y : Int) (n : Nat) (R : Nat → SI) (cells steps : Int) : Int :=
  if tpE S Y n R ≠ 0 then tpE S Y n R else if 2 < Y ∨ 2 < S then 3 else if cells < 1 ∨ 5 < cells then 1 else if steps < 0 ∨ 6 < steps then 7 else 0
set_option maxRecDepth 100000 in
set_option maxHeartbeats 2000000 in
theorem uwrong_any (S Y cells steps : Int) (T : Option Addr) (n tc : Nat) (R : Nat → SI) (w : World) (hT : Tm w T n R) (hn : n ≤ maxLen) :
    Calls Try.prog 11 #[.agg #[.int .i64 S, .int .i64 Y, .slice T n tc], .int .i64 cells, .int .i64 steps] w fun e w' => e = .returned (.int .i64 (uwE S Y n R cells steps)) ∧ Below w.heap.size w w' := by
  have HT := Lib.hid hT
  clear hT
  go_enter Try.func11, Try.ntmps11
  go_wp2_with fail
  have b0 : (w.alloc (.cells #[.int .i64 S, .int .i64 Y, .slice T n tc] 24)).cell? ⟨w.heap.size, 0, none⟩ = some (.int .i64 S) := by simp [go_sem]
  have b1 : (w.alloc (.cells #[.int .i64 S, .int .i64 Y, .slice T n tc] 24)).cell? ⟨w.heap.size, 1, none⟩ = some (.int .i64 Y) := by simp [go_sem]
  have hB1 := (Below.refl w.heap.size w).alloc (Nat.le_refl _) (.cells #[.int .i64 S, .int .i64 Y, .slice T n tc] 24)
  obtain ⟨W1, hW1⟩ : ∃ X, X = w.alloc (.cells #[.int .i64 S, .int .i64 Y, .slice T n tc] 24) := ⟨_, rfl⟩
  have sW : W1.heap.size = w.heap.size + 1 := by rw [hW1]; simp
  rw [← hW1] at b0 b1 hB1 ⊢
  clear hW1
  refine (tapeCheck_any S Y T n tc R _ (HT.out.below hB1) hn).mono ?_
  rintro e w2 ⟨rfl, hb2⟩
  have s2 := hb2.size
  have d0 := (hb2.cell (p := ⟨w.heap.size, 0, none⟩) (by show w.heap.size < _; omega)).trans b0
  have d1 := (hb2.cell (p := ⟨w.heap.size, 1, none⟩) (by show w.heap.size < _; omega)).trans b1
  have HB2 := Lib.hid (hB1.trans (hb2.mono hB1.size))
  obtain ⟨E, hEe⟩ : ∃ E, E = tpE S Y n R := ⟨_, rfl⟩
  rw [← hEe]
  have HEE := Lib.hid hEe
  clear hEe b0 b1 hB1 hb2
  by_cases hE0 : E = 0
  · subst hE0
    by_cases hy : 2 < Y
    · have HCD : Hid (uwE S Y n R cells steps = 3) := Lib.hid (by unfold uwE; rw [← HEE.out, if_neg (by omega), if_pos (.inl hy)])
      go_wp2_with fail
      go_ret
      exact ⟨ret_int HCD.out.symm, HB2.out⟩
    · by_cases hs : 2 < S
      · have HCD : Hid (uwE S Y n R cells steps = 3) := Lib.hid (by unfold uwE; rw [← HEE.out, if_neg (by omega), if_pos (.inr hs)])
        go_wp2_with fail
        go_ret
        exact ⟨ret_int HCD.out.symm, HB2.out⟩
      · by_cases c0 : cells < 1
        · have HCD : Hid (uwE S Y n R cells steps = 1) := Lib.hid (by unfold uwE; rw [← HEE.out, if_neg (by omega), if_neg (by omega), if_pos (.inl c0)])
          go_wp2_with fail
          go_ret
          exact ⟨ret_int HCD.out.symm, HB2.out⟩
        · by_cases c1 : 5 < cells
          · have HCD : Hid (uwE S Y n R cells steps = 1) := Lib.hid (by unfold uwE; rw [← HEE.out, if_neg (by omega), if_neg (by omega), if_pos (.inr c1)])
            go_wp2_with fail
            go_ret
            exact ⟨ret_int HCD.out.symm, HB2.out⟩
          · by_cases s0 : steps < 0
            · have HCD : Hid (uwE S Y n R cells steps = 7) := Lib.hid (by unfold uwE; rw [← HEE.out, if_neg (by omega), if_neg (by omega), if_neg (by omega), if_pos (.inl s0)])
              go_wp2_with fail
              go_ret
              exact ⟨ret_int HCD.out.symm, HB2.out⟩
            · by_cases s1 : 6 < steps
              · have HCD : Hid (uwE S Y n R cells steps = 7) := Lib.hid (by unfold uwE; rw [← HEE.out, if_neg (by omega), if_neg (by omega), if_neg (by omega), if_pos (.inr s1)])
                go_wp2_with fail
                go_ret
                exact ⟨ret_int HCD.out.symm, HB2.out⟩
              · have HCD : Hid (uwE S Y n R cells steps = 0) := Lib.hid (by unfold uwE; rw [← HEE.out, if_neg (by omega), if_neg (by omega), if_neg (by omega), if_neg (by omega)])
                go_wp2_with fail
                go_ret
                exact ⟨ret_int HCD.out.symm, HB2.out⟩
  · have hq : (E != 0) = true := by rw [bne_iff_ne]; exact hE0
    have HCD : Hid (uwE S Y n R cells steps = E) := Lib.hid (by unfold uwE; rw [← HEE.out, if_pos hE0])
    go_wp2_with fail
    go_ret
    exact ⟨ret_int HCD.out.symm, HB2.out⟩
theorem uwE_parts {S Y : Int} {n : Nat} {R : Nat → SI} {cells steps : Int} (h : uwE S Y n R cells steps = 0) : tpE S Y n R = 0 ∧ (Y ≤ 2 ∧ S ≤ 2) ∧ (1 ≤ cells ∧ cells ≤ 5) ∧ (0 ≤ steps ∧ steps ≤ 6) := by
  unfold uwE at h
  by_cases h1 : tpE S Y n R = 0
  · rw [if_neg (by rw [h1]; simp)] at h
    by_cases h2 : 2 < Y ∨ 2 < S
    · rw [if_pos h2] at h; omega
    · rw [if_neg h2] at h
      by_cases h3 : cells < 1 ∨ 5 < cells
      · rw [if_pos h3] at h; omega
      · rw [if_neg h3] at h
        by_cases h4 : steps < 0 ∨ 6 < steps
        · rw [if_pos h4] at h; omega
        · exact ⟨h1, by omega, by omega, by omega⟩
  · rw [if_pos h1] at h; exact absurd h h1
/-- what is wrong with a question -/
def uaE (S Y : Int) (n : Nat) (R : Nat → SI) (cells steps : Int) (k : Nat) : Int := if uwE S Y n R cells steps ≠ 0 then uwE S Y n R cells steps else if (k : Int) ≠ cells then 2 else 0
theorem ask_bad (S Y cells steps : Int) (T A : Option Addr) (n tc k c : Nat) (R : Nat → SI) (w : World) (hT : Tm w T n R) (hn : n ≤ maxLen) (hk : k ≤ maxLen) (hE : uaE S Y n R cells steps k ≠ 0) :
    Calls Try.prog 5 #[.agg #[.int .i64 S, .int .i64 Y, .slice T n tc], .int .i64 cells, .int .i64 steps, .slice A k c] w fun e w' => e = .returned (.tuple #[.bool false, .int .i64 (uaE S Y n R cells steps k)]) ∧ Below w.heap.size w w' := by
  have HT := Lib.hid hT
  clear hT
  have HB1 := Lib.hid ((Below.refl w.heap.size w).alloc (Nat.le_refl _) (.cells #[.int .i64 S, .int .i64 Y, .slice T n tc] 24))
  go_enter Try.func5, Try.ntmps5
  go_wp2_with fail
  refine (uwrong_any S Y cells steps T n tc R _ (HT.out.below HB1.out) hn).mono ?_
  rintro e w2 ⟨rfl, hb2⟩
  have HB2 := Lib.hid (HB1.out.trans (hb2.mono HB1.out.size))
  obtain ⟨E, hEe⟩ : ∃ E, E = uwE S Y n R cells steps := ⟨_, rfl⟩
  rw [← hEe]
  have HEE := Lib.hid hEe
  clear hEe hb2
  by_cases hE0 : E = 0
  · subst hE0
    have hkc : ((k : Int) != cells) = true := by
      rw [bne_iff_ne]
      intro h
      apply hE
      unfold uaE
      rw [if_neg (by rw [← HEE.out]; simp), if_neg (by simp [h])]
    have HCD : Hid (uaE S Y n R cells steps k = 2) := Lib.hid (by unfold uaE; rw [if_neg (by rw [← HEE.out]; simp), if_pos (by rw [bne_iff_ne] at hkc; exact hkc)])
    go_wp2_with fail
    go_ret2
    exact ⟨by rw [HCD.out]; rfl, HB2.out⟩
  · have hq : (E != 0) = true := by rw [bne_iff_ne]; exact hE0
    have HCD : Hid (uaE S Y n R cells steps k = E) := Lib.hid (by unfold uaE; rw [← HEE.out, if_pos hE0])
    go_wp2_with fail
    go_ret2
    exact ⟨by rw [HCD.out]; rfl, HB2.out⟩
def gb (B : Nat → Bool) (j : Nat) : Int := if B j then 1 else 0
theorem laid_skip {B : Nat → Bool} {i : Nat} (h : B i = false) : laid (gb B) i 0 = laid (gb B) (i + 1) 0 := by
  rw [← laid_succ]
  funext x
  by_cases e : x = 0 + (i : Int)
  · subst e
    rw [if_pos rfl]
    unfold laid
    rw [if_neg (by omega)]
    unfold gb; rw [h]; rfl
  · rw [if_neg e]
theorem gb_01 (B : Nat → Bool) (j : Nat) : gb B j = 0 ∨ gb B j = 1 := by unfold gb; cases B j <;> simp
/-- the last configuration of a question -/
def lstU (n : Nat) (R : Nat → SI) (K : Nat) (B : Nat → Bool) (steps : Nat) : Cf := goU n (TR R) K steps ⟨laid (gb B) K 0, 0, 0⟩
def ansU (n : Nat) (R : Nat → SI) (K : Nat) (B : Nat → Bool) (steps : Nat) : Bool := decide ((lstU n R K B steps).s = n ∧ (lstU n R K B steps).f (lstU n R K B steps).h = 1)
theorem laid_gu {n y K : Nat} {B : Nat → Bool} (hK : 0 < K) (hy : 2 ≤ y) : Gu n y K ⟨laid (gb B) K 0, 0, 0⟩ := by
  refine ⟨fun x => ?_, Nat.zero_le _, Int.le_refl _, by show (0 : Int) < K; omega⟩
  show 0 ≤ laid (gb B) K 0 x ∧ laid (gb B) K 0 x < _
  unfold laid
  by_cases e : (0 : Int) ≤ x ∧ x < 0 + K
  · rw [if_pos e]; have := gb_01 B (x - 0).toNat; omega
  · rw [if_neg e]; omega
set_option maxRecDepth 100000 in
set_option maxHeartbeats 4000000 in
theorem ask_good (S Y : Int) (K steps : Nat) (T A : Option Addr) (n tc c : Nat) (R : Nat → SI) (B : Nat → Bool) (w : World) (hT : Tm w T n R) (hn : n ≤ maxLen) (hA : Rd w A K (fun i => .bool (B i))) (hE : uaE S Y n R K steps K = 0) :
    Calls Try.prog 5 #[.agg #[.int .i64 S, .int .i64 Y, .slice T n tc], .int .i64 K, .int .i64 steps, .slice A K c] w fun e w' => e = .returned (.tuple #[.bool (ansU n R K B steps), .int .i64 0]) ∧ Below w.heap.size w w' := by
  have hU : uwE S Y n R K steps = 0 := by
    unfold uaE at hE
    by_cases h : uwE S Y n R K steps = 0
    · exact h
    · rw [if_pos h] at hE; exact absurd hE h
  obtain ⟨p1, ⟨p2, p3⟩, ⟨p4, p5⟩, ⟨p6, p7⟩⟩ := uwE_parts hU
  obtain ⟨y, hm⟩ := tpE_mok p1
  obtain ⟨rfl, rfl, n1, n5, y2, y4, hrow, hgt⟩ := hm
  have HT := Lib.hid hT
  have HA := Lib.hid hA
  have HU := Lib.hid hU
  have HROW := Lib.hid hrow
  have HGT := Lib.hid hgt
  clear hT hA hU hE p1 hrow hgt
  have hmk := fun W => run_makeMap (P := Try.prog) 41 W
  go_enter Try.func5, Try.ntmps5
  go_wp2_with fail
  have b0 : (w.alloc (.cells #[.int .i64 n, .int .i64 y, .slice T n tc] 24)).cell? ⟨w.heap.size, 0, none⟩ = some (.int .i64 n) := by simp [go_sem]
  have b1 : (w.alloc (.cells #[.int .i64 n, .int .i64 y, .slice T n tc] 24)).cell? ⟨w.heap.size, 1, none⟩ = some (.int .i64 y) := by simp [go_sem]
  have b2 : (w.alloc (.cells #[.int .i64 n, .int .i64 y, .slice T n tc] 24)).cell? ⟨w.heap.size, 2, none⟩ = some (.slice T n tc) := by simp [go_sem]
  have hB1 := (Below.refl w.heap.size w).alloc (Nat.le_refl _) (.cells #[.int .i64 n, .int .i64 y, .slice T n tc] 24)
  obtain ⟨W1, hW1⟩ : ∃ X, X = w.alloc (.cells #[.int .i64 n, .int .i64 y, .slice T n tc] 24) := ⟨_, rfl⟩
  have sW : W1.heap.size = w.heap.size + 1 := by rw [hW1]; simp
  rw [← hW1] at b0 b1 b2 hB1 ⊢
  clear hW1
  refine (uwrong_any n y K steps T n tc R _ (HT.out.below hB1) hn).mono ?_
  rintro e w2 ⟨rfl, hb2⟩
  rw [HU.out]
  have s2 := hb2.size
  have d0 := (hb2.cell (p := ⟨w.heap.size, 0, none⟩) (by show w.heap.size < _; omega)).trans b0
  have d1 := (hb2.cell (p := ⟨w.heap.size, 1, none⟩) (by show w.heap.size < _; omega)).trans b1
  have d2 := (hb2.cell (p := ⟨w.heap.size, 2, none⟩) (by show w.heap.size < _; omega)).trans b2
  have hB2 := hB1.trans (hb2.mono hB1.size)
  clear b0 b1 b2 hb2 hB1
  go_wp2_with fail
  clear hmk
  have hM0 := MapI.made w2
  rw [← laid_zero (gb B) 0] at hM0
  have hlt0 : w.heap.size < w2.heap.size := by omega
  have e0 := (World.cell?_alloc_lt w2 (.map #[] 0) ⟨w.heap.size, 0, none⟩ (by show w.heap.size < _; omega)).trans d0
  have e1 := (World.cell?_alloc_lt w2 (.map #[] 0) ⟨w.heap.size, 1, none⟩ (by show w.heap.size < _; omega)).trans d1
  have e2 := (World.cell?_alloc_lt w2 (.map #[] 0) ⟨w.heap.size, 2, none⟩ (by show w.heap.size < _; omega)).trans d2
  have hB3 := hB2.alloc (by omega) (.map #[] 0)
  obtain ⟨W3, hW3⟩ : ∃ X, X = w2.alloc (.map #[] 0) := ⟨_, rfl⟩
  have sW3 : W3.heap.size = w2.heap.size + 1 := by rw [hW3]; simp
  obtain ⟨b, hb⟩ : ∃ b, b = w2.heap.size := ⟨_, rfl⟩
  rw [← hW3] at hM0 e0 e1 e2 hB3 ⊢
  rw [← hb] at hM0 hlt0 sW3 ⊢
  have HE0 := Lib.hid e0
  have HE1 := Lib.hid e1
  have HE2 := Lib.hid e2
  have HB3 := Lib.hid hB3
  clear hW3 hb d0 d1 d2 hB2 e0 e1 e2 hB3 s2 sW
  have hbn : ∀ o : Nat, (some w.heap.size : Option Nat) ≠ some b := fun _ e => by have := Option.some.inj e; omega
  have HBN := Lib.hid hbn
  clear hbn
  go_loopw [30] (fun s30 wr => ∃ i : Nat, i ≤ K ∧ s30 = .int .i64 i ∧ MapI wr b i (laid (gb B) i 0) ∧ W3.grownBy wr (some b)) (fun s30 _ => K - (intOf s30).toNat)
  case atStart => exact ⟨0, Nat.zero_le _, rfl, hM0, World.grownBy.refl _ _⟩
  case round =>
    clear hM0
    obtain ⟨wo, rfl⟩ : ∃ wo : World, wo = wr := ⟨_, rfl⟩
    obtain ⟨i, hi, rfl, hM, hgr⟩ := hrel
    have HBo := Lib.hid (HB3.out.grown hgr (by omega) (fun q e => by have := Option.some.inj e; omega))
    by_cases hlt : i < K
    · obtain ⟨ab, ao, rfl, hab, hac⟩ := (HA.out.below HBo.out).at_ hlt
      cases hbi : B i with
      | true =>
        rw [hbi] at hac
        have HBI := Lib.hid hbi
        clear hbi
        go_wp2_with fail
        refine (tput_any b i (laid (gb B) i 0) i 1 _ hM (by unfold maxLen; omega) (wf_small (by omega) (by omega)) (wf_small (by omega) (by omega))).mono ?_
        rintro e w3 ⟨rfl, hM3, hg3⟩
        have hM4 : MapI w3 b (i + 1) (laid (gb B) (i + 1) 0) := by
          rw [← laid_succ]
          have eg : gb B i = 1 := by unfold gb; rw [HBI.out]; rfl
          rw [eg, Int.zero_add]; exact hM3
        have HM4 := Lib.hid hM4
        clear hM3 hM hM4
        go_wp2_with fail
        go_roundw
        case rel => exact ⟨i + 1, by omega, by go_num, HM4.out, hgr.trans hg3⟩
        case measure => simp [intOf]; omega
      | false =>
        rw [hbi] at hac
        have HM4 : Hid (MapI wo b (i + 1) (laid (gb B) (i + 1) 0)) := Lib.hid (by rw [← laid_skip hbi]; exact hM.mono (by omega))
        clear hbi hM
        go_wp2_with fail
        go_roundw
        case rel => exact ⟨i + 1, by omega, by go_num, HM4.out, hgr⟩
        case measure => simp [intOf]; omega
    · obtain rfl : i = K := by omega
      have HGu0 := Lib.hid (laid_gu (n := n) (y := y) (B := B) (K := i) (by omega) y2)
      have HM := Lib.hid hM
      clear hM
      go_wp2_with fail
      go_loopw [2, 14, 15] (fun s2 s14 s15 wr => ∃ (r : Nat) (C : Cf), r ≤ steps ∧ s2 = .int .i64 r ∧ s14 = .int .i64 (C.s : Nat) ∧ s15 = .int .i64 C.h ∧ MapI wr b (i + (steps - r)) C.f ∧ W3.grownBy wr (some b) ∧ Gu n y i C ∧ goU n (TR R) i r C = lstU n R i B steps) (fun s2 _ _ _ => (intOf s2).toNat)
      case atStart => exact ⟨steps, _, Nat.le_refl _, rfl, rfl, rfl, by rw [Nat.sub_self]; exact HM.out, hgr, HGu0.out, rfl⟩
      case round =>
        clear HM hgr HBo
        obtain ⟨wq, rfl⟩ : ∃ wq : World, wq = wr := ⟨_, rfl⟩
        obtain ⟨r, C, hr, rfl, rfl, rfl, hM, hgr, hgu, hgo⟩ := hrel
        have HBo := Lib.hid (HB3.out.grown hgr (by omega) (fun q e => by have := Option.some.inj e; omega))
        have so := hgr.size
        have d0 := hgr.cell HE0.out (HBN.out 0)
        have d1 := hgr.cell HE1.out (HBN.out 0)
        have d2 := hgr.cell HE2.out (HBN.out 0)
        obtain ⟨Xf, Xs, Xh⟩ := C
        have hgs : Xs ≤ n := hgu.2.1
        obtain ⟨hh0, hh1⟩ : 0 ≤ Xh ∧ Xh < i := hgu.2.2
        have HGU := Lib.hid hgu
        have HGO := Lib.hid hgo
        have hM2 : MapI wq b (i + (steps - r)) Xf := hM
        have HM := Lib.hid hM2
        clear hgu hgo hM hM2
        by_cases hgoon : 0 < r ∧ Xs < n
        · obtain ⟨hr0, hs⟩ := hgoon
          obtain ⟨⟨r0, r1⟩, ⟨r2, r3⟩, ⟨r4, r5⟩⟩ := HGT.out Xs hs (Xf Xh).toNat (by have := HGU.out.1 Xh; have h2 : Xf Xh < (y : Nat) := this.2; have h3 : 0 ≤ Xf Xh := this.1; omega)
          have hfx := HGU.out.1 Xh
          obtain ⟨kx, hkx⟩ : ∃ kx : Nat, Xf Xh = (kx : Int) := ⟨(Xf Xh).toNat, by have : 0 ≤ Xf Xh := hfx.1; omega⟩
          have hky : kx < y := by have : Xf Xh < (y : Nat) := hfx.2; omega
          rw [hkx, Int.toNat_natCast] at r0 r1 r2 r3 r4 r5
          have hst3 : stU (TR R) i ⟨Xf, Xs, Xh⟩ = ⟨fun z => if z = Xh then (R Xs).f (3 * kx) else Xf z, ((R Xs).f (3 * kx + 2)).toNat, clU i (Xh + (R Xs).f (3 * kx + 1))⟩ := by
            show (⟨fun z => if z = Xh then (R Xs).f (3 * (Xf Xh).toNat) else Xf z, ((R Xs).f (3 * (Xf Xh).toNat + 2)).toNat, clU i (Xh + (R Xs).f (3 * (Xf Xh).toNat + 1))⟩ : Cf) = _
            rw [hkx, Int.toNat_natCast]
          have hgu2 := HGU.out.st (by omega) HGT.out hs
          rw [hst3] at hgu2
          have hgo2 : goU n (TR R) i (r - 1) (stU (TR R) i ⟨Xf, Xs, Xh⟩) = lstU n R i B steps := by
            rw [← HGO.out]
            obtain ⟨r', rfl⟩ : ∃ r', r = r' + 1 := ⟨r - 1, by omega⟩
            show _ = if Xs < n then _ else _
            rw [if_pos hs]; rfl
          rw [hst3] at hgo2
          have HGU2 := Lib.hid hgu2
          have HGO2 := Lib.hid hgo2
          have SA := step_any n y T n tc b (i + (steps - r)) Xs kx R Xf Xh wq (HT.out.below HBo.out) HM.out (by unfold maxLen; omega) hs (by unfold maxLen; omega) hkx (by rw [HROW.out Xs hs]; exact hky) (by omega) (by omega) (wf_small (by have : 0 ≤ (R Xs).f (3 * kx) := r0; omega) (by have : (R Xs).f (3 * kx) < (y : Nat) := r1; omega)) ⟨r2, r3⟩
          have HSA := Lib.hid SA
          obtain ⟨z0, hz0⟩ : ∃ z : Nat, (R Xs).f (3 * kx + 2) = (z : Int) := ⟨((R Xs).f (3 * kx + 2)).toNat, by have : 0 ≤ (R Xs).f (3 * kx + 2) := r4; omega⟩
          have hmv : -1 ≤ (R Xs).f (3 * kx + 1) ∧ (R Xs).f (3 * kx + 1) ≤ 1 := ⟨r2, r3⟩
          obtain ⟨mv, hmv0⟩ : ∃ mv, mv = (R Xs).f (3 * kx + 1) := ⟨_, rfl⟩
          rw [← hmv0] at hmv
          obtain ⟨m0, m1⟩ := hmv
          have HMV := Lib.hid hmv0
          have HZ := Lib.hid hz0
          clear hkx hst3 hgu2 hgo2 SA hz0 hmv0 r0 r1 r2 r3 r4 r5 hfx
          go_wp2_with fail
          refine HSA.out.mono ?_
          rintro e w3 ⟨rfl, hM3, hg3⟩
          have HM3 := Lib.hid hM3
          rw [HZ.out, ← HMV.out]
          clear hM3
          go_wp2_with fail
          go_roundw
          case rel => exact ⟨r - 1, _, by omega, by go_num, by rw [HZ.out, Int.toNat_natCast], by rw [HMV.out]; rfl, HM3.out.mono (by omega), hgr.trans hg3, HGU2.out, HGO2.out⟩
          case measure => simp [intOf]; omega
        · have hlast : lstU n R i B steps = ⟨Xf, Xs, Xh⟩ := by
            rw [← HGO.out]
            by_cases h0 : r = 0
            · subst h0; rfl
            · exact goU_stop (show n ≤ Xs by omega) r
          have wx : (Lit.int .i64 Xh).wf = true := wf_small (by omega) (by omega)
          by_cases hs : Xs = n
          · by_cases hx : Xf Xh = 1
            · have hL := HM.out.look wx
              rw [hx] at hL
              have HAN : Hid (ansU n R i B steps = true) := Lib.hid (by unfold ansU; rw [hlast, decide_eq_true_eq]; exact ⟨hs, hx⟩)
              have hq1 : ((Xs : Int) == n) = true := by rw [hs]; simp
              clear hx hs hlast wx
              have hs2 : ¬ (Xs : Int) < n := by rw [beq_iff_eq] at hq1; omega
              clear hgoon
              by_cases hr0 : 0 < r
              all_goals
                go_wp2_with fail
                go_ret2
                exact ⟨by rw [HAN.out]; rfl, HBo.out⟩
            · have hL := HM.out.look wx
              obtain ⟨x, hxx⟩ : ∃ x, x = Xf Xh := ⟨_, rfl⟩
              rw [← hxx] at hL hx
              have hq : (x == 1) = false := by rw [beq_eq_false_iff_ne]; exact hx
              have HAN : Hid (ansU n R i B steps = false) := Lib.hid (by unfold ansU; rw [hlast, decide_eq_false_iff_not]; intro h; exact hx (hxx.trans h.2))
              have hq1 : ((Xs : Int) == n) = true := by rw [hs]; simp
              have hs2 : ¬ (Xs : Int) < n := by rw [beq_iff_eq] at hq1; omega
              clear hxx hx hs hlast wx hgoon
              by_cases hr0 : 0 < r
              all_goals
                go_wp2_with fail
                go_ret2
                exact ⟨by rw [HAN.out]; rfl, HBo.out⟩
          · have HAN : Hid (ansU n R i B steps = false) := Lib.hid (by unfold ansU; rw [hlast, decide_eq_false_iff_not]; intro h; exact hs h.1)
            have hq1 : ((Xs : Int) == n) = false := by rw [beq_eq_false_iff_ne]; omega
            have hs' : (Xs : Int) < n := by omega
            have hr0 : ¬ (0 : Int) < r := by omega
            clear hs hlast wx hgoon
            go_wp2_with fail
            go_ret2
            exact ⟨by rw [HAN.out]; rfl, HBo.out⟩
end Go.Proofs.Ytklhbmlcpjlgiaa
