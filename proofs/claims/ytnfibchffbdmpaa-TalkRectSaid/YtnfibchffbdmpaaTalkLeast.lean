/- What (*talker).least computes: how much must be said of a part; its map holds such numbers alone. Conditions: the talker lies as told; the part is not empty. -/
import Derived.Test.YtnfibchffbdmpaaTalkAll
import Derived.Test.YtnfibchffbdmpaaTalkLaw2
import Derived.Test.YtnfibchffbdmpaaTalkMap
import Derived.Deep.RegionHeld3
import Derived.Deep.QuietTactic
import Derived.IntWalk
namespace Go.Proofs.Ytnfibchffbdmpaa
open Go.ChangeShapes Go.WideShapes Go.ChangeAt Go.RowKit Go.Maps
set_option linter.unusedVariables false
set_option linter.unusedSimpArgs false
set_option synthInstance.maxHeartbeats 200000
set_option synthInstance.maxSize 1024
theorem and_T : ∀ s : Nat, s < 16 → s ≠ 0 → ∀ r : Nat, r < 16 → bits .and .u64 ((s : Int) - 1) (r : Int) = (((s - 1) &&& r : Nat) : Int) := by decide +kernel
theorem nand_T : ∀ s : Nat, s < 16 → ∀ r : Nat, r < 16 → s &&& r = s → bits .andNot .u64 (r : Int) (s : Int) = ((r ^^^ s : Nat) : Int) := by decide +kernel
theorem grown_below {W W' : World} {g : Nat} (hb : Below W.heap.size W W') : W.grownBy W' (some g) := ⟨hb.os, hb.tape, hb.output, hb.size, fun i hi _ => hb.block i hi⟩
def LeastP (w W : World) (kb mb M : Nat) (A : Option Addr) (n cc : Nat) (V : Nat → Nat → Nat) (v : Nat) (e : Ending) (w' : World) : Prop :=
  e = .returned (.int .i64 (v : Nat)) ∧ (∃ m', m' ≤ M ∧ TK w w' kb mb m' A n cc V) ∧ W.grownBy w' (some mb)
/-- a world in the midst of least: the part's box too -/
structure Mid (w W X : World) (kb mb M : Nat) (A : Option Addr) (n cc : Nat) (V : Nat → Nat → Nat) (q r c : Nat) : Prop where
  tk : ∃ m', m' ≤ M ∧ TK w X kb mb m' A n cc V
  gr : W.grownBy X (some mb)
  pr : X.rowIs q 43 2 (t2f (.int .u64 (r : Nat)) (.int .u64 (c : Nat)))
  ne : q ≠ mb
theorem Mid.cells {w W X : World} {kb mb M : Nat} {A : Option Addr} {n cc : Nat} {V : Nat → Nat → Nat} {q r c : Nat} (h : Mid w W X kb mb M A n cc V q r c) :
    X.cell? ⟨q, 0, none⟩ = some (.int .u64 (r : Nat)) ∧ X.cell? ⟨q, 1, none⟩ = some (.int .u64 (c : Nat)) ∧ X.cell? ⟨kb, 0, none⟩ = some (.slice A n cc) ∧ X.cell? ⟨kb, 1, none⟩ = some (.map (some mb)) := by
  obtain ⟨m', _, ht⟩ := h.tk
  exact ⟨h.pr.cell (i := 0) (by omega), h.pr.cell (i := 1) (by omega), ht.row.cell (i := 0) (by omega), ht.row.cell (i := 1) (by omega)⟩
theorem Mid.below {w W X X' : World} {kb mb M : Nat} {A : Option Addr} {n cc : Nat} {V : Nat → Nat → Nat} {q r c : Nat} (h : Mid w W X kb mb M A n cc V q r c) (hb : Below X.heap.size X X') : Mid w W X' kb mb M A n cc V q r c := by
  obtain ⟨m', hm, ht⟩ := h.tk
  exact ⟨⟨m', hm, ht.below hb⟩, h.gr.trans (grown_below hb), h.pr.of_block (hb.block q h.pr.lt), h.ne⟩
theorem Mid.call {w W X X' : World} {kb mb M M' v : Nat} {A : Option Addr} {n cc : Nat} {V : Nat → Nat → Nat} {q r c : Nat} {e : Ending} (h : Mid w W X kb mb M A n cc V q r c) (hp : LeastP w X kb mb M' A n cc V v e X') : Mid w W X' kb mb M' A n cc V q r c :=
  ⟨hp.2.1, h.gr.trans hp.2.2, row_grown h.pr hp.2.2 h.ne, h.ne⟩
theorem Mid.mono {w W X : World} {kb mb M M' : Nat} {A : Option Addr} {n cc : Nat} {V : Nat → Nat → Nat} {q r c : Nat} (h : Mid w W X kb mb M A n cc V q r c) (hm : M ≤ M') : Mid w W X kb mb M' A n cc V q r c := by
  obtain ⟨m', hm', ht⟩ := h.tk
  exact ⟨⟨m', by omega, ht⟩, h.gr, h.pr, h.ne⟩
theorem mm_T (a1 a2 bv : Nat) (h1 : a1 ≤ 9) (h2 : a2 ≤ 9) : (if IntKind.i64.wrap (1 + if a1 < a2 then (a2 : Int) else a1) < (bv : Int) then IntKind.i64.wrap (1 + if a1 < a2 then (a2 : Int) else a1) else (bv : Int)) = ((min bv (1 + max a1 a2) : Nat) : Int) := by
  rw [IntWalk.i64_in _ (by split <;> omega)]
  by_cases e : a1 < a2
  · simp only [if_pos e]; split <;> omega
  · simp only [if_neg e]; split <;> omega
set_option maxRecDepth 100000 in
set_option maxHeartbeats 8000000 in
theorem least_any (w : World) (kb mb n cc mm : Nat) (A : Option Addr) (R : Nat → SB) (hG : GrT w A n R) (hn : n ≤ 4) (hmm : mm ≤ 4) (hR : ∀ i, i < n → (R i).n = mm) : ∀ (g r c m : Nat) (W : World), TK w W kb mb m A n cc (SY (alT R n mm)) → 0 < r → r < 16 → 0 < c → c < 16 → pcT r + pcT c ≤ g + 1 → m + bndT g ≤ 2 ^ 62 →
    Calls Try.prog 15 #[.pointer (some ⟨kb, 0, none⟩), .agg #[.int .u64 (r : Nat), .int .u64 (c : Nat)]] W (LeastP w W kb mb (m + bndT g) A n cc (SY (alT R n mm)) (SY (alT R n mm) r c))
  | 0, r, c, m, W, hT, r0, hr, c0, hc, hs, hM => by
    have h1 := (pc_facts r hr).2 (by omega)
    have h2 := (pc_facts c hc).2 (by omega)
    omega
  | g + 1, r, c, m, W, hT, r0, hr, c0, hc, hs, hM => by
    obtain ⟨B, hB⟩ : ∃ B, B = bndT g := ⟨_, rfl⟩
    have hM' : m + (60 * B + 1) ≤ 2 ^ 62 := by rw [hB]; exact hM
    have hBs : bndT (g + 1) = 60 * B + 1 := by rw [hB]; rfl
    rw [hBs]
    have hrec : ∀ (r' c' m' : Nat) (X : World), TK w X kb mb m' A n cc (SY (alT R n mm)) → 0 < r' → r' < 16 → 0 < c' → c' < 16 → pcT r' + pcT c' ≤ g + 1 → m' + B ≤ 2 ^ 62 →
        Calls Try.prog 15 #[.pointer (some ⟨kb, 0, none⟩), .agg #[.int .u64 (r' : Nat), .int .u64 (c' : Nat)]] X (LeastP w X kb mb (m' + B) A n cc (SY (alT R n mm)) (SY (alT R n mm) r' c')) := fun r' c' m' X a1 a2 a3 a4 a5 a6 a7 => by
      rw [hB]; exact least_any w kb mb n cc mm A R hG hn hmm hR g r' c' m' X a1 a2 a3 a4 a5 a6 (by rw [← hB]; exact a7)
    have hall : ∀ X : World, Below w.heap.size w X → Calls Try.prog 29 #[.slice A n cc, .agg #[.int .u64 (r : Nat), .int .u64 (c : Nat)]] X fun e w' => e = .returned (.bool (alT R n mm r c)) ∧ Below X.heap.size X w' := fun X hX => allT_any A n cc mm r c R X (hG.below hX) hn hmm hR hr hc
    have hst := SY_step (al := alT R n mm) hr hc (by omega) (by omega)
    have hV9 : ∀ x y, SY (alT R n mm) x y ≤ 9 := fun x y => SY_9
    have hcR : ∀ s, s < 16 → s ≠ 0 → s &&& r = s → s ≠ r → upM (cR (alT R n mm) r c) ((s - 1) &&& r) = min (upM (cR (alT R n mm) r c) s) (1 + max (SY (alT R n mm) s c) (SY (alT R n mm) (r ^^^ s) c)) := fun s h1 h2 h3 h4 => by unfold cR; exact up_step hr h1 h2 h3 h4
    have hcC : ∀ s, s < 16 → s ≠ 0 → s &&& c = s → s ≠ c → upM (cC (alT R n mm) r c) ((s - 1) &&& c) = min (upM (cC (alT R n mm) r c) s) (1 + max (SY (alT R n mm) r s) (SY (alT R n mm) r (c ^^^ s))) := fun s h1 h2 h3 h4 => by unfold cC; exact up_step hc h1 h2 h3 h4
    have hR0 : upM (cR (alT R n mm) r c) ((r - 1) &&& r) = 9 := by unfold cR; exact up_start hr (by omega)
    have hC0 : upM (cC (alT R n mm) r c) ((c - 1) &&& c) = 9 := by unfold cC; exact up_start hc (by omega)
    have hRe : upM (cR (alT R n mm) r c) 0 = mnF (cR (alT R n mm) r c) 16 := by unfold cR; exact up_end
    have hCe : upM (cC (alT R n mm) r c) 0 = mnF (cC (alT R n mm) r c) 16 := by unfold cC; exact up_end
    rw [← hRe, ← hCe] at hst
    have hcR9 : ∀ s, upM (cR (alT R n mm) r c) s ≤ 9 := fun s => up_9 _ _
    have hcC9 : ∀ s, upM (cC (alT R n mm) r c) s ≤ 9 := fun s => up_9 _ _
    have hrec' := hrec
    obtain ⟨V, hV⟩ : ∃ V, V = SY (alT R n mm) := ⟨_, rfl⟩
    obtain ⟨fR, hfR⟩ : ∃ f, f = upM (cR (alT R n mm) r c) := ⟨_, rfl⟩
    obtain ⟨fC, hfC⟩ : ∃ f, f = upM (cC (alT R n mm) r c) := ⟨_, rfl⟩
    obtain ⟨al, hal⟩ : ∃ b, b = alT R n mm r c := ⟨_, rfl⟩
    rw [← hV] at hT hrec hst hV9 hcR hcC ⊢
    rw [← hfR] at hcR hR0 hst hcR9
    rw [← hfC] at hcC hC0 hst hcC9
    rw [← hal] at hall hst
    obtain ⟨W1, hW1⟩ : ∃ X, X = W.alloc (.cells #[.int .u64 (r : Nat), .int .u64 (c : Nat)] 43) := ⟨_, rfl⟩
    have hmid : Mid w W W1 kb mb m A n cc V W.heap.size r c := by
      rw [hW1]
      have hb : Below W.heap.size W (W.alloc (.cells #[.int .u64 (r : Nat), .int .u64 (c : Nat)] 43)) := (Below.refl _ _).alloc (Nat.le_refl _) _
      exact ⟨⟨m, Nat.le_refl _, hT.below hb⟩, grown_below hb, World.rowIs_alloc W #[.int .u64 (r : Nat), .int .u64 (c : Nat)] 43 _ (fun i hi => by
        have : i = 0 ∨ i = 1 := by simp at hi; omega
        rcases this with rfl | rfl <;> rfl), by have := hT.map.lt; omega⟩
    obtain ⟨d0, d1, k0, k1⟩ := hmid.cells
    obtain ⟨cv, ct, hct, hlk⟩ := (hT.below (W' := W1) (by rw [hW1]; exact (Below.refl _ _).alloc (Nat.le_refl _) _)).map.look hr hc
    obtain ⟨q, hq⟩ : ∃ q, q = W.heap.size := ⟨_, rfl⟩
    rw [← hq] at hmid d0 d1
    have lk := fun k => hlk (W1.drewN k) rfl
    have lkd := hlk W1.drew rfl
    have hqt := hmid.pr.frozen 0
    have HM := Lib.hid hmid
    have HREC := Lib.hid hrec
    have HALL := Lib.hid hall
    have HST := Lib.hid hst
    have HV9 := Lib.hid hV9
    have HCR := Lib.hid hcR
    have HCC := Lib.hid hcC
    have HW1 := Lib.hid hW1
    have HQ := Lib.hid hq
    have HR9 := Lib.hid hcR9
    have HC9 := Lib.hid hcC9
    have HR0 := Lib.hid hR0
    have HC0 := Lib.hid hC0
    have HCT := Lib.hid hct
    clear hT hrec hrec' hall hst hV9 hcR hcC hR0 hC0 hRe hCe hcR9 hcC9 hV hfR hfC hal hW1 hmid hlk hq hM hB hBs hct hG hR
    go_enter Try.func15, Try.ntmps15
    go_wp2_with fail
    rw [← HW1.out, ← HQ.out]
    go_quiet (fail)
    obtain ⟨W2, hW2⟩ : ∃ X, X = W1.drewN nq := ⟨_, rfl⟩
    have hm2 : Mid w W W2 kb mb m A n cc V q r c := by rw [hW2]; exact HM.out.below (below_drewN (Below.refl _ _) nq)
    rw [← hW2]
    obtain ⟨d0, d1, k0, k1⟩ := hm2.cells
    have HM2 := Lib.hid hm2
    clear hW2 hm2 lk lkd
    cases ct with
    | true =>
      have hcv := HCT.out rfl
      subst hcv
      go_wp2_with fail
      go_ret
      exact ⟨rfl, (HM2.out.mono (by omega)).tk, HM2.out.gr⟩
    | false =>
      clear HCT
      have cs4 := HM2.out.cells
      have HAL := Lib.hid (HALL.out W2 (by obtain ⟨_, _, h⟩ := HM2.out.tk; exact h.bel))
      have HALd := Lib.hid (HALL.out W2.drew (by obtain ⟨_, _, h⟩ := HM2.out.tk; exact h.bel.drew))
      have hb2 := Below.refl W2.heap.size W2
      have hb2d := (Below.refl W2.heap.size W2).drew
      go_wp2_with fail
      go_region_held3 (fun X => X.cell? ⟨q, 0, none⟩ = some (.int .u64 (r : Nat)) ∧ X.cell? ⟨q, 1, none⟩ = some (.int .u64 (c : Nat)) ∧ X.cell? ⟨kb, 0, none⟩ = some (.slice A n cc) ∧ X.cell? ⟨kb, 1, none⟩ = some (.map (some mb))) (first | exact cs5 | exact cs4 | go_keep) (first
        | (go_at_call 29; (with_reducible refine HAL.out.mono ?_); rintro e w5 ⟨rfl, hb5⟩; have hbe5 := hb5; have cs5 := (HM2.out.below hbe5).cells)
        | (go_at_call 29; (with_reducible refine HALd.out.mono ?_); rintro e w5 ⟨rfl, hb5⟩; have hbe5 := hb2d.trans (hb5.mono hb2d.size); have cs5 := (HM2.out.below hbe5).cells))
      obtain ⟨W3, hW3⟩ : ∃ X, X = w5 := ⟨_, rfl⟩
      have hm3 := HM2.out.below hbe5
      rw [← hW3] at hm3 ⊢
      have HM3 := Lib.hid hm3
      clear hW3 hm3 hb5 hbe5 cs5 cs4 hb2 hb2d HAL HALd
      cases al with
      | true =>
        have hv9 : (0 : Nat) ≤ 9 := by omega
        have HV0 : Hid (V r c = 0) := Lib.hid (by rw [HST.out]; rfl)
        obtain ⟨me, hme, hte⟩ := HM3.out.tk
        have hted := hte.below (Below.refl W3.heap.size W3).drew
        obtain ⟨we, hrun, hmape, hge⟩ := hted.map.update (by unfold maxLen; omega) hr hc HV0.out.symm hv9
        have e0 : ((0 : Nat) : Int) = 0 := rfl
        rw [e0] at hrun
        clear e0
        obtain ⟨d0, d1, k0, k1⟩ := HM3.out.cells
        have HGE := Lib.hid hge
        have HME := Lib.hid (hted.put hge hmape)
        have HMB : Hid (me + 1 ≤ m + (60 * B + 1)) := Lib.hid (by omega)
        clear hge hmape hted hte hme
        go_wp2_with fail
        go_region
        all_goals
          go_wp2_with fail
          go_ret
          exact ⟨ret_int (by rw [HV0.out]; rfl), ⟨me + 1, HMB.out, HME.out⟩, (HM3.out.gr.trans (grown_below (Below.refl W3.heap.size W3).drew)).trans HGE.out⟩
      | false =>
        have hst : V r c = min (fR 0) (fC 0) := by rw [HST.out]; rfl
        have HST2 := Lib.hid hst
        clear HST hst
        have hb := and_T r hr (by omega) r hr
        have hp := cut_prev r hr r hr (by omega)
        have hr0 := HR0.out
        obtain ⟨s0, hs0⟩ : ∃ s, s = (r - 1) &&& r := ⟨_, rfl⟩
        rw [← hs0] at hb hp hr0
        have HS0 : Hid (s0 &&& r = s0 ∧ fR s0 = 9) := Lib.hid ⟨hp.2.1, hr0⟩
        obtain ⟨hp1, hp2, hp3⟩ := hp
        clear hp2
        clear hs0 hr0
        obtain ⟨d0, d1, k0, k1⟩ := HM3.out.cells
        go_wp2_with fail
        go_loopw [7, 8] (fun s7 s8 wr => ∃ (s bv : Nat), s < r ∧ s < 16 ∧ bv ≤ 9 ∧ s7 = .int .i64 (bv : Nat) ∧ s8 = .int .u64 (s : Nat) ∧ Hid (s &&& r = s ∧ fR s = bv) ∧ Hid (Mid w W wr kb mb (m + usT B s) A n cc V q r c)) (fun _ s8 _ => (intOf s8).toNat)
        case atStart => exact ⟨s0, 9, hp1, hp3, by omega, rfl, rfl, HS0, Lib.hid (HM3.out.mono (by omega))⟩
        case round =>
          clear HS0 hp1 hp3 hb HM3 d0 d1 k0 k1
          obtain ⟨wo, rfl⟩ : ∃ wo : World, wo = wr := ⟨_, rfl⟩
          obtain ⟨s, bv, hsr, hs16, hbv, rfl, rfl, HS, HMo⟩ := hrel
          by_cases hs0 : s = 0
          · subst hs0
            have hbv2 : bv = fR 0 := HS.out.2.symm
            have HBV := Lib.hid hbv2
            have hM0 := HMo.out.mono (show m + usT B 0 ≤ m + 30 * B by have := us_le (B := B) (s := 0); omega)
            have HM3 := Lib.hid hM0
            obtain ⟨d0, d1, k0, k1⟩ := hM0.cells
            have hb := and_T c hc (by omega) c hc
            have hp := cut_prev c hc c hc (by omega)
            have hc0 := HC0.out
            obtain ⟨s1, hs1⟩ : ∃ s, s = (c - 1) &&& c := ⟨_, rfl⟩
            rw [← hs1] at hb hp hc0
            have HS1 : Hid (s1 &&& c = s1 ∧ min (fR 0) (fC s1) = bv) := Lib.hid ⟨hp.2.1, by rw [hc0, ← hbv2]; omega⟩
            obtain ⟨hp1, hp2, hp3⟩ := hp
            clear hp2 hs1 hc0 hM0 hbv2 HMo HS
            go_wp2_with fail
            go_loopw [7, 9] (fun s7 s9 wr => ∃ (s bv : Nat), s < c ∧ s < 16 ∧ bv ≤ 9 ∧ s7 = .int .i64 (bv : Nat) ∧ s9 = .int .u64 (s : Nat) ∧ Hid (s &&& c = s ∧ min (fR 0) (fC s) = bv) ∧ Hid (Mid w W wr kb mb (m + 30 * B + usT B s) A n cc V q r c)) (fun _ s9 _ => (intOf s9).toNat)
            case atStart => exact ⟨s1, bv, hp1, hp3, hbv, rfl, rfl, HS1, Lib.hid (HM3.out.mono (by omega))⟩
            case round =>
              clear HS1 hp1 hp3 hb HM3 d0 d1 k0 k1 HBV
              obtain ⟨wo, rfl⟩ : ∃ wo : World, wo = wr := ⟨_, rfl⟩
              obtain ⟨s, bv, hsr, hs16, hbv, rfl, rfl, HS, HMo⟩ := hrel
              by_cases hs0 : s = 0
              · subst hs0
                have hvv : V r c = bv := by rw [HST2.out]; exact HS.out.2
                have hM0 := HMo.out.mono (show m + 30 * B + usT B 0 ≤ m + 60 * B by have := us_le (B := B) (s := 0); omega)
                obtain ⟨me, hme, hte⟩ := hM0.tk
                obtain ⟨d0, d1, k0, k1⟩ := hM0.cells
                have hted := hte.below (Below.refl wo.heap.size wo).drew
                obtain ⟨we, hrun, hmape, hge⟩ := hted.map.update (by unfold maxLen; omega) hr hc hvv.symm hbv
                have HGE := Lib.hid hge
                have HME := Lib.hid (hted.put hge hmape)
                have HMB : Hid (me + 1 ≤ m + (60 * B + 1)) := Lib.hid (by omega)
                have HVV := Lib.hid hvv
                have HGR := Lib.hid hM0.gr
                clear hge hmape hted hte hme hvv hM0 HMo
                go_wp2_with fail
                go_region
                all_goals
                  go_wp2_with fail
                  go_ret
                  exact ⟨ret_int (by rw [HVV.out]), ⟨me + 1, HMB.out, HME.out⟩, (HGR.out.trans (grown_below (Below.refl wo.heap.size wo).drew)).trans HGE.out⟩
              · have hnd := nand_T s hs16 c hc HS.out.1
                have hb := and_T s hs16 hs0 c hc
                have hcf := cut_facts c hc s hs16 hs0 (by omega) HS.out.1
                have hpv := cut_prev c hc s hs16 hs0
                have hnx := HCC.out s hs16 hs0 HS.out.1 (by omega)
                obtain ⟨s2, hs2⟩ : ∃ x, x = c ^^^ s := ⟨_, rfl⟩
                obtain ⟨sn, hsn⟩ : ∃ x, x = (s - 1) &&& c := ⟨_, rfl⟩
                obtain ⟨a1, ha1⟩ : ∃ x, x = V r s := ⟨_, rfl⟩
                rw [← hs2] at hnd hcf hnx
                rw [← hsn] at hb hpv hnx
                obtain ⟨a2, ha2⟩ : ∃ x, x = V r s2 := ⟨_, rfl⟩
                rw [← ha1, ← ha2] at hnx
                have v1 : a1 ≤ 9 := by rw [ha1]; exact HV9.out _ _
                have v2 : a2 ≤ 9 := by rw [ha2]; exact HV9.out _ _
                have husl := us_lt (B := B) hpv.1 (by omega)
                have hus := us_le (B := B) (s := sn)
                have HC1 := Lib.hid (fun (X : World) (M : Nat) (hX : Mid w W X kb mb M A n cc V q r c) (hM : M + B ≤ 2 ^ 62) => show Calls Try.prog 15 #[.pointer (some ⟨kb, 0, none⟩), .agg #[.int .u64 (r : Nat), .int .u64 (s : Nat)]] X (LeastP w X kb mb (M + B) A n cc V a1) by
                  obtain ⟨m', h1, h2⟩ := hX.tk
                  rw [ha1]
                  refine (HREC.out r s m' X h2 r0 hr (by omega) hs16 (by omega) (by omega)).mono fun e w' hp => ⟨hp.1, ?_, hp.2.2⟩
                  obtain ⟨m2, h3, h4⟩ := hp.2.1
                  exact ⟨m2, by omega, h4⟩)
                have HC2 := Lib.hid (fun (X : World) (M : Nat) (hX : Mid w W X kb mb M A n cc V q r c) (hM : M + B ≤ 2 ^ 62) => show Calls Try.prog 15 #[.pointer (some ⟨kb, 0, none⟩), .agg #[.int .u64 (r : Nat), .int .u64 (s2 : Nat)]] X (LeastP w X kb mb (M + B) A n cc V a2) by
                  obtain ⟨m', h1, h2⟩ := hX.tk
                  rw [ha2]
                  refine (HREC.out r s2 m' X h2 r0 hr (by omega) (by omega) (by omega) (by omega)).mono fun e w' hp => ⟨hp.1, ?_, hp.2.2⟩
                  obtain ⟨m2, h3, h4⟩ := hp.2.1
                  exact ⟨m2, by omega, h4⟩)
                obtain ⟨u, hu⟩ : ∃ u, u = usT B s := ⟨_, rfl⟩
                rw [← hu] at husl HMo
                obtain ⟨un, hun⟩ : ∃ u, u = usT B sn := ⟨_, rfl⟩
                rw [← hun] at husl hus
                have b1 : m + 30 * B + u + B ≤ 2 ^ 62 := by omega
                have b2 : m + 30 * B + u + B + B ≤ 2 ^ 62 := by omega
                have HB3 : Hid (m + 30 * B + u + B + B ≤ m + 30 * B + usT B sn) := Lib.hid (by rw [← hun]; omega)
                have HNX : Hid (sn &&& c = sn ∧ min (fR 0) (fC sn) = min bv (1 + max a1 a2)) := Lib.hid ⟨hpv.2.1, by rw [hnx, ← HS.out.2]; omega⟩
                obtain ⟨p1, _, p3⟩ := hpv
                have HMd := Lib.hid (HMo.out.below (Below.refl wo.heap.size wo).drew)
                have cs4 := HMo.out.cells
                have HF1 := Lib.hid (HC1.out wo (m + 30 * B + u) HMo.out b1)
                have HF1d := Lib.hid (HC1.out wo.drew (m + 30 * B + u) HMd.out b1)
                have HB2 := Lib.hid b2
                clear hcf hnx hs2 hsn ha1 ha2 husl hus hu hun b1 b2 HS HC1
                go_wp2_with fail
                go_region_held3 (fun X => X.cell? ⟨q, 0, none⟩ = some (.int .u64 (r : Nat)) ∧ X.cell? ⟨q, 1, none⟩ = some (.int .u64 (c : Nat)) ∧ X.cell? ⟨kb, 0, none⟩ = some (.slice A n cc) ∧ X.cell? ⟨kb, 1, none⟩ = some (.map (some mb))) (first | exact cs6 | exact cs5 | exact cs4 | go_keep) (first
                  | (go_at_call 15; (with_reducible refine (HC2.out _ _ HM5.out HB2.out).mono ?_); rintro e w6 hp6; have hm6 := HM5.out.call hp6; have cs6 := hm6.cells; have HM6 := Lib.hid hm6; clear hm6; obtain rfl := hp6.1; clear hp6)
                  | (go_at_call 15; (with_reducible refine HF1.out.mono ?_); rintro e w5 hp5; have hm5 := HMo.out.call hp5; have cs5 := hm5.cells; have HM5 := Lib.hid hm5; clear hm5; obtain rfl := hp5.1; clear hp5)
                  | (go_at_call 15; (with_reducible refine HF1d.out.mono ?_); rintro e w5 hp5; have hm5 := HMd.out.call hp5; have cs5 := hm5.cells; have HM5 := Lib.hid hm5; clear hm5; obtain rfl := hp5.1; clear hp5))
                obtain ⟨e0, e1, e2, e3⟩ := cs6
                obtain ⟨bn, hbn⟩ : ∃ x, x = min bv (1 + max a1 a2) := ⟨_, rfl⟩
                have hmm := mm_T a1 a2 bv v1 v2
                rw [← hbn] at hmm HNX
                rw [hmm]
                have hbn9 : bn ≤ 9 := by omega
                have HMN : Hid (Mid w W w6 kb mb (m + 30 * B + usT B sn) A n cc V q r c) := Lib.hid (HM6.out.mono HB3.out)
                clear cs4 cs5 hmm hbn HM6 HM5 HMo HMd HF1 HF1d
                go_wp2_with fail
                all_goals exact ⟨⟨sn, by omega, p3, bn, hbn9, rfl, rfl, HNX, HMN⟩, by simp [intOf]; omega⟩
          · have hnd := nand_T s hs16 r hr HS.out.1
            have hb := and_T s hs16 hs0 r hr
            have hcf := cut_facts r hr s hs16 hs0 (by omega) HS.out.1
            have hpv := cut_prev r hr s hs16 hs0
            have hnx := HCR.out s hs16 hs0 HS.out.1 (by omega)
            obtain ⟨s2, hs2⟩ : ∃ x, x = r ^^^ s := ⟨_, rfl⟩
            obtain ⟨sn, hsn⟩ : ∃ x, x = (s - 1) &&& r := ⟨_, rfl⟩
            obtain ⟨a1, ha1⟩ : ∃ x, x = V s c := ⟨_, rfl⟩
            rw [← hs2] at hnd hcf hnx
            rw [← hsn] at hb hpv hnx
            obtain ⟨a2, ha2⟩ : ∃ x, x = V s2 c := ⟨_, rfl⟩
            rw [← ha1, ← ha2, HS.out.2] at hnx
            have v1 : a1 ≤ 9 := by rw [ha1]; exact HV9.out _ _
            have v2 : a2 ≤ 9 := by rw [ha2]; exact HV9.out _ _
            have husl := us_lt (B := B) hpv.1 (by omega)
            have hus := us_le (B := B) (s := sn)
            have HC1 := Lib.hid (fun (X : World) (M : Nat) (hX : Mid w W X kb mb M A n cc V q r c) (hM : M + B ≤ 2 ^ 62) => show Calls Try.prog 15 #[.pointer (some ⟨kb, 0, none⟩), .agg #[.int .u64 (s : Nat), .int .u64 (c : Nat)]] X (LeastP w X kb mb (M + B) A n cc V a1) by
              obtain ⟨m', h1, h2⟩ := hX.tk
              rw [ha1]
              refine (HREC.out s c m' X h2 (by omega) hs16 c0 hc (by omega) (by omega)).mono fun e w' hp => ⟨hp.1, ?_, hp.2.2⟩
              obtain ⟨m2, h3, h4⟩ := hp.2.1
              exact ⟨m2, by omega, h4⟩)
            have HC2 := Lib.hid (fun (X : World) (M : Nat) (hX : Mid w W X kb mb M A n cc V q r c) (hM : M + B ≤ 2 ^ 62) => show Calls Try.prog 15 #[.pointer (some ⟨kb, 0, none⟩), .agg #[.int .u64 (s2 : Nat), .int .u64 (c : Nat)]] X (LeastP w X kb mb (M + B) A n cc V a2) by
              obtain ⟨m', h1, h2⟩ := hX.tk
              rw [ha2]
              refine (HREC.out s2 c m' X h2 (by omega) (by omega) c0 hc (by omega) (by omega)).mono fun e w' hp => ⟨hp.1, ?_, hp.2.2⟩
              obtain ⟨m2, h3, h4⟩ := hp.2.1
              exact ⟨m2, by omega, h4⟩)
            obtain ⟨u, hu⟩ : ∃ u, u = usT B s := ⟨_, rfl⟩
            rw [← hu] at husl HMo
            obtain ⟨un, hun⟩ : ∃ u, u = usT B sn := ⟨_, rfl⟩
            rw [← hun] at husl hus
            have b1 : m + u + B ≤ 2 ^ 62 := by omega
            have b2 : m + u + B + B ≤ 2 ^ 62 := by omega
            have HB3 : Hid (m + u + B + B ≤ m + usT B sn) := Lib.hid (by rw [← hun]; omega)
            have HNX : Hid (sn &&& r = sn ∧ fR sn = min bv (1 + max a1 a2)) := Lib.hid ⟨hpv.2.1, hnx⟩
            obtain ⟨p1, _, p3⟩ := hpv
            have HMd := Lib.hid (HMo.out.below (Below.refl wo.heap.size wo).drew)
            have cs4 := HMo.out.cells
            have HF1 := Lib.hid (HC1.out wo (m + u) HMo.out b1)
            have HF1d := Lib.hid (HC1.out wo.drew (m + u) HMd.out b1)
            have HB2 := Lib.hid b2
            clear hcf hnx hs2 hsn ha1 ha2 husl hus hu hun b1 b2 HS HC1
            go_wp2_with fail
            go_region_held3 (fun X => X.cell? ⟨q, 0, none⟩ = some (.int .u64 (r : Nat)) ∧ X.cell? ⟨q, 1, none⟩ = some (.int .u64 (c : Nat)) ∧ X.cell? ⟨kb, 0, none⟩ = some (.slice A n cc) ∧ X.cell? ⟨kb, 1, none⟩ = some (.map (some mb))) (first | exact cs6 | exact cs5 | exact cs4 | go_keep) (first
              | (go_at_call 15; (with_reducible refine (HC2.out _ _ HM5.out HB2.out).mono ?_); rintro e w6 hp6; have hm6 := HM5.out.call hp6; have cs6 := hm6.cells; have HM6 := Lib.hid hm6; clear hm6; obtain rfl := hp6.1; clear hp6)
              | (go_at_call 15; (with_reducible refine HF1.out.mono ?_); rintro e w5 hp5; have hm5 := HMo.out.call hp5; have cs5 := hm5.cells; have HM5 := Lib.hid hm5; clear hm5; obtain rfl := hp5.1; clear hp5)
              | (go_at_call 15; (with_reducible refine HF1d.out.mono ?_); rintro e w5 hp5; have hm5 := HMd.out.call hp5; have cs5 := hm5.cells; have HM5 := Lib.hid hm5; clear hm5; obtain rfl := hp5.1; clear hp5))
            obtain ⟨e0, e1, e2, e3⟩ := cs6
            obtain ⟨bn, hbn⟩ : ∃ x, x = min bv (1 + max a1 a2) := ⟨_, rfl⟩
            have hmm := mm_T a1 a2 bv v1 v2
            rw [← hbn] at hmm HNX
            rw [hmm]
            have hbn9 : bn ≤ 9 := by omega
            have HMN : Hid (Mid w W w6 kb mb (m + usT B sn) A n cc V q r c) := Lib.hid (HM6.out.mono HB3.out)
            clear cs4 cs5 hmm hbn HM6 HM5 HMo HMd HF1 HF1d
            go_wp2_with fail
            all_goals exact ⟨⟨sn, by omega, p3, bn, hbn9, rfl, rfl, HNX, HMN⟩, by simp [intOf]; omega⟩
end Go.Proofs.Ytnfibchffbdmpaa
