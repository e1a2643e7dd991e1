/- What lone.Single computes. Conditions: the sets are words. -/
import Derived.Test.YtmnleblbandghaaLucky
import Derived.Test.YtmnleblbandghaaClone
import Derived.Test.YtmnleblbandghaaIsolLaw
import Derived.IntWalk
namespace Go.Proofs.Ytmnleblbandghaa
open Go.ChangeShapes Go.WideShapes Go.ChangeAt Go.RowKit
set_option linter.unusedVariables false
attribute [local go_sem] Oper.semAt_some
/-- a slice of the call's own that is not empty is a row, elements of s cells -/
theorem Own.rowS {w : World} {base s : Nat} {e : TypeId} {A : Option Addr} {n c k : Nat} {C : Nat → Value} (h : Own w base e s A n c k C) (hn : 0 < n) :
    ∃ g F, A = some ⟨g, 0, none⟩ ∧ base ≤ g ∧ w.rowIs g e (c * s) F ∧ n ≤ c ∧ ∀ i, i < k → F i = C i := by
  rcases h.1.2 with ⟨_, h0⟩ | ⟨g, cap, cur, hv, hb, hg, hnc, hc, hs, ht⟩
  · omega
  · have hk := h.len
    injection hv with hA _ hcc
    subst hA; subst hcc
    have hle : n * s ≤ c * s := Nat.mul_le_mul_right s hnc
    refine ⟨g, fun i => (cur[i]?).getD default, rfl, hb, ⟨cur, hg, hs, fun i hi => ?_⟩, hnc, fun i hi => ?_⟩
    · have : i < cur.size := by omega
      simp [this]
    · obtain ⟨b, off, e1, _, hcell⟩ := h.rd.at_ hi
      simp at e1
      obtain ⟨rfl, rfl⟩ := e1
      rw [Nat.zero_add, cell_of_row w g i cur e (0, 0) hg] at hcell
      show (cur[i]?).getD default = _
      rw [hcell]; rfl
def BOk (b : Int) : Prop := 1 ≤ b ∧ b ≤ 6
def isoW (S : Nat → Int) (b N m d : Nat) : Bool := soloB (fun i => swt (S i) (wtD b d) N) m
def SinR (n : Int) (m : Nat) (S : Nat → Int) (k : Int) (w : World) (e : Ending) (w' : World) : Prop := ∃ (one all x : Int), e = .returned (.tuple #[.int .i64 one, .int .i64 all, .int .i64 x]) ∧ Below w.heap.size w w' ∧
      ((x = 0 ∧ LOk n m S ∧ BOk k ∧ all = (k.toNat ^ n.toNat : Nat) ∧ one = (cntO (isoW S k.toNat n.toNat m) (k.toNat ^ n.toNat) : Nat)) ∨ (x ≠ 0 ∧ ¬ (LOk n m S ∧ BOk k)))
set_option maxRecDepth 100000 in
set_option maxHeartbeats 800000 in
theorem single_in (F : Fence) (hFw : Hid (F = Fence.wide)) (nn : Nat) (h1 : 1 ≤ nn) (hro : F.round = none) (n : Int) (A : Option Addr) (m c : Nat) (S : Nat → Int) (k : Int) (w : World) (wn : (Lit.int .i64 n).wf = true) (wk : (Lit.int .i64 k).wf = true) (h : Rd w A m (fun i => .int .u32 (S i))) (hm : m ≤ maxLen) (hS : ∀ i, i < m → (Lit.int .u32 (S i)).wf = true) :
    CallsIn F nn Try.prog 15 #[.int .i64 n, .slice A m c, .int .i64 k] w (SinR n m S k w) := by
  have H := Lib.hid h
  have HS := Lib.hid hS
  have HM := Lib.hid hm
  have hF : ∀ j, F.fn j := fun j => by rw [hFw.out]; trivial
  clear h hS hm
  refine callsIn_of_wp_marks Try.func15 rfl (hF _) ?_ hro
  simp only [Try.ntmps15, List.size_toArray, List.length_cons, List.length_nil, Nat.reduceAdd, Nat.reduceSub, Array.replicate_succ, Array.replicate_zero, List.push_toArray, List.append_toArray, List.nil_append, List.cons_append]
  have hb0 := (Below.refl w.heap.size w).alloc (Nat.le_refl _) (.cells #[.slice A m c] 22)
  have hwr : CallsIn F (nn - 1) Try.prog 17 #[.int .i64 n, .slice A m c] (w.alloc (.cells #[.slice A m c] 22)) fun e w' => (∃ x : Int, e = .returned (.int .i64 x) ∧ (x = 0 ↔ LOk n m S)) ∧ Below (w.alloc (.cells #[.slice A m c] 22)).heap.size (w.alloc (.cells #[.slice A m c] 22)) w' := by
    rw [hFw.out]
    exact callsIn_wide.2 (loneW_any n A m c S _ wn (H.out.below hb0) HM.out HS.out)
  have HWR := Lib.hid hwr
  have HB0 := Lib.hid hb0
  clear hwr hb0
  gi_wp2
  refine HWR.out.mono ?_
  rintro e w1 ⟨⟨x, rfl, hx⟩, hb1⟩
  have HX := Lib.hid hx
  have hs0 : (w.alloc (.cells #[.slice A m c] 22)).heap.size = w.heap.size + 1 := by simp
  have b0 : Boxed w1 w.heap.size 22 (.slice A m c) := (hb1.block w.heap.size (by omega)).trans (Boxed.new w _ _)
  have hs1 := hb1.size
  rw [hs0] at hs1
  have HB1 := Lib.hid (HB0.out.trans (hb1.mono HB0.out.size))
  clear hx hb1 hs0 HWR HB0
  by_cases hz : x = 0
  · subst hz
    have hok := HX.out.1 rfl
    have hn5 := hok.1
    have hm200 := hok.2.1
    have HOK := Lib.hid hok
    clear hok
    have k63 : -9223372036854775808 ≤ k ∧ k ≤ 9223372036854775807 := by
      have := wk
      simp [Lit.wf, IntKind.min, IntKind.max, IntKind.signed, IntKind.bits] at this; omega
    have bad : ∀ w' : World, w' = w1 → ¬ BOk k → SinR n m S k w (.returned (.tuple #[.int .i64 0, .int .i64 0, .int .i64 2])) w' := fun w' e hk => by
      subst e
      exact ⟨0, 0, 2, rfl, HB1.out, .inr ⟨by omega, fun h => hk h.2⟩⟩
    have BAD := Lib.hid bad
    clear bad
    by_cases hk0 : k < 1
    · gi_wp2
      exact ⟨.tuple #[.int .i64 0, .int .i64 0, .int .i64 2], by simp [results, Try.f15, go_sem], BAD.out _ rfl (fun h => by have := h.1; have := h.2; omega)⟩
    · by_cases hk12 : 6 < k
      · gi_wp2
        exact ⟨.tuple #[.int .i64 0, .int .i64 0, .int .i64 2], by simp [results, Try.f15, go_sem], BAD.out _ rfl (fun h => by have := h.1; have := h.2; omega)⟩
      · skip
        · clear BAD HX
          have hkok : BOk k := ⟨by omega, by omega⟩
          have HKO := Lib.hid hkok
          clear hkok
          have d1 : decide (k < 1) = false := by simp; omega
          have d2 : decide (6 < k) = false := by simp; omega
          obtain ⟨K, rfl⟩ : ∃ K : Nat, n = (K : Int) := ⟨n.toNat, by omega⟩
          obtain ⟨b, rfl⟩ : ∃ b : Nat, k = (b : Int) := ⟨k.toNat, by omega⟩
          gi_wp2
          refine (choices_in F (nn - 1) (hF _) hro _ _ _).mono ?_
          rintro e w' ⟨rfl, rfl⟩
          gi_wp2
          have b1 := Boxed.new w1 3 (.int .i64 0)
          have b2 := Boxed.new (w1.alloc (.cells #[.int .i64 0] 3)) 3 (.int .i64 0)
          have b3 := Boxed.new ((w1.alloc (.cells #[.int .i64 0] 3)).alloc (.cells #[.int .i64 0] 3)) 3 (.int .i64 K)
          have b4 := Boxed.new (((w1.alloc (.cells #[.int .i64 0] 3)).alloc (.cells #[.int .i64 0] 3)).alloc (.cells #[.int .i64 K] 3)) 3 (.int .i64 b)
          simp only [World.size_alloc] at b2 b3 b4
          have b0 := (((b0.alloc (.cells #[.int .i64 0] 3)).alloc (.cells #[.int .i64 0] 3)).alloc (.cells #[.int .i64 K] 3)).alloc (.cells #[.int .i64 b] 3)
          have b1 := ((b1.alloc (.cells #[.int .i64 0] 3)).alloc (.cells #[.int .i64 K] 3)).alloc (.cells #[.int .i64 b] 3)
          have b2 := (b2.alloc (.cells #[.int .i64 K] 3)).alloc (.cells #[.int .i64 b] 3)
          have b3 := b3.alloc (.cells #[.int .i64 b] 3)
          have hB0 : Below w.heap.size w ((((w1.alloc (.cells #[.int .i64 0] 3)).alloc (.cells #[.int .i64 0] 3)).alloc (.cells #[.int .i64 K] 3)).alloc (.cells #[.int .i64 b] 3)) :=
            (((HB1.out.alloc (by omega) _).alloc (by simp; omega) _).alloc (by simp; omega) _).alloc (by simp; omega) _
          have hsz0 : ((((w1.alloc (.cells #[.int .i64 0] 3)).alloc (.cells #[.int .i64 0] 3)).alloc (.cells #[.int .i64 K] 3)).alloc (.cells #[.int .i64 b] 3)).heap.size = w1.heap.size + 4 := by simp
          obtain ⟨W0, hW0⟩ : ∃ W0, ((((w1.alloc (.cells #[.int .i64 0] 3)).alloc (.cells #[.int .i64 0] 3)).alloc (.cells #[.int .i64 K] 3)).alloc (.cells #[.int .i64 b] 3)) = W0 := ⟨_, rfl⟩
          rw [hW0] at b0 b1 b2 b3 b4 hB0 hsz0 ⊢
          clear hW0
          have hle : w1.heap.size + 4 ≤ W0.heap.size := by omega
          clear hsz0
          have hwide : SeqL F (nn - 1) Try.prog 32 #[.pointer (some ⟨w1.heap.size + 1 + 1, 0, none⟩), .pointer (some ⟨w1.heap.size + 1 + 1 + 1, 0, none⟩)] [w1.heap.size + 1 + 1, w1.heap.size + 1 + 1 + 1] #[.slice (some ⟨W0.heap.size + 2, 0, none⟩) K K] 3 K (dgV b) (b ^ K) W0 := by
            rw [hFw.out]
            exact choices_seq (nn - 1) K b _ _ (by omega) (by omega) (by omega) W0 b3.cell b4.cell b3.lt b4.lt
          refine wpIn_rangeL hro h1 (gf := 32) (lb := #[.pointer (some ⟨w1.heap.size + 1 + 1, 0, none⟩), .pointer (some ⟨w1.heap.size + 1 + 1 + 1, 0, none⟩)]) rfl (hF _) (enters_of Try.func32 (by kernel_rfl) rfl)
            [w1.heap.size + 1 + 1, w1.heap.size + 1 + 1 + 1] (by intro q hq; simp at hq; omega) hwide rfl
            (fun q W => (Boxed W w.heap.size 22 (.slice A m c) ∧ Boxed W w1.heap.size 3 (.int .i64 (cntO (isoW S b K m) q : Nat)) ∧ Boxed W (w1.heap.size + 1) 3 (.int .i64 (q : Nat))) ∧ Below w.heap.size w W)
            (fun q X Y hI hb => ⟨⟨(hb.block _ (by omega)).trans hI.1.1, (hb.block _ (by omega)).trans hI.1.2.1, (hb.block _ (by omega)).trans hI.1.2.2⟩, hI.2.trans (hb.mono (by omega))⟩)
            ⟨⟨b0, b1, b2⟩, hB0⟩
            { tmps := #[.int .i64 (K : Nat), .slice A m c, .int .i64 (b : Nat), undef, .pointer (some ⟨w.heap.size, 0, none⟩), undef, .int .i64 0, .int .i64 0, .int .i64 0, .int .i64 0, .pointer (some ⟨w1.heap.size, 0, none⟩), .pointer (some ⟨w1.heap.size + 1, 0, none⟩), .slice (some ⟨W0.heap.size + 2, 0, none⟩) K K, undef, undef, undef, undef, .int .i64 (K : Nat), .slice A m c, .int .i64 0, .int .i64 0, .bool false, undef, .int .i64 (b : Nat), .bool false, .bool false, .int .i64 (b : Nat), .bool false, .bool false, .int .i64 (K : Nat), .int .i64 (b : Nat), .func (.func 32) #[] #[.pointer (some ⟨w1.heap.size + 1 + 1, 0, none⟩), .pointer (some ⟨w1.heap.size + 1 + 1 + 1, 0, none⟩)], .slice (some ⟨W0.heap.size + 2, 0, none⟩) K K, undef, undef, undef, undef, undef, undef, undef, undef, undef, undef, undef, undef, undef, undef, undef, undef, undef, undef, undef, undef, undef, undef, undef, undef, undef, undef, undef, undef, undef], defers := [] } ?assign ?body ?done
          case assign =>
            intro l W K' hK'
            gi_wp2
            exact hK'
          case body =>
            rintro l q W hq ⟨⟨g0, g1, g2⟩, hB⟩ hLW hrow
            clear hwide b0 b1 b2 b3 b4 hB0
            have k0 := g0.cell
            have k1 := g1.cell
            have k1f := g1.frozen
            have k2 := g2.cell
            have k2f := g2.frozen
            have G0 := Lib.hid g0
            have G1 := Lib.hid g1
            have G2 := Lib.hid g2
            have HBW := Lib.hid hB
            have HROW := Lib.hid hrow
            have hcO : cntO (isoW S b K m) (q + 1) = cntO (isoW S b K m) q + if isoW S b K m q then 1 else 0 := rfl
            have hcb := cntO_le (isoW S b K m) q
            have hqb : b ^ K ≤ 7776 := Nat.le_trans (Nat.pow_le_pow_left (show b ≤ 6 by omega) K) (Nat.pow_le_pow_right (n := 6) (i := K) (j := 5) (by omega) (by omega))
            obtain ⟨V, hV⟩ : ∃ V, V = cntO (isoW S b K m) q := ⟨_, rfl⟩
            rw [← hV] at k1 hcO hcb
            have HV := Lib.hid hV
            have HCO := Lib.hid hcO
            clear g0 g1 g2 hB hrow hcO hV
            have hq4 : q < 7776 := by omega
            gi_wp2
            have hcl := clone_any (some ⟨W0.heap.size + 2, 0, none⟩) K K (fun i => ((dg b q i : Nat) : Int)) W (Rd.of_row (HROW.out) (Nat.le_refl _)) (by omega)
            have hcl2 := CallsIn.inRound (n := nn - 1 - 1 - 1) l (callsIn_wide.2 hcl)
            have HCL := Lib.hid hcl2
            clear hcl hcl2
            refine ⟨fun h => (by rw [hFw.out] at h; cases h), ?_⟩
            rw [hFw.out]
            refine HCL.out.mono ?_
            rintro e w2 ⟨A2, c2, rfl, hown, hb2⟩
            obtain ⟨g, R0, rfl, hg, hrow0, hKc, hR0⟩ := hown.rowS (by omega)
            have HB2 := Lib.hid hb2
            have HROW0 := Lib.hid hrow0
            have HR0 := Lib.hid hR0
            clear hown hrow0 hR0 hb2 HCL
            gi_wp2
            gi_loopw [37] (fun s37 wr => ∃ t : Nat, t ≤ K ∧ s37 = .int .i64 (t : Nat) ∧ Hid (Below W.heap.size W wr) ∧ Hid (∃ R, wr.rowIs g 3 (c2 * 1) R ∧ ∀ i, i < K → R i = .int .i64 (((dg b q i : Nat) : Int) + if i < t then 1 else 0))) (fun s37 _ => K - (intOf s37).toNat)
            case atStart => exact ⟨0, by omega, rfl, HB2, Lib.hid ⟨R0, HROW0.out, fun i hi => by rw [HR0.out i hi, if_neg (by omega), Int.add_zero]⟩⟩
            case round =>
              clear HB2 HROW0 HR0
              obtain ⟨wo, rfl⟩ : ∃ wo : World, wo = wr := ⟨_, rfl⟩
              obtain ⟨j, hj, rfl, HBo, HRo⟩ := hrel
              have hbo := HBo.out.size
              by_cases hlt : j < K
              · obtain ⟨R, hrow, hR⟩ := HRo.out
                have hc : wo.cell? ⟨g, j, none⟩ = some (.int .i64 (dg b q j : Nat)) := by
                  rw [hrow.cell (by omega), hR j hlt, if_neg (by omega), Int.add_zero]
                have hf : wo.frozen? ⟨g, j, none⟩ = false := hrow.frozen j
                have hd := dg_lt (b := b) (by omega) q j
                obtain ⟨D, hD⟩ : ∃ D, D = dg b q j := ⟨_, rfl⟩
                rw [← hD] at hc hd
                have HD := Lib.hid hD
                have HROW1 := Lib.hid hrow
                have HR1 := Lib.hid hR
                clear hD hrow hR HRo
                gi_wp2
                go_roundw
                case rel => exact ⟨j + 1, by omega, by go_num, Lib.hid (HBo.out.setCell (p := ⟨g, j, none⟩) hg _), Lib.hid ⟨_, HROW1.out.set j _, fun i hi => by
                  by_cases e : i = j
                  · subst e; rw [if_pos rfl, if_pos (by omega), ← HD.out]
                  · rw [if_neg e, HR1.out i hi]
                    by_cases e2 : i < j
                    · rw [if_pos e2, if_pos (by omega)]
                    · rw [if_neg e2, if_neg (by omega)]⟩⟩
                case measure => simp [intOf]; omega
              · obtain rfl : j = K := by omega
                have c0 := (HBo.out.cell (p := ⟨w.heap.size, 0, none⟩) (by show w.heap.size < _; omega)).trans k0
                have hrd : Rd wo (some ⟨g, 0, none⟩) j (fun i => .int .i64 (wtD b q i)) := by
                  obtain ⟨R, hrow, hR⟩ := HRo.out
                  exact (Rd.of_row hrow (by omega)).congr (fun i hi => by rw [hR i hi, if_pos hi]; rfl)
                have hsv := least_any A (some ⟨g, 0, none⟩) m c j c2 S (wtD b q) wo (H.out.below (HBW.out.trans (HBo.out.mono HBW.out.size))) (by omega) HS.out hrd (by omega) (fun t ht => by
                  have := dg_lt (b := b) (by omega) q t
                  unfold wtD; omega)
                have hsv2 := CallsIn.inRound (n := nn - 1 - 1 - 1) l (callsIn_wide.2 hsv)
                have HSV := Lib.hid hsv2
                clear hsv hsv2 hrd HRo
                gi_wp2
                refine ⟨fun h => (by rw [hFw.out] at h; cases h), ?_⟩
                rw [hFw.out]
                refine HSV.out.mono ?_
                rintro e w5 ⟨B5, A5, cn, cc5, G5, rfl, _, hcn, hpos, hsv, hb5⟩
                have hbW : Below W.heap.size W w5 := HBo.out.trans (hb5.mono hbo)
                have e0 : Boxed w5 w.heap.size 22 (.slice A m c) := (hbW.block w.heap.size (by omega)).trans G0.out
                have e1 : Boxed w5 w1.heap.size 3 (.int .i64 V) := by have := (hbW.block w1.heap.size (by omega)).trans G1.out; rw [← HV.out] at this; exact this
                have e2 : Boxed w5 (w1.heap.size + 1) 3 (.int .i64 q) := (hbW.block (w1.heap.size + 1) (by omega)).trans G2.out
                have E0 := Lib.hid e0
                have E1 := Lib.hid e1
                have E2 := Lib.hid e2
                have c1 := e1.cell
                have f1 := e1.frozen
                have c2' := e2.cell
                have f2 := e2.frozen
                have hcnt : isoW S b j m q = (cn == 1) := (lst_solo hsv (hpos (by omega)).1).symm
                have HCNT := Lib.hid hcnt
                have HBW5 := Lib.hid hbW
                have hs5 := hbW.size
                clear hpos hsv hb5 hbW e0 e1 e2 hcnt k1 k1f k2 k2f k0 HSV c0
                have kpb : ∀ (X : World), (∀ b', b' ≠ w1.heap.size → b' ≠ w1.heap.size + 1 → X.heap[b']? = w5.heap[b']?) → KpB ((W0.heap.size + 2) :: [w1.heap.size + 1 + 1, w1.heap.size + 1 + 1 + 1]) W X := fun X hX b' hb' => by
                  have hb2 : b' = W0.heap.size + 2 ∨ b' = w1.heap.size + 1 + 1 ∨ b' = w1.heap.size + 1 + 1 + 1 := by simpa using hb'
                  exact (hX b' (by omega) (by omega)).trans (HBW5.out.block b' (by omega))
                have KPB := Lib.hid kpb
                clear kpb
                by_cases h1c : cn = 1
                · have q1 : ((cn : Int) == 1) = true := by simp [h1c]
                  have HC1 := Lib.hid h1c
                  clear h1c
                  gi_wp2
                  refine ⟨((keepsFrom_below HBW5.out).trans ((KeepsOthers.setCell _ _ _).from _)).trans ((KeepsOthers.setCell _ _ _).from _), KPB.out _ (fun b' n1 n2 => (Below.heap_setCell _ _ _ _ n2).trans (Below.heap_setCell _ _ _ _ n1)), ⟨⟨(E0.out.other (by omega) _).other (by omega) _, ?_, ?_⟩, ?_⟩⟩
                  · have := (E1.out.set (.int .i64 ((V : Int) + 1))).other (show w1.heap.size ≠ w1.heap.size + 1 by omega) (.int .i64 ((q : Int) + 1))
                    rw [HCO.out, HCNT.out, HC1.out]
                    exact this
                  · exact ((E2.out.other (show w1.heap.size + 1 ≠ w1.heap.size by omega) (.int .i64 ((V : Int) + 1))).set (.int .i64 ((q : Int) + 1)))
                  · exact ((HBW.out.trans (HBW5.out.mono HBW.out.size)).setCell (p := ⟨w1.heap.size, 0, none⟩) (by show w.heap.size ≤ w1.heap.size; omega) _).setCell (p := ⟨w1.heap.size + 1, 0, none⟩) (by show w.heap.size ≤ w1.heap.size + 1; omega) _
                · have q1 : ((cn : Int) == 1) = false := by simp; omega
                  have HC1 := Lib.hid h1c
                  clear h1c
                  gi_wp2
                  refine ⟨(keepsFrom_below HBW5.out).trans ((KeepsOthers.setCell _ _ _).from _), KPB.out _ (fun b' n1 n2 => Below.heap_setCell _ _ _ _ n2), ⟨⟨E0.out.other (by omega) _, ?_, ?_⟩, ?_⟩⟩
                  · have := E1.out.other (show w1.heap.size ≠ w1.heap.size + 1 by omega) (.int .i64 ((q : Int) + 1))
                    rw [HCO.out, HCNT.out, if_neg (by simpa using HC1.out)]
                    exact this
                  · exact E2.out.set (.int .i64 ((q : Int) + 1))
                  · exact (HBW.out.trans (HBW5.out.mono HBW.out.size)).setCell (p := ⟨w1.heap.size + 1, 0, none⟩) (by show w.heap.size ≤ w1.heap.size + 1; omega) _
          case done =>
            rintro D W hD ⟨⟨g0, g1, g2⟩, hB⟩ hK'
            obtain rfl := hFw.out
            have k1 := g1.cell
            have k2 := g2.cell
            gi_wp2
            gi_quiet (fail)
            gi_wp2
            have hKd : (W.drewN nq).heap[D]? = some (.deferred (some [])) := hK'
            refine ⟨by simp, .inl ⟨_, _, rfl, run_takeDeferred hKd, ?_⟩⟩
            refine ⟨.tuple #[.int .i64 (cntO (isoW S b K m) (b ^ K) : Nat), .int .i64 ((b : Int) ^ K), .int .i64 0], by simp [results, Try.f15, go_sem], ⟨_, _, 0, rfl, (below_drewN hB nq).trans (belowK_b (w := w) (Nat.le_refl _) _ D _ _ (by omega) hKd rfl rfl), .inl ⟨rfl, HOK.out, HKO.out, ?_, ?_⟩⟩⟩
            · rw [Int.toNat_natCast, Int.toNat_natCast]; push_cast; rfl
            · rw [Int.toNat_natCast, Int.toNat_natCast]
  · have hne : (x != 0) = true := by simp [hz]
    have HZ := Lib.hid hz
    clear hz
    gi_wp2
    exact ⟨.tuple #[.int .i64 0, .int .i64 0, .int .i64 x], by simp [results, Try.f15, go_sem], ⟨0, 0, x, rfl, HB1.out, .inr ⟨HZ.out, fun h => HZ.out (HX.out.2 h.1)⟩⟩⟩
end Go.Proofs.Ytmnleblbandghaa
