/- lone.choices: all lists of K numbers below b, one by one. Conditions: few numbers, each small. -/
import Derived.Test.YtmnleblbandghaaRangeL
import Derived.Test.YtmnleblbandghaaDig
import Derived.Deep.OwnRows
import Derived.WalkKit
import Derived.Shelf.Abstract
import Derived.Shelf.RegionOpen
import Derived.Laws.MakeOwn
import Derived.OwnWalkIn
import Derived.TacticsInMore
import Derived.LoopNIn
import Derived.LoopIn
import Derived.Sort.LoopGhostIn
import Derived.Sort.QuietIn
namespace Go.Proofs.Ytmnleblbandghaa
open Go.RowKit
set_option linter.unusedVariables false
attribute [local go_sem] Oper.semAt_some
def dgV (b k : Nat) (i : Nat) : Value := .int .i64 (dg b k i : Nat)
theorem make_ints (K : Nat) (hK : K ≤ 1000) (W : World) : (Instr.makeSlice 31 (.int .i64 (K : Int)) (.int .i64 (K : Int))).run Try.prog W = .ok (.slice (some ⟨W.heap.size, 0, none⟩) K K) (W.alloc (.cells (madeCells #[.int .i64 0] K) 3)) := by
  have hinfo : (Try.prog.info? 3).map (fun i => (i.zero, i.size, i.bytes)) = some (some (.int .i64 0), 1, 8) := by kernel_rfl
  obtain ⟨i, hi, hzz⟩ := Option.map_eq_some_iff.1 hinfo
  simp only [Prod.mk.injEq] at hzz
  obtain ⟨hz, hs, hb⟩ := hzz
  have hr := run_make (P := Try.prog) W 31 3 i _ Try.underlying31 hi hz .i64 .i64 (K : Int) (K : Int) (by omega) (Int.le_refl _) (by rw [hb]; omega) (by omega)
  rw [hs] at hr
  simp only [Int.toNat_natCast, Nat.mul_one] at hr
  exact hr
set_option maxRecDepth 100000 in
set_option maxHeartbeats 800000 in
theorem choices_seq (n : Nat) (K b Bn Bb : Nat) (hK : K ≤ 12) (hb : 1 ≤ b) (hb32 : b ≤ 32) (w : World) (hBn : w.cell? ⟨Bn, 0, none⟩ = some (.int .i64 K)) (hBb : w.cell? ⟨Bb, 0, none⟩ = some (.int .i64 b)) (hln : Bn < w.heap.size) (hlb : Bb < w.heap.size) :
    SeqL Fence.wide n Try.prog 32 #[.pointer (some ⟨Bn, 0, none⟩), .pointer (some ⟨Bb, 0, none⟩)] [Bn, Bb] #[.slice (some ⟨w.heap.size + 2, 0, none⟩) K K] 3 K (dgV b) (b ^ K) w := by
  intro l J W hW hsz hJ hY h0
  rw [← hsz] at hJ hY
  have cn := (hW.cell (p := ⟨Bn, 0, none⟩) hln).trans hBn
  have cb := (hW.cell (p := ⟨Bb, 0, none⟩) hlb).trans hBb
  have lnW : Bn < W.heap.size := by omega
  have lbW : Bb < W.heap.size := by omega
  have HJ := Lib.hid hJ
  have HY := Lib.hid hY
  have HW := Lib.hid hW
  clear hJ hY hW hBn hBb hln hlb hsz
  refine callsIn_of_wp Try.func32 rfl trivial ?_ rfl
  simp only [Try.ntmps32, List.size_toArray, List.length_cons, List.length_nil, Nat.reduceAdd, Nat.reduceSub, Array.replicate_succ, Array.replicate_zero, List.push_toArray, List.append_toArray, List.nil_append, List.cons_append]
  have hmk := make_ints K (by omega)
  gi_wp2
  have hr0 := World.rowIs_made W (.int .i64 0) K 3
  have hb0 := (Below.refl W.heap.size W).alloc (Nat.le_refl _) (.cells (madeCells #[.int .i64 0] K) 3)
  have hN0 : 0 < b ^ K := Nat.pow_pos hb
  clear hmk
  have hr1 : (W.alloc (.cells (madeCells #[.int .i64 0] K) 3)).rowIs W.heap.size 3 K (dgV b 0) := hr0.congr (fun i hi => by unfold dgV; rw [dg_zero]; rfl)
  have j1 := HJ.out 0 _ _ h0 hb0
  have hcn1 := (hb0.cell (p := ⟨Bn, 0, none⟩) lnW).trans cn
  have hcb1 := (hb0.cell (p := ⟨Bb, 0, none⟩) lbW).trans cb
  obtain ⟨W1, hW1⟩ : ∃ W1, W1 = W.alloc (.cells (madeCells #[.int .i64 0] K) 3) := ⟨_, rfl⟩
  rw [← hW1] at hr1 j1 hcn1 hcb1 ⊢
  clear hW1 hr0 hb0 h0
  obtain ⟨L, hL⟩ : ∃ L, L = W.heap.size := ⟨_, rfl⟩
  rw [← hL] at hr1 lnW lbW HJ HY ⊢
  clear hL
  gi_loopg [5] (b ^ K) (fun gk s5 wr => ∃ k : Nat, k < b ^ K ∧ gk = b ^ K - k ∧ Hid (J k wr) ∧ Hid (wr.rowIs L 3 K (dgV b k)) ∧ wr.cell? ⟨Bn, 0, none⟩ = some (.int .i64 K) ∧ wr.cell? ⟨Bb, 0, none⟩ = some (.int .i64 b))
  case atStart => exact ⟨0, hN0, by omega, j1, hr1, hcn1, hcb1⟩
  case round =>
    clear hr1 j1 hcn1 hcb1 hN0 cn cb
    obtain ⟨k, hk, hgk, HJk, HR, hcn, hcb⟩ := hrel
    obtain ⟨fn, tmps, assign, body, hy, hR⟩ := HY.out k wr hk HJk.out HR.out
    gi_wp2
    refine ⟨fun h => (by cases h), ?_⟩
    refine hR.mono ?_
    rintro e W3 ⟨rfl, hJ3, hk3⟩
    have hr3 : W3.rowIs L 3 K (fun j => .int .i64 (if j < 0 then 0 else dg b k j : Nat)) := (HR.out.of_block (hk3 L (by simp))).congr (fun j hj => by unfold dgV; rw [if_neg (by omega)])
    have hcn3 := (hk3.cell (b := Bn) (by simp) 0).trans hcn
    have hcb3 := (hk3.cell (b := Bb) (by simp) 0).trans hcb
    clear hR hk3 hcn hcb hy HR HJk
    gi_wp2
    gi_loopw [5] (fun s5 wi => ∃ i : Nat, i ≤ K ∧ s5 = .int .i64 (i : Nat) ∧ Hid (nines b k i) ∧ Hid (wi.rowIs L 3 K (fun j => .int .i64 (if j < i then 0 else dg b k j : Nat))) ∧ Hid (J (k + 1) wi) ∧ wi.cell? ⟨Bn, 0, none⟩ = some (.int .i64 K) ∧ wi.cell? ⟨Bb, 0, none⟩ = some (.int .i64 b)) (fun s5 _ => K - (intOf s5).toNat)
    case atStart => exact ⟨0, by omega, rfl, Lib.hid (nines_zero b k), Lib.hid hr3, Lib.hid hJ3, hcn3, hcb3⟩
    case round =>
      clear hr3 hJ3 hcn3 hcb3
      obtain ⟨wi, rfl⟩ : ∃ wi : World, wi = wr := ⟨_, rfl⟩
      obtain ⟨i, hi, rfl, HN, HR, HJ3, hcn, hcb⟩ := hrel
      by_cases hlt : i < K
      · have hci : wi.cell? ⟨L, i, none⟩ = some (.int .i64 (dg b k i : Nat)) := by
          have := HR.out.cell hlt
          rw [if_neg (by omega)] at this
          exact this
        have hfi : wi.frozen? ⟨L, i, none⟩ = false := HR.out.frozen i
        have hdl := dg_lt hb k i
        obtain ⟨D, hD⟩ : ∃ D, D = dg b k i := ⟨_, rfl⟩
        rw [← hD] at hci hdl
        have HD := Lib.hid hD
        clear hD
        by_cases hq : D = b - 1
        · have q1 : ((D : Int) == (b : Int) - 1) = true := by simp; omega
          have HQ := Lib.hid hq
          clear hq
          gi_wp2
          gi_quiet (fail)
          gi_wp2
          have hB : Below L wi ((wi.drewN nq).setCell ⟨L, i, none⟩ (.int .i64 0)) := (below_drewN (Below.refl L wi) nq).setCell (p := ⟨L, i, none⟩) (Nat.le_refl _) _
          have hr5 := (HR.out.of_block (w' := wi.drewN nq) rfl).set i (.int .i64 0)
          go_roundw
          case rel => exact ⟨i + 1, by omega, by go_num, Lib.hid (nines_succ hb HN.out (by rw [← HD.out]; exact HQ.out)), Lib.hid (hr5.congr (fun j hj => by
            by_cases e : j = i
            · subst e; rw [if_pos rfl, if_pos (by omega)]; rfl
            · rw [if_neg e]
              by_cases e2 : j < i
              · rw [if_pos e2, if_pos (by omega)]
              · rw [if_neg e2, if_neg (by omega)])), Lib.hid (HJ.out _ _ _ HJ3.out hB), (hB.cell (p := ⟨Bn, 0, none⟩) lnW).trans hcn, (hB.cell (p := ⟨Bb, 0, none⟩) lbW).trans hcb⟩
          case measure => simp [intOf]; omega
        · have q1 : ((D : Int) == (b : Int) - 1) = false := by simp; omega
          have HQ := Lib.hid hq
          clear hq
          gi_wp2
          gi_quiet (fail)
          have qiK : ((i : Int) == (K : Int)) = false := by simp; omega
          gi_wp2
          have hB : Below L wi ((wi.drewN nq).setCell ⟨L, i, none⟩ (.int .i64 ((D : Int) + 1))) := (below_drewN (Below.refl L wi) nq).setCell (p := ⟨L, i, none⟩) (Nat.le_refl _) _
          have hr5 := (HR.out.of_block (w' := wi.drewN nq) rfl).set i (.int .i64 ((D : Int) + 1))
          have hkk := dg_more hb hlt HN.out (by rw [← HD.out]; exact HQ.out) hk
          go_roundg (b ^ K - (k + 1))
          case measure => omega
          case rel => exact ⟨k + 1, hkk, rfl, Lib.hid (HJ.out _ _ _ HJ3.out hB), Lib.hid (hr5.congr (fun j hj => by
            show (if j = i then (Value.int .i64 ((D : Int) + 1)) else .int .i64 ((if j < i then 0 else dg b k j : Nat) : Int)) = .int .i64 (dg b (k + 1) j : Nat)
            rw [dg_step hb HN.out (by rw [← HD.out]; exact HQ.out) j]
            by_cases e : j = i
            · subst e; rw [if_pos rfl, if_neg (Nat.lt_irrefl _), if_pos rfl, ← HD.out]; rfl
            · rw [if_neg e, if_neg e])), (hB.cell (p := ⟨Bn, 0, none⟩) lnW).trans hcn, (hB.cell (p := ⟨Bb, 0, none⟩) lbW).trans hcb⟩
      · obtain rfl : i = K := by omega
        gi_wp2
        gi_quiet (fail)
        gi_wp2
        have hlast := nines_last hb HN.out hk
        refine bodyPost_ret (results_none rfl _ _ _) rfl ?_
        exact ⟨⟨_, rfl⟩, by rw [← hlast]; exact HJ.out _ _ _ HJ3.out (below_drewN (Below.refl L wi) nq)⟩
end Go.Proofs.Ytmnleblbandghaa
