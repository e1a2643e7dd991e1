/- What cell.orphan computes. Conditions: the rule lies from 0 to 255. -/
import Derived.Test.YtnagdnbdpknniaaCellQue
namespace Go.Proofs.Ytnagdnbdpknniaa
open CellM Go.ChangeShapes Go.WideShapes Go.ChangeAt Go.RowKit
set_option linter.unusedVariables false
theorem nS_step {r : Int} {f : Nat → Bool} {n s : Nat} {bb : Bool} (h : SF r f n = s) : SF r (fun i => if i < n then f i else bb) (n + 1) = nS r s bb := by
  show nS r (SF r (fun i => if i < n then f i else bb) n) (if n < n then f n else bb) = _
  rw [if_neg (Nat.lt_irrefl n), SF_congr r n (fun i hi => by show (if i < n then f i else bb) = f i; rw [if_pos hi]), h]
def seen0 : Nat → Bool := fun i => decide (i = 15)
theorem cnt0 : cntS seen0 16 = 1 := by decide
set_option maxRecDepth 100000 in
set_option maxHeartbeats 4000000 in
theorem orphan_any (r : Int) (w : World) (r0 : 0 ≤ r) (r1 : r ≤ 255) : Calls Try.prog 16 #[.int .i64 r] w (OrpRet r w) := by
  go_enter Try.func16, Try.ntmps16
  go_wp2_with fail
  have hrow0 := row16 w 43 #[.bool false, .bool false, .bool false, .bool false, .bool false, .bool false, .bool false, .bool false, .bool false, .bool false, .bool false, .bool false, .bool false, .bool false, .bool false, .bool true] (fun i => .bool (seen0 i)) rfl (fun i hi => match i, hi with
    | 0, _ => rfl | 1, _ => rfl | 2, _ => rfl | 3, _ => rfl | 4, _ => rfl | 5, _ => rfl | 6, _ => rfl | 7, _ => rfl | 8, _ => rfl | 9, _ => rfl | 10, _ => rfl | 11, _ => rfl | 12, _ => rfl | 13, _ => rfl | 14, _ => rfl | 15, _ => rfl
    | n + 16, h => absurd h (by omega))
  have hq0 : (((w.alloc (.cells #[.bool false, .bool false, .bool false, .bool false, .bool false, .bool false, .bool false, .bool false, .bool false, .bool false, .bool false, .bool false, .bool false, .bool false, .bool false, .bool true] 43)).alloc (.cells #[.int .i64 15, .slice none 0 0] 45)).rowIs (w.heap.size + 1) 45 2 (fun i => if i = 0 then .int .i64 15 else .slice none 0 0)) := by
    have := World.rowIs_alloc (w.alloc (.cells #[.bool false, .bool false, .bool false, .bool false, .bool false, .bool false, .bool false, .bool false, .bool false, .bool false, .bool false, .bool false, .bool false, .bool false, .bool false, .bool true] 43)) #[.int .i64 15, .slice none 0 0] 45 (fun i => if i = 0 then .int .i64 15 else .slice none 0 0) (fun i hi => by
      have : i = 0 ∨ i = 1 := by have : i < 2 := hi; omega
      rcases this with rfl | rfl <;> rfl)
    simpa using this
  have hB0 := ((Below.refl w.heap.size w).alloc (Nat.le_refl _) (.cells #[.bool false, .bool false, .bool false, .bool false, .bool false, .bool false, .bool false, .bool false, .bool false, .bool false, .bool false, .bool false, .bool false, .bool false, .bool false, .bool true] 43)).alloc (by simp) (.cells #[.int .i64 15, .slice none 0 0] 45)
  have hO0 := Lib.hid ((⟨fun _ => ⟨w.heap.size + 1, 0, _, rfl, by omega, hq0, Nat.le_refl _, by decide, fun q hq => by
      have : q = 0 ∨ q = 1 := by omega
      rcases this with rfl | rfl <;> rfl⟩, hrow0.alloc _, Nat.le_refl _, fun i hi => ⟨Own.nil _ _ _ _ _, rfl, by decide, by decide, by rw [cnt0]; decide⟩, rfl, fun s hs h => .inl ⟨0, by omega, (of_decide_eq_true h).symm⟩⟩ : Orp r _ w.heap.size w.heap.size (some ⟨w.heap.size + 1, 0 * 2, none⟩) 1 1 (fun _ => ⟨15, none, 0, 0, fun _ => false⟩) seen0))
  have HB0 := Lib.hid hB0
  clear hrow0 hq0 hB0
  go_loopg [5] 31 (fun gk s5 wr => ∃ (A : Option Addr) (m c : Nat) (it : Nat → WI) (seen : Nat → Bool), m ≤ 64 ∧ s5 = .slice A m c ∧ gk = 2 * (16 - cntS seen 16) + m ∧ gk ≤ 31 ∧ Hid (Orp r wr w.heap.size w.heap.size A m c it seen) ∧ Hid (Below w.heap.size w wr))
  case atStart => exact ⟨_, 1, 1, _, seen0, by omega, rfl, by rw [cnt0], by omega, hO0, HB0⟩
  case round =>
    clear hO0 HB0
    obtain ⟨wo, rfl⟩ : ∃ wo : World, wo = wr := ⟨_, rfl⟩
    obtain ⟨A, m, c, it, seen, hm64, rfl, hgk, hgk31, HO, HB⟩ := hrel
    by_cases hm0 : 0 < m
    · obtain ⟨g, o, R, hAe, hg, hrow, hmc, hcm, hR⟩ := HO.out.qu hm0
      subst hAe
      have c0 := hrow.cell (i := o * 2) (by omega)
      have c1 := hrow.cell (i := o * 2 + 1) (by omega)
      rw [show o * 2 = o * 2 + 0 from rfl, hR 0 (by omega)] at c0
      rw [hR 1 (by omega)] at c1
      obtain ⟨x, hx⟩ : ∃ x, x = it 0 := ⟨_, rfl⟩
      have hI := HO.out.good 0 hm0
      rw [← hx] at hI
      obtain ⟨S, XA, Xn, Xc, Xf⟩ := x
      have c0' : wo.cell? ⟨g, o * 2, none⟩ = some (.int .i64 (S : Nat)) := c0.trans (by show some (Value.int .i64 (it 0).s) = _; rw [← hx])
      have c1' : wo.cell? ⟨g, o * 2 + 1, none⟩ = some (.slice XA Xn Xc) := c1.trans (by show some (Value.slice (it 0).A (it 0).n (it 0).c) = _; rw [← hx])
      have hglt := hrow.lt
      have HX := Lib.hid hx
      have hsl : S < 16 := hI.lt
      have hwo := HB.out.size
      obtain ⟨B6, hB6⟩ : ∃ B6, B6 = wo.heap.size := ⟨_, rfl⟩
      have HBX := Lib.hid (HB.out.alloc HB.out.size (.cells #[.int .i64 (S : Nat), .slice XA Xn Xc] 45))
      have HOX := Lib.hid (HO.out.below ((Below.refl wo.heap.size wo).alloc (Nat.le_refl _) (.cells #[.int .i64 (S : Nat), .slice XA Xn Xc] 45)))
      have HRW : Hid ((wo.alloc (.cells #[.int .i64 (S : Nat), .slice XA Xn Xc] 45)).heap[B6]? = some (.cells #[.int .i64 (S : Nat), .slice XA Xn Xc] 45 (0, 0))) := Lib.hid (by rw [hB6]; exact heap_alloc_new wo _)
      have hgB : g ≠ B6 := by omega
      have hwB : w.heap.size < B6 := by have := HO.out.row.lt; omega
      clear hI hx hrow hR c0 c1
      go_wp2_with fail
      rw [← hB6]
      clear c0' c1' hB6 hglt HO
      obtain ⟨G0, hG0⟩ : ∃ G0, G0 = 2 * (16 - cntS seen 16) + m := ⟨_, rfl⟩
      go_loopw [5, 20] (fun s5 s20 wr => ∃ (u : Nat) (A : Option Addr) (m c : Nat) (it : Nat → WI) (seen : Nat → Bool), u ≤ 2 ∧ s20 = .int .i64 (u : Nat) ∧ m ≤ 66 ∧ 0 < m ∧ s5 = .slice A m c ∧ 2 * (16 - cntS seen 16) + m ≤ G0 ∧ Hid (Orp r wr w.heap.size w.heap.size A m c it seen) ∧ Hid (⟨S, XA, Xn, Xc, Xf⟩ = it 0) ∧ Hid (wr.heap[B6]? = some (.cells #[.int .i64 (S : Nat), .slice XA Xn Xc] 45 (0, 0))) ∧ Hid (∀ g off, A = some ⟨g, off, none⟩ → g ≠ B6) ∧ Hid (Below w.heap.size w wr) ∧ Hid (∀ b, b2 b < u → nS r S b ≠ 0 ∧ seen (nS r S b) = true)) (fun _ s20 _ => 2 - (intOf s20).toNat)
      case atStart => exact ⟨0, _, m, c, it, seen, by omega, rfl, by omega, hm0, rfl, by omega, HOX, HX, HRW, Lib.hid (fun g' off e => by injection e with e; injection e with e1 _; omega), HBX, Lib.hid (fun b hb => absurd hb (Nat.not_lt_zero _))⟩
      case round =>
        clear HOX HX HRW HBX HB hgB hmc hcm hm0 hm64
        obtain ⟨wq, rfl⟩ : ∃ wq : World, wq = wr := ⟨_, rfl⟩
        obtain ⟨u, A', m', c', it', seen', hu, rfl, hm66, hm0, rfl, hG, HO, HX, HRW, HNE, HB, HU⟩ := hrel
        by_cases hlt : u < 2
        · obtain ⟨bb, hbb⟩ : ∃ bb, (u : Int) = bitI bb := by
            have : u = 0 ∨ u = 1 := by omega
            rcases this with rfl | rfl
            · exact ⟨false, rfl⟩
            · exact ⟨true, rfl⟩
          have hub : b2 bb = u := by cases bb <;> (have : (u : Int) = _ := hbb; simp [bitI] at this; simp [b2]; omega)
          have hI := HO.out.good 0 hm0
          rw [← HX.out] at hI
          have hB6l : B6 < wq.heap.size := (Array.getElem?_eq_some_iff.1 HRW.out).1
          have hC : R9 r S B6 XA Xn Xc Xf wq := ⟨r0, r1, by omega, hI.own.rd, by have h1 : Xn < cntS seen' 16 := hI.len; have := cntS_le seen' 16; omega, by rw [cell_of_row wq B6 0 _ _ (0, 0) HRW.out]; rfl, by rw [cell_of_row wq B6 1 _ _ (0, 0) HRW.out]; rfl, hB6l⟩
          have HI := Lib.hid hI
          have HC := Lib.hid hC
          have HUB := Lib.hid hub
          have hS9 : S9 S B6 XA Xn Xc wq.drew := hC.s9 ((Below.refl wq.heap.size wq).drew)
          have HS9 := Lib.hid hS9
          have hbw := Below.refl wq.heap.size wq
          have HBW := Lib.hid (hbw.drew)
          have hlt2 : (u : Int) < 2 := by omega
          have HBB := Lib.hid hbb
          clear hI hC hS9 hbw hub hbb
          go_wp2_with fail
          have hS9 := HS9.out
          rw [HBB.out]
          refine wp_region_held (S := S9 S B6 XA Xn Xc) (by kernel_rfl) ?_
          show wpAnyH _ _ _ _ _ 15 (Array.replicate 15 false) _ wq.drew
          refine wpAnyH_take (i := 0) (v := (.int .i64 r)) rfl (by kernel_rfl) (by kernel_rfl) (by kernel_rfl) (fun _ _ _ h => h) (.inl ⟨rfl, fun W' hW => ?_⟩) hS9 ?_
          · obtain ⟨s0, s1⟩ := hW
            go_simp
          refine wpAnyH_take (i := 1) (v := (.pointer (some ⟨B6, 0, none⟩))) rfl (by kernel_rfl) (by kernel_rfl) (by kernel_rfl) (fun _ _ _ h => h) (.inl ⟨rfl, fun W' hW => ?_⟩) hS9 ?_
          · obtain ⟨s0, s1⟩ := hW
            go_simp
          refine wpAnyH_take (i := 2) (v := (.int .i64 (S : Nat))) rfl (by kernel_rfl) (by kernel_rfl) (by kernel_rfl) (fun _ _ _ h => h) (.inl ⟨rfl, fun W' hW => ?_⟩) hS9 ?_
          · obtain ⟨s0, s1⟩ := hW
            go_simp
          refine wpAnyH_take (i := 3) (v := (.int .i64 (bitI bb))) rfl (by kernel_rfl) (by kernel_rfl) (by kernel_rfl) (fun _ _ _ h => h) (.inl ⟨rfl, fun W' hW => ?_⟩) hS9 ?_
          · obtain ⟨s0, s1⟩ := hW
            go_simp
          refine wpAnyH_take (i := 5) (v := (.pointer (some ⟨B6, 1, none⟩))) rfl (by kernel_rfl) (by kernel_rfl) (by kernel_rfl) (fun _ _ _ h => h) (.inl ⟨rfl, fun W' hW => ?_⟩) hS9 ?_
          · obtain ⟨s0, s1⟩ := hW
            go_simp
          refine wpAnyH_take (i := 6) (v := (.slice XA Xn Xc)) rfl (by kernel_rfl) (by kernel_rfl) (by kernel_rfl) (fun _ _ _ h => h) (.inl ⟨rfl, fun W' hW => ?_⟩) hS9 ?_
          · obtain ⟨s0, s1⟩ := hW
            go_simp
          refine wpAnyH_take (i := 8) (v := (.int .i64 (bitI bb))) rfl (by kernel_rfl) (by kernel_rfl) (by kernel_rfl) (fun _ _ _ h => h) (.inl ⟨rfl, fun W' hW => ?_⟩) hS9 ?_
          · obtain ⟨s0, s1⟩ := hW
            go_simp
          refine wpAnyH_take (i := 9) (v := (.bool (bitI bb == 1))) rfl (by kernel_rfl) (by kernel_rfl) (by kernel_rfl) (fun _ _ _ h => h) (.inl ⟨rfl, fun W' hW => ?_⟩) hS9 ?_
          · obtain ⟨s0, s1⟩ := hW
            go_simp
          refine r9_0 HC.out ?_ _ HBW.out
          intro w9 x8 A4 c4 v27 v30 v33 v34 v35 hx8 e0 e1 hcell ha hB9
          have hO9 := HO.out.below hB9
          have hsn := hO9.row.cell (nS_lt r S bb)
          have hgl := HO.out.row.lt
          have hfz : w9.frozen? ⟨w.heap.size, nS r S bb, none⟩ = false := hO9.row.frozen _
          have hx8l : x8 < w9.heap.size := (Array.getElem?_eq_some_iff.1 hcell).1
          have hxne : x8 ≠ w.heap.size := by omega
          have h9s := hB9.size
          obtain ⟨z, hz⟩ : ∃ z, z = nS r S bb := ⟨_, rfl⟩
          rw [← hz] at e0 hsn hfz
          have hzl : z < 16 := by rw [hz]; exact nS_lt r S bb
          obtain ⟨sz, hsz⟩ : ∃ sz, sz = seen' z := ⟨_, rfl⟩
          rw [← hsz] at hsn
          have HO9 := Lib.hid hO9
          have HA := Lib.hid ha
          have HB9 := Lib.hid hB9
          have HZ := Lib.hid hz
          have HSZ := Lib.hid hsz
          clear hO9 ha hB9 hz hcell hsz
          try dsimp only
          by_cases hz0 : z = 0
          · clear hsn
            go_wp2_with fail
            have hIl : Xn < cntS seen' 16 := HI.out.len
            have hc16 := cntS_le seen' 16
            refine bodyPost_ret (v := .tuple #[.slice A4 (Xn + 1) c4, .bool true]) (by simp [results, Try.results16, go_sem]) rfl ⟨HB.out.trans (HB9.out.mono HB.out.size), .inl ⟨A4, Xn + 1, c4, _, rfl, HA.out.base_le HB.out.size, (nS_step HI.out.set).trans (HZ.out.symm.trans hz0), by omega, by omega⟩⟩
          · cases sz
            · have f0 : (w9.setCell ⟨w.heap.size, z, none⟩ (.bool true)).cell? ⟨x8, 0, none⟩ = some (.int .i64 (z : Nat)) := (World.cell?_of_block (w := w9) (Below.heap_setCell w9 ⟨w.heap.size, z, none⟩ (.bool true) x8 hxne)).trans e0
              have f1 : (w9.setCell ⟨w.heap.size, z, none⟩ (.bool true)).cell? ⟨x8, 1, none⟩ = some (.slice A4 (Xn + 1) c4) := (World.cell?_of_block (w := w9) (Below.heap_setCell w9 ⟨w.heap.size, z, none⟩ (.bool true) x8 hxne)).trans e1
              have hT : Own ((w9.setCell ⟨w.heap.size, z, none⟩ (.bool true)).alloc (.cells #[.int .i64 (z : Nat), .slice A4 (Xn + 1) c4] 45)) 0 45 2 (some ⟨(w9.setCell ⟨w.heap.size, z, none⟩ (.bool true)).heap.size, 0, none⟩) 1 1 2 (fun i => if i = 0 then .int .i64 (z : Nat) else .slice A4 (Xn + 1) c4) := Own.made (n := 1) (s := 2) _ 0 _ _ _ (Nat.zero_le _) rfl (by unfold maxLen; omega) (fun i hi => by
                have : i = 0 ∨ i = 1 := by omega
                rcases this with rfl | rfl <;> rfl)
              have hQ9 := (HO9.out.qu hm0)
              have hQT : Qu ((w9.setCell ⟨w.heap.size, z, none⟩ (.bool true)).alloc (.cells #[.int .i64 (z : Nat), .slice A4 (Xn + 1) c4] 45)) w.heap.size A' m' c' (WI.V it') := (Qu.otherRow hQ9 HO9.out.row (by decide) z).alloc _
              have HT := Lib.hid hT.rd
              have HQT := Lib.hid hQT
              clear hT hQ9 hQT
              go_wp2_with (at_builtin; refine wpList_qu _ rfl (.tmp 49) (.tmp 51) rfl rfl HQT.out rfl (by first | exact HT.out | simpa using HT.out) (two_cells rfl rfl) (by omega) (by simp; omega) ?_; intro A2 c2 w2 g2 hgA hgR hq2 hg2 hA2)
              obtain ⟨offA, hgA⟩ := hgA
              obtain ⟨L2, R2, hrow2⟩ := hgR
              have hg2l : w.heap.size ≤ g2 := by
                obtain ⟨gq, oq, Rq, eq, hgq, _⟩ := HO9.out.qu hm0
                rw [hgA] at eq
                injection eq with eq; injection eq with eq _; omega
              have hnew : seen' z = false := HSZ.out.symm
              have hIl : Xn < cntS seen' 16 := HI.out.len
              have hP := HO9.out.push (x := ⟨z, A4, Xn + 1, c4, fun i => if i < Xn then Xf i else bb⟩) hm0 (HA.out.base_le HB.out.size) ((nS_step HI.out.set).trans HZ.out.symm) hz0 hzl (by show Xn + 1 < _; omega) hnew rfl rfl hrow2 hq2 hg2
              have hcnt : cntS (sawS seen' z) 16 = cntS seen' 16 + 1 := by rw [cntS_saw hnew, if_pos hzl]
              have hc16 := cntS_le (sawS seen' z) 16
              have hbel : Below w.heap.size w w2 := (((HB.out.trans (HB9.out.mono HB.out.size)).setCell (p := ⟨w.heap.size, z, none⟩) (Nat.le_refl _) (.bool true)).alloc (by simp; omega) _).grown hg2 (by simp; omega) (fun k e => by injection e with e; omega)
              have hB6n : B6 ≠ g2 := (HNE.out g2 offA hgA).symm
              have hrw2 : w2.heap[B6]? = some (.cells #[.int .i64 (S : Nat), .slice XA Xn Xc] 45 (0, 0)) := (hg2.block B6 (by simp; omega) (fun e => hB6n (Option.some.inj e))).trans ((Below.heap_alloc _ _ B6 (by simp; omega)).trans ((Below.heap_setCell w9 ⟨w.heap.size, z, none⟩ (.bool true) B6 (by show B6 ≠ w.heap.size; omega)).trans ((HB9.out.block B6 hB6l).trans HRW.out)))
              have hne2 : ∀ g off, A2 = some ⟨g, off, none⟩ → g ≠ B6 := fun g off e => by
                rcases hA2 g off e with h | h
                · subst h; exact fun e => hB6n e.symm
                · have : w9.heap.size ≤ g := by simp at h; omega
                  omega
              have hu2 : ∀ b, b2 b < u + 1 → nS r S b ≠ 0 ∧ sawS seen' z (nS r S b) = true := fun b hb => by
                by_cases eb : b = bb
                · subst eb; rw [← HZ.out]; exact ⟨hz0, if_pos rfl⟩
                · have h1 := HU.out b (by
                    have := HUB.out
                    cases b <;> cases bb <;> simp [b2] at * <;> omega)
                  refine ⟨h1.1, ?_⟩
                  show (if _ = z then true else _) = true
                  split
                  · rfl
                  · exact h1.2
              have HP2 := Lib.hid hP
              have HX2 : Hid (⟨S, XA, Xn, Xc, Xf⟩ = pushI it' m' ⟨z, A4, Xn + 1, c4, fun i => if i < Xn then Xf i else bb⟩ 0) := Lib.hid (by unfold pushI; rw [if_pos hm0]; exact HX.out)
              go_wp2_with fail
              have hw : wrap64 (bitI bb + 1) = ((u + 1 : Nat) : Int) := by rw [← HUB.out]; exact wrapB bb
              go_roundw
              case rel => exact ⟨u + 1, A2, m' + 1, c2, _, sawS seen' z, by omega, by rw [hw], by omega, by omega, rfl, by omega, HP2, HX2, Lib.hid hrw2, Lib.hid hne2, Lib.hid hbel, Lib.hid hu2⟩
              case measure => rw [hw]; simp [intOf]; omega
            · go_wp2_with fail
              have hw : wrap64 (bitI bb + 1) = ((u + 1 : Nat) : Int) := by rw [← HUB.out]; exact wrapB bb
              go_roundw
              case rel => exact ⟨u + 1, A', m', c', it', seen', by omega, by rw [hw], hm66, hm0, rfl, hG, HO9, HX, Lib.hid ((HB9.out.block B6 (by omega)).trans HRW.out), HNE, Lib.hid (HB.out.trans (HB9.out.mono HB.out.size)), Lib.hid (fun b hb => by
                by_cases eb : b = bb
                · subst eb; rw [← HZ.out]; exact ⟨hz0, HSZ.out.symm⟩
                · refine HU.out b ?_
                  have := HUB.out
                  cases b <;> cases bb <;> simp [b2] at * <;> omega)⟩
              case measure => rw [hw]; simp [intOf]; omega
        · obtain rfl : u = 2 := by omega
          have hc2 : ∀ b : Bool, nS r S b ≠ 0 ∧ seen' (nS r S b) = true := fun b => HU.out b (by cases b <;> decide)
          have hpop : ∀ A2 : Option Addr, (1 < m' → ∀ g o, A' = some ⟨g, o * 2, none⟩ → A2 = some ⟨g, (o + 1) * 2, none⟩) → Orp r wq w.heap.size w.heap.size A2 (m' - 1) (c' - 1) (fun i => it' (i + 1)) seen' := fun A2 hA => HO.out.pop hm0 (fun b => by rw [← HX.out]; exact hc2 b) hA
          have HP := Lib.hid hpop
          have HMC : Hid (m' ≤ c') := Lib.hid (by obtain ⟨_, _, _, _, _, _, h, _⟩ := HO.out.qu hm0; exact h)
          clear hc2 hpop
          go_wp2_with fail
          · go_roundg (2 * (16 - cntS seen' 16) + (m' - 1))
            case measure => omega
            case rel => exact ⟨_, m' - 1, _, fun i => it' (i + 1), seen', by omega, rfl, rfl, by omega, Lib.hid (by
              have h2 := HP.out A' (fun h1 g o e => by have := HMC.out; omega)
              rw [show c' - 1 = 0 by omega] at h2
              exact h2), HB⟩
          · go_roundg (2 * (16 - cntS seen' 16) + (m' - 1))
            case measure => omega
            case rel => exact ⟨_, m' - 1, _, fun i => it' (i + 1), seen', by omega, rfl, rfl, by omega, Lib.hid (HP.out _ (fun h1 g o e => by subst e; first | rfl | (show some _ = some _; rw [show (o + 1) * 2 = o * 2 + 2 by omega]) | (have := HMC.out; omega))), HB⟩
    · obtain rfl : m = 0 := by omega
      go_wp2_with fail
      refine bodyPost_ret (v := .tuple #[.slice none 0 0, .bool false]) (by simp [results, Try.results16, go_sem]) rfl ⟨HB.out, .inr ⟨rfl, seen, HO.out.s15, fun s hs h => ?_⟩⟩
      rcases HO.out.cl s hs h with ⟨i, hi, _⟩ | h1
      · omega
      · exact h1
end Go.Proofs.Ytnagdnbdpknniaa
