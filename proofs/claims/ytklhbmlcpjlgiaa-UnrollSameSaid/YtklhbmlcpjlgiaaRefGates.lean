/- What the reference's Gates computes. Conditions: the gates read as told and may be. -/
import Derived.Test.YtklhbmlcpjlgiaaGrowLaw
import Derived.Test.YtklhbmlcpjlgiaaRefBits
import Derived.Laws.MakeOwn
import Derived.Deep.OwnRows
namespace Go.Proofs.Ytklhbmlcpjlgiaa
open Go.ChangeShapes Go.WideShapes Go.ChangeAt Go.RowKit
set_option linter.unusedVariables false
theorem make_boolsG (K : Nat) (hK : K ≤ 10000) (W : World) : (Instr.makeSlice 25 (.int .i64 (K : Int)) (.int .i64 (K : Int))).run Try.prog W = .ok (.slice (some ⟨W.heap.size, 0, none⟩) K K) (W.alloc (.cells (madeCells #[.bool false] K) 4)) := by
  have hinfo : (Try.prog.info? 4).map (fun i => (i.zero, i.size, i.bytes)) = some (some (.bool false), 1, 1) := by kernel_rfl
  obtain ⟨i, hi, hzz⟩ := Option.map_eq_some_iff.1 hinfo
  simp only [Prod.mk.injEq] at hzz
  obtain ⟨hz, hs, hb⟩ := hzz
  have hr := run_make (P := Try.prog) W 25 4 i _ Try.underlying25 hi hz .i64 .i64 (K : Int) (K : Int) (by omega) (Int.le_refl _) (by rw [hb]; omega) (by omega)
  rw [hs] at hr
  simp only [Int.toNat_natCast, Nat.mul_one] at hr
  exact hr
def vrow (F : Nat → Int) (g : Nat → Bool) (k j : Nat) : Bool := if j < k then val F g j else false
theorem vrow_set {F : Nat → Int} {g : Nat → Bool} {k : Nat} {v : Bool} (h : v = val F g k) (j : Nat) : (if j = k then Value.bool v else .bool (vrow F g k j)) = .bool (vrow F g (k + 1) j) := by
  unfold vrow
  by_cases e : j = k
  · subst e; rw [if_pos rfl, if_pos (by omega), h]
  · rw [if_neg e]
    by_cases e2 : j < k
    · rw [if_pos e2, if_pos (by omega)]
    · rw [if_neg e2, if_neg (by omega)]
set_option maxRecDepth 100000 in
set_option maxHeartbeats 1000000 in
theorem refGates_any (inn : Int) (A : Option Addr) (n c K : Nat) (F : Nat → Int) (w : World) (h : Rd w A (n * 3) (fun q => .int .i64 (F q))) (hn : n ≤ 10000) (hK : K < 1000000) (hi : inn ≤ 5) (hg : GW inn F n) :
    Calls Try.prog 10 #[.slice A n c, .int .i64 K] w fun e w' => ∃ A' c', e = .returned (.slice A' n c') ∧ Rd w' A' n (fun i => .bool (val F (bitB K) i)) ∧ Below w.heap.size w w' := by
  have H := Lib.hid h
  have HG := Lib.hid hg
  have hmk := make_boolsG n hn
  clear h hg
  go_enter Try.func10, Try.ntmps10
  go_wp2_with fail
  clear hmk
  have hr0 := World.rowIs_made w (.bool false) n 4
  have hb0 := (Below.refl w.heap.size w).alloc (Nat.le_refl _) (.cells (madeCells #[.bool false] n) 4)
  obtain ⟨V, hV⟩ : ∃ V, V = w.heap.size := ⟨_, rfl⟩
  obtain ⟨W1, hW1⟩ : ∃ W1, W1 = w.alloc (.cells (madeCells #[.bool false] n) 4) := ⟨_, rfl⟩
  rw [← hW1] at hr0 hb0 ⊢
  rw [← hV] at hr0 ⊢
  have hVs : w.heap.size ≤ V := by omega
  clear hV hW1
  go_loopw [13] (fun s13 wr => ∃ k : Nat, k ≤ n ∧ s13 = .int .i64 k ∧ Hid (wr.rowIs V 4 n (fun j => .bool (vrow F (bitB K) k j))) ∧ Below w.heap.size w wr) (fun s13 _ => n - (intOf s13).toNat)
  case atStart => exact ⟨0, Nat.zero_le _, rfl, Lib.hid (hr0.congr (fun j hj => by unfold vrow; rw [if_neg (by omega)])), hb0⟩
  case round =>
    clear hr0 hb0
    obtain ⟨wo, rfl⟩ : ∃ wo : World, wo = wr := ⟨_, rfl⟩
    obtain ⟨k, hk, rfl, HR, hbel⟩ := hrel
    by_cases hlt : k < n
    · obtain ⟨b, off, rfl, hc0, hc1, hc2⟩ := (H.out.below hbel).at3 hlt
      have hz := gE_zero (HG.out k hlt)
      have hval := val_of HG.out hlt (bitB K)
      obtain ⟨kd, hkd⟩ : ∃ kd, kd = F (3 * k) := ⟨_, rfl⟩
      obtain ⟨ga, hga⟩ : ∃ ga, ga = F (3 * k + 1) := ⟨_, rfl⟩
      obtain ⟨gb, hgb⟩ : ∃ gb, gb = F (3 * k + 2) := ⟨_, rfl⟩
      rw [← hkd] at hc0 hz hval
      rw [← hga] at hc1 hz hval
      rw [← hgb] at hc2 hz hval
      clear hkd hga hgb
      have lV := HR.out.lt
      have ck : wo.cell? ⟨V, k, none⟩ = some (.bool (vrow F (bitB K) k k)) := HR.out.cell hlt
      have fk := HR.out.frozen k
      have hcj : ∀ j, j < k → wo.cell? ⟨V, j, none⟩ = some (.bool (val F (bitB K) j)) := fun j hj => by
        rw [HR.out.cell (by omega)]; unfold vrow; rw [if_pos hj]
      have HCJ := Lib.hid hcj
      have sz := hbel.size
      have hend : ∀ v : Bool, v = val F (bitB K) k → Hid ((((wo.setCell ⟨V, k, none⟩ (.bool v)).alloc (.cells #[.int .i64 kd, .int .i64 ga, .int .i64 gb] 59)).rowIs V 4 n (fun j => .bool (vrow F (bitB K) (k + 1) j)))) := fun v hv => Lib.hid (((HR.out.set k (.bool v)).alloc _).congr (fun j _ => vrow_set hv j))
      have hbend : ∀ v : Bool, Below w.heap.size w ((wo.setCell ⟨V, k, none⟩ (.bool v)).alloc (.cells #[.int .i64 kd, .int .i64 ga, .int .i64 gb] 59)) := fun v => (hbel.setCell (p := ⟨V, k, none⟩) hVs _).alloc (by simp; omega) _
      have HEND := Lib.hid hend
      have HBEND := Lib.hid hbend
      obtain ⟨h14, h41, z3, z4, z5⟩ := hz
      clear hcj hend hbend
      have hcase : kd = 1 ∨ kd = 2 ∨ kd = 3 ∨ kd = 4 := by omega
      rcases hcase with hkd | hkd | hkd | hkd
      · subst hkd
        obtain ⟨a0, a1⟩ := z3 rfl
        obtain ⟨a, rfl⟩ := Int.eq_ofNat_of_zero_le a0
        have hv := hval.1 rfl
        rw [Int.toNat_natCast] at hv
        have HV := Lib.hid hv
        clear hv hval z3 z4 z5
        go_wp2_with fail
        refine (bit_any K a _ (by omega) (by omega)).mono ?_
        rintro e w' ⟨rfl, rfl⟩
        go_wp2_with fail
        go_roundw
        case rel => exact ⟨k + 1, by omega, by go_num, HEND.out _ HV.out.symm, HBEND.out _⟩
        case measure => simp [intOf]; omega
      · subst hkd
        obtain ⟨a0, a1⟩ := z4 (by omega)
        obtain ⟨a, rfl⟩ := Int.eq_ofNat_of_zero_le a0
        have hv := hval.2.1 rfl
        rw [Int.toNat_natCast] at hv
        have ca := HCJ.out a (by omega)
        obtain ⟨x, hx⟩ : ∃ x, x = val F (bitB K) a := ⟨_, rfl⟩
        rw [← hx] at hv ca
        have HV := Lib.hid hv
        clear hv hval z3 z4 z5 hx
        go_wp2_with fail
        go_roundw
        case rel => exact ⟨k + 1, by omega, by go_num, HEND.out _ HV.out.symm, HBEND.out _⟩
        case measure => simp [intOf]; omega
      · subst hkd
        obtain ⟨a0, a1⟩ := z4 (by omega)
        obtain ⟨a, rfl⟩ := Int.eq_ofNat_of_zero_le a0
        obtain ⟨b0, b1⟩ := z5 (by omega)
        obtain ⟨b', rfl⟩ := Int.eq_ofNat_of_zero_le b0
        have hv := hval.2.2.1 rfl
        rw [Int.toNat_natCast, Int.toNat_natCast] at hv
        have ca := HCJ.out a (by omega)
        have cb := HCJ.out b' (by omega)
        obtain ⟨x, hx⟩ : ∃ x, x = val F (bitB K) a := ⟨_, rfl⟩
        obtain ⟨y, hy⟩ : ∃ y, y = val F (bitB K) b' := ⟨_, rfl⟩
        rw [← hx] at ca
        rw [← hy] at cb
        rw [← hx, ← hy] at hv
        clear hval z3 z4 z5 hx hy
        cases x
        all_goals
          have HV := Lib.hid hv
          clear hv
          go_wp2_with fail
          go_roundw
          case rel => exact ⟨k + 1, by omega, by go_num, HEND.out _ HV.out.symm, HBEND.out _⟩
          case measure => simp [intOf]; omega
      · subst hkd
        obtain ⟨a0, a1⟩ := z4 (by omega)
        obtain ⟨a, rfl⟩ := Int.eq_ofNat_of_zero_le a0
        obtain ⟨b0, b1⟩ := z5 (by omega)
        obtain ⟨b', rfl⟩ := Int.eq_ofNat_of_zero_le b0
        have hv := hval.2.2.2 rfl
        rw [Int.toNat_natCast, Int.toNat_natCast] at hv
        have ca := HCJ.out a (by omega)
        have cb := HCJ.out b' (by omega)
        obtain ⟨x, hx⟩ : ∃ x, x = val F (bitB K) a := ⟨_, rfl⟩
        obtain ⟨y, hy⟩ : ∃ y, y = val F (bitB K) b' := ⟨_, rfl⟩
        rw [← hx] at ca
        rw [← hy] at cb
        rw [← hx, ← hy] at hv
        clear hval z3 z4 z5 hx hy
        cases x
        all_goals
          have HV := Lib.hid hv
          clear hv
          go_wp2_with fail
          go_roundw
          case rel => exact ⟨k + 1, by omega, by go_num, HEND.out _ HV.out.symm, HBEND.out _⟩
          case measure => simp [intOf]; omega
    · obtain rfl : k = n := by omega
      go_wp2_with fail
      go_ret
      exact ⟨_, _, rfl, (Rd.of_row HR.out (Nat.le_refl _)).congr (fun i hi => by unfold vrow; rw [if_pos hi]), hbel⟩
end Go.Proofs.Ytklhbmlcpjlgiaa
