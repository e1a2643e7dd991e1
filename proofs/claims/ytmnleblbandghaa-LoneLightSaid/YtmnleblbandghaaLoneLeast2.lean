/- What lone.Least computes. Conditions: the sets are words. -/
import Derived.Test.YtmnleblbandghaaLoneLeast
namespace Go.Proofs.Ytmnleblbandghaa
open Go.ChangeShapes Go.WideShapes Go.ChangeAt Go.RowKit Go.Maps
set_option linter.unusedVariables false
def outW (x : Int) : Bool := decide (x < 1) || decide (1000 < x)
theorem loneO_any (x : Int) (w : World) : Calls Try.prog 23 #[.int .i64 x] w fun e w' => e = .returned (.bool (outW x)) ∧ w = w' := by
  by_cases h1 : x < 1
  · go_enter Try.func23, Try.ntmps23
    go_wp2_with fail
    go_ret
    exact ⟨ret_bool (by simp [outW, h1]), rfl⟩
  · by_cases h2 : 1000 < x
    · go_enter Try.func23, Try.ntmps23
      go_wp2_with fail
      go_ret
      exact ⟨ret_bool (by simp [outW, h2]), rfl⟩
    · go_enter Try.func23, Try.ntmps23
      go_wp2_with fail
      go_ret
      exact ⟨ret_bool (by simp [outW, h1, h2]), rfl⟩
def LIn (n : Int) (m nw : Nat) (S W : Nat → Int) : Prop := LOk n m S ∧ (nw : Int) = n ∧ ∀ t, t < nw → 1 ≤ W t ∧ W t ≤ 1000
theorem outW_false {x : Int} : outW x = false ↔ 1 ≤ x ∧ x ≤ 1000 := by
  unfold outW; simp
set_option maxRecDepth 100000 in
theorem leastL_any (n : Int) (A WA : Option Addr) (m c nw cw : Nat) (S W : Nat → Int) (w : World) (wn : (Lit.int .i64 n).wf = true) (h : Rd w A m (fun i => .int .u32 (S i))) (hm : m ≤ maxLen) (hS : ∀ i, i < m → (Lit.int .u32 (S i)).wf = true)
    (hw : Rd w WA nw (fun i => .int .i64 (W i))) (hn : nw ≤ maxLen) :
    Calls Try.prog 10 #[.int .i64 n, .slice A m c, .slice WA nw cw] w fun e w' => ∃ (B : Int) (A' : Option Addr) (cn cc : Nat) (G : Nat → Int) (x : Int), e = .returned (.tuple #[.int .i64 B, .slice A' cn cc, .int .i64 x]) ∧ Below w.heap.size w w' ∧
      ((x = 0 ∧ LIn n m nw S W ∧ Rd w' A' cn (fun i => .int .u32 (G i)) ∧ 1 ≤ cn ∧ cn ≤ 200 ∧ 0 ≤ B ∧ B ≤ 5000 ∧ Lst (fun i => swt (S i) W nw) S m B cn G) ∨ (x ≠ 0 ∧ B = 0 ∧ cn = 0 ∧ cc = 0 ∧ A' = none ∧ ¬ LIn n m nw S W)) := by
  have H := Lib.hid h
  have HS := Lib.hid hS
  have HM := Lib.hid hm
  have HW := Lib.hid hw
  have HN := Lib.hid hn
  have hnl := hn
  unfold maxLen at hnl
  clear h hS hm hw hn
  go_enter Try.func10, Try.ntmps10
  go_wp2_with fail
  refine (loneW_any n A m c S w wn H.out HM.out HS.out).mono ?_
  rintro e w1 ⟨⟨x, rfl, hx⟩, hb1⟩
  have HX := Lib.hid hx
  have HB1 := Lib.hid hb1
  clear hx hb1
  by_cases hx0 : x = 0
  · subst hx0
    have hok := HX.out.1 rfl
    have hn5 := hok.1
    have hm200 := hok.2.1
    have HOK := Lib.hid hok
    clear hok
    by_cases hnn : (nw : Int) = n
    · subst hnn
      have hcp := containsP_any 23 #[] WA nw cw W (fun i => outW (W i)) w1 (HW.out.below HB1.out) HN.out (fun _ _ => rfl) (fun i hi => loneO_any (W i) w1)
      have HCP := Lib.hid hcp
      clear hcp
      go_wp2_with fail
      refine HCP.out.mono ?_
      rintro e w' ⟨rfl, rfl⟩
      obtain ⟨bd, hbd⟩ : ∃ bd, bd = anyB (fun i => outW (W i)) nw := ⟨_, rfl⟩
      rw [← hbd]
      have HBD := Lib.hid hbd
      clear hbd
      cases bd
      · have hWW : ∀ t, t < nw → 1 ≤ W t ∧ W t ≤ 1000 := fun t ht => outW_false.1 (anyB_false.1 HBD.out.symm t ht)
        have HWW := Lib.hid hWW
        clear hWW
        go_wp2_with fail
        refine (least_any A WA m c nw cw S W w1 (H.out.below HB1.out) (by omega) HS.out (HW.out.below HB1.out) (by omega) HWW.out).mono ?_
        rintro e w2 ⟨B, A', cn, cc, G, rfl, hrd, hcn, hpos, hl, hb2⟩
        have HRD := Lib.hid hrd
        have HL := Lib.hid hl
        have HB2 := Lib.hid hb2
        have hp := hpos (by omega)
        clear hrd hl hb2 hpos
        go_wp2_with fail
        refine bodyPost_ret (v := .tuple #[.int .i64 B, .slice A' cn cc, .int .i64 0]) (by simp [results, Try.results10, go_sem]) rfl ?_
        exact ⟨B, A', cn, cc, G, 0, rfl, HB1.out.trans (HB2.out.mono HB1.out.size), .inl ⟨rfl, ⟨HOK.out, rfl, HWW.out⟩, HRD.out, hp.1, by omega, hp.2.1, hp.2.2, HL.out⟩⟩
      · go_wp2_with fail
        refine bodyPost_ret (v := .tuple #[.int .i64 0, .slice none 0 0, .int .i64 2]) (by simp [results, Try.results10, go_sem]) rfl ?_
        refine ⟨0, none, 0, 0, fun _ => 0, 2, rfl, HB1.out, .inr ⟨by omega, rfl, rfl, rfl, rfl, fun h => ?_⟩⟩
        have := anyB_no (p := fun i => outW (W i)) (m := nw) (fun t ht => outW_false.2 (h.2.2 t ht))
        rw [this] at HBD
        cases HBD.out
    · have HNN := Lib.hid hnn
      have hne : ((nw : Int) != n) = true := by simp [hnn]
      clear hnn
      go_wp2_with fail
      refine bodyPost_ret (v := .tuple #[.int .i64 0, .slice none 0 0, .int .i64 2]) (by simp [results, Try.results10, go_sem]) rfl ?_
      exact ⟨0, none, 0, 0, fun _ => 0, 2, rfl, HB1.out, .inr ⟨by omega, rfl, rfl, rfl, rfl, fun h => HNN.out h.2.1⟩⟩
  · have hne : (x != 0) = true := by simp [hx0]
    have HX0 := Lib.hid hx0
    clear hx0
    go_wp2_with fail
    refine bodyPost_ret (v := .tuple #[.int .i64 0, .slice none 0 0, .int .i64 x]) (by simp [results, Try.results10, go_sem]) rfl ?_
    exact ⟨0, none, 0, 0, fun _ => 0, x, rfl, HB1.out, .inr ⟨HX0.out, rfl, rfl, rfl, rfl, fun h => HX0.out (HX.out.2 h.1)⟩⟩
end Go.Proofs.Ytmnleblbandghaa
