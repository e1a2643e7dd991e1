/- What tape.Step computes. Conditions: as the theorem states. -/
import Derived.Test.YtcbcbanknjhhhaaTapeCheck
import Derived.Test.YtcbcbanknjhhhaaTapeMap
namespace Go.Proofs.Ytcbcbanknjhhhaa
open Go.ChangeShapes Go.WideShapes Go.ChangeAt Go.RowKit
set_option linter.unusedVariables false
theorem grown_drew {a c : World} {row : Option Nat} (h : a.grownBy c row) : a.grownBy c.drew row := ⟨h.os, h.tape, h.output, h.size, h.block⟩
theorem grown_undrew {a c : World} {row : Option Nat} (h : a.drew.grownBy c row) : a.grownBy c row := ⟨h.os, h.tape, h.output, h.size, h.block⟩
set_option maxRecDepth 100000 in
set_option maxHeartbeats 1000000 in
theorem step_any (S Y : Int) (A : Option Addr) (n c b m st k : Nat) (R : Nat → SI) (f : Int → Int) (h : Int) (w : World) (hT : Tm w A n R) (hM : MapI w b m f) (hm : m < maxLen) (hst : st < n) (hn : n ≤ maxLen) (hk : f h = (k : Int)) (hkn : k < (R st).n)
    (h0 : -4611686018427387904 ≤ h) (h1 : h ≤ 4611686018427387904) (wx : (Lit.int .i64 ((R st).f (3 * k))).wf = true) (hy : -1 ≤ (R st).f (3 * k + 1) ∧ (R st).f (3 * k + 1) ≤ 1) :
    Calls Try.prog 17 #[.agg #[.int .i64 S, .int .i64 Y, .slice A n c], .map (some b), .int .i64 st, .int .i64 h] w fun e w' => e = .returned (.tuple #[.int .i64 ((R st).f (3 * k + 2)), .int .i64 (h + (R st).f (3 * k + 1))]) ∧ MapI w' b (m + 1) (fun y => if y = h then (R st).f (3 * k) else f y) ∧ w.grownBy w' (some b) := by
  have wh : (Lit.int .i64 h).wf = true := by simp [Lit.wf, IntKind.min, IntKind.max, IntKind.signed, IntKind.bits]; omega
  obtain ⟨tb, to, rfl, htb, hcell⟩ := hT.1.at_ hst
  obtain ⟨hrd, hrl⟩ := hT.2 st hst
  obtain ⟨rb, ro, hRA, hrb, r0, r1, r2⟩ := hrd.atR3 hkn
  obtain ⟨rn, hrn⟩ : ∃ x, x = (R st).n := ⟨_, rfl⟩
  obtain ⟨rc, hrc⟩ : ∃ x, x = (R st).c := ⟨_, rfl⟩
  have hcell2 : w.cell? ⟨tb, to + st, none⟩ = some (.slice (some ⟨rb, ro, none⟩) rn rc) := by rw [hcell, ← hRA, hrn, hrc]; rfl
  rw [← hrn] at hkn hrl
  obtain ⟨x, hx⟩ : ∃ x, x = (R st).f (3 * k) := ⟨_, rfl⟩
  obtain ⟨y, hyy⟩ : ∃ y, y = (R st).f (3 * k + 1) := ⟨_, rfl⟩
  obtain ⟨z, hz⟩ : ∃ z, z = (R st).f (3 * k + 2) := ⟨_, rfl⟩
  rw [← hx] at r0 wx ⊢
  rw [← hyy] at r1 hy ⊢
  rw [← hz] at r2 ⊢
  obtain ⟨y0, y1⟩ := hy
  have hbl := hM.lt
  have bx : w.heap.size < (w.alloc (.cells #[.int .i64 S, .int .i64 Y, .slice (some ⟨tb, to, none⟩) n c] 24)).heap.size := by simp
  have M1 := hM.alloc (.cells #[.int .i64 S, .int .i64 Y, .slice (some ⟨tb, to, none⟩) n c] 24)
  have L1 := M1.look wh
  have L2 := M1.drew.look wh
  have L3 := ((M1.alloc (.cells #[.int .i64 0, .int .i64 0, .int .i64 0] 55)).drew).look wh
  rw [hk] at L1 L2 L3
  unfold maxLen at hrl hn
  have WX := Lib.hid wx
  have WH := Lib.hid wh
  have M1' := Lib.hid M1
  clear hT hM hcell hRA hrn hrc hrd hx hyy hz hk wx wh M1
  go_enter Try.func17, Try.ntmps17
  go_wp2_with fail
  go_region
  all_goals
    try go_wp2_with fail
    refine (tput_any b m f h x _ (by first | exact (M1'.out.alloc _).drew | exact M1'.out.drew.alloc _) hm WH.out WX.out).mono ?_
    rintro e w3 ⟨rfl, hM3, hg3⟩
    have sz3 := hg3.size
    have q1 := World.cell?_of_block (a := ⟨w.heap.size + 1, 1, none⟩) (hg3.block (w.heap.size + 1) (by simp) (by simp; omega))
    have q2 := World.cell?_of_block (a := ⟨w.heap.size + 1, 2, none⟩) (hg3.block (w.heap.size + 1) (by simp) (by simp; omega))
    simp [go_sem] at q1 q2
    go_wp2_with fail
    try go_region
    all_goals
      try go_wp2_with fail
      try go_ret2
      exact ⟨rfl, by first | exact hM3 | exact hM3.drew, by first | exact grown_drew ((((World.grownBy_alloc _ _ _).trans (World.grownBy_alloc _ _ _))).trans (grown_undrew hg3)) | exact grown_drew (((World.grownBy_alloc _ _ _).trans (grown_drew (World.grownBy_alloc _ _ _))).trans hg3) | exact grown_drew ((grown_drew (World.grownBy_alloc _ _ _)).trans ((World.grownBy_alloc _ _ _).trans hg3))⟩
end Go.Proofs.Ytcbcbanknjhhhaa
