/- funcs.Check and funcs.ask at the functions that FuncsSum makes. Condition: they lie in the world. -/
import Derived.Test.YtjnoolfdlgocjaaFsFns
import Derived.Test.YtjnoolfdlgocjaaClone
import Derived.IntWalk
import Derived.BigQuiet
namespace Go.Proofs.Ytjnoolfdlgocjaa
open Go.ChangeShapes Go.WideShapes Go.ChangeAt Go.RowKit
set_option linter.unusedVariables false
set_option linter.unusedSimpArgs false
set_option maxRecDepth 100000 in
set_option maxHeartbeats 1000000 in
theorem fcheck_any (b ib : Nat) (W : World) (h : FL W b ib) :
    Calls Try.prog 12 #[.slice (some ⟨b, 0, none⟩) 5 5] W fun e w' => e = .returned (.int .i64 0) ∧ Below W.heap.size W w' := by
  have HF := Lib.hid h
  clear h
  go_enter Try.func12, Try.ntmps12
  go_wp2_with fail
  go_loopw [15] (fun s15 wr => ∃ (k : Nat) (kz : Int), k ≤ 5 ∧ kz = (k : Int) ∧ s15 = .int .i64 kz ∧ Hid (Below W.heap.size W wr)) (fun s15 _ => 5 - (intOf s15).toNat)
  case atStart => exact ⟨0, 0, by omega, rfl, rfl, Lib.hid (Below.refl _ _)⟩
  case round =>
    obtain ⟨wo, rfl⟩ : ∃ wo : World, wo = wr := ⟨_, rfl⟩
    obtain ⟨k, kz, hk, hkz, rfl, HB⟩ := hrel
    have h5 : k = 0 ∨ k = 1 ∨ k = 2 ∨ k = 3 ∨ k = 4 ∨ k = 5 := by omega
    rcases h5 with rfl | rfl | rfl | rfl | rfl | rfl
    · obtain rfl : kz = 0 := by omega
      clear hkz
      go_wp2_with fail
      refine (wrong0_any b ib wo (HF.out.below HB.out)).mono ?_
      rintro e w2 ⟨rfl, hb2⟩
      have HB2 := Lib.hid (HB.out.trans (hb2.mono HB.out.size))
      clear hb2
      go_wp2_with fail
      go_roundw
      case rel => exact ⟨1, 1, by omega, rfl, rfl, HB2⟩
      case measure => simp [intOf]
    · obtain rfl : kz = 1 := by omega
      clear hkz
      go_wp2_with fail
      refine (wrong1_any b ib wo (HF.out.below HB.out)).mono ?_
      rintro e w2 ⟨rfl, hb2⟩
      have HB2 := Lib.hid (HB.out.trans (hb2.mono HB.out.size))
      clear hb2
      go_wp2_with fail
      go_roundw
      case rel => exact ⟨2, 2, by omega, rfl, rfl, HB2⟩
      case measure => simp [intOf]
    · obtain rfl : kz = 2 := by omega
      clear hkz
      go_wp2_with fail
      refine (wrong2_any b ib wo (HF.out.below HB.out)).mono ?_
      rintro e w2 ⟨rfl, hb2⟩
      have HB2 := Lib.hid (HB.out.trans (hb2.mono HB.out.size))
      clear hb2
      go_wp2_with fail
      go_roundw
      case rel => exact ⟨3, 3, by omega, rfl, rfl, HB2⟩
      case measure => simp [intOf]
    · obtain rfl : kz = 3 := by omega
      clear hkz
      go_wp2_with fail
      refine (wrong3_any b ib wo (HF.out.below HB.out)).mono ?_
      rintro e w2 ⟨rfl, hb2⟩
      have HB2 := Lib.hid (HB.out.trans (hb2.mono HB.out.size))
      clear hb2
      go_wp2_with fail
      go_roundw
      case rel => exact ⟨4, 4, by omega, rfl, rfl, HB2⟩
      case measure => simp [intOf]
    · obtain rfl : kz = 4 := by omega
      clear hkz
      go_wp2_with fail
      refine (wrong4_any b ib wo (HF.out.below HB.out)).mono ?_
      rintro e w2 ⟨rfl, hb2⟩
      have HB2 := Lib.hid (HB.out.trans (hb2.mono HB.out.size))
      clear hb2
      go_wp2_with fail
      go_roundw
      case rel => exact ⟨5, 5, by omega, rfl, rfl, HB2⟩
      case measure => simp [intOf]
    · obtain rfl : kz = 5 := by omega
      clear hkz
      go_wp2_with fail
      go_ret
      exact ⟨rfl, HB.out⟩
def b2f (v0 v1 : Value) (q : Nat) : Value := if q = 0 then v0 else v1
/-- the asker lies in block a; what was there before it is as it was -/
structure AkS (w W : World) (a b ib : Nat) (k : Int) : Prop where
  row : W.rowIs a 42 2 (b2f (.slice (some ⟨b, 0, none⟩) 5 5) (.int .i64 k))
  ale : w.heap.size ≤ a
  bel : Below w.heap.size w W
  fl : FL w b ib
theorem AkS.more {w W : World} {a b ib : Nat} {k : Int} (h : AkS w W a b ib k) (k' : Int) : AkS w (W.setCell ⟨a, 1, none⟩ (.int .i64 k')) a b ib k' :=
  ⟨(h.row.set 1 _).congr fun i hi => by
    match i, hi with
    | 0, _ => rfl
    | 1, _ => rfl, h.ale, h.bel.setCell h.ale _, h.fl⟩
theorem AkS.below {w W W' : World} {a b ib : Nat} {k : Int} (h : AkS w W a b ib k) (hb : Below W.heap.size W W') : AkS w W' a b ib k :=
  ⟨h.row.of_block (hb.block _ h.row.lt), h.ale, h.bel.trans (hb.mono h.bel.size), h.fl⟩
/-- nothing but block a has turned -/
def Kp (a : Nat) (W W' : World) : Prop := W.heap.size ≤ W'.heap.size ∧ ∀ g, g < W.heap.size → g ≠ a → W'.heap[g]? = W.heap[g]?
theorem Kp.refl (a : Nat) (W : World) : Kp a W W := ⟨Nat.le_refl _, fun _ _ _ => rfl⟩
theorem Kp.trans {a : Nat} {W W1 W2 : World} (h : Kp a W W1) (k : Kp a W1 W2) : Kp a W W2 := ⟨Nat.le_trans h.1 k.1, fun g hg hn => (k.2 g (Nat.lt_of_lt_of_le hg h.1) hn).trans (h.2 g hg hn)⟩
theorem Kp.below {a : Nat} {W W' : World} (h : Below W.heap.size W W') : Kp a W W' := ⟨h.size, fun g hg _ => h.block g hg⟩
theorem Kp.set (a : Nat) (W : World) (v : Value) : Kp a W (W.setCell ⟨a, 1, none⟩ v) := ⟨by simp [World.setCell], fun g _ hn => Below.heap_setCell _ _ _ _ hn⟩
def Off (A : Option Addr) (a : Nat) : Prop := ∀ g o, A = some ⟨g, o, none⟩ → g ≠ a
theorem Rd.kp {a : Nat} {W W' : World} {A : Option Addr} {n : Nat} {C : Nat → Value} (h : Rd W A n C) (hk : Kp a W W') (ho : Off A a) : Rd W' A n C := fun hn => by
  obtain ⟨b, off, e, hb, hc⟩ := h hn
  refine ⟨b, off, e, Nat.lt_of_lt_of_le hb hk.1, fun i hi => ?_⟩
  rw [← hc i hi]
  exact World.cell?_of_block (hk.2 b hb (ho b off e))
set_option maxRecDepth 100000 in
set_option maxHeartbeats 2000000 in
theorem ask0_any (w W : World) (a b ib : Nat) (k : Int) (A : Option Addr) (c : Nat) (V : Nat → Int) (h : AkS w W a b ib k) (hk : 200 ≤ k ∧ k ≤ 100000) (hA : Rd W A 1 (fun q => .int .i64 (V q))) (ho : Off A a)  :
    Calls Try.prog 15 #[.pointer (some ⟨a, 0, none⟩), .int .i64 0, .slice A 1 c] W fun e w' => e = .returned (.int .i64 (V 0)) ∧ AkS w w' a b ib (k - 1) ∧ Kp a W w' := by
  have H := Lib.hid h
  have HO := Lib.hid ho
  have k0 : W.cell? ⟨a, 0, none⟩ = some (.slice (some ⟨b, 0, none⟩) 5 5) := h.row.cell (i := 0) (by omega)
  have k1 : W.cell? ⟨a, 1, none⟩ = some (.int .i64 k) := h.row.cell (i := 1) (by omega)
  have z1 := h.row.frozen 1
  have HM := Lib.hid (h.more (k - 1))
  have hs1 : (W.setCell ⟨a, 1, none⟩ (.int .i64 (k - 1))).heap.size = W.heap.size := by simp [World.setCell]
  have k0' : (W.setCell ⟨a, 1, none⟩ (.int .i64 (k - 1))).cell? ⟨a, 0, none⟩ = some (.slice (some ⟨b, 0, none⟩) 5 5) := HM.out.row.cell (i := 0) (by omega)
  have HFL := Lib.hid (h.fl.below HM.out.bel)
  have lb : b < W.heap.size := by have := HFL.out.row.lt; omega
  have lib : ib < W.heap.size := by have := HFL.out.into.lt; omega
  have la : a < W.heap.size := h.row.lt
  have wk : IntKind.i64.wrap (k - 1) = k - 1 := IntWalk.i64_in _ (by omega)
  have c0 : (W.setCell ⟨a, 1, none⟩ (.int .i64 (k - 1))).cell? ⟨b, 0, none⟩ = some (.int .i64 3) := HFL.out.at_ 0 (by omega)
  have c1 : (W.setCell ⟨a, 1, none⟩ (.int .i64 (k - 1))).cell? ⟨b, 1, none⟩ = some (.int .i64 1) := HFL.out.at_ 1 (by omega)
  have c2 : (W.setCell ⟨a, 1, none⟩ (.int .i64 (k - 1))).cell? ⟨b, 2, none⟩ = some (.int .i64 0) := HFL.out.at_ 2 (by omega)
  have c3 : (W.setCell ⟨a, 1, none⟩ (.int .i64 (k - 1))).cell? ⟨b, 3, none⟩ = some (.int .i64 0) := HFL.out.at_ 3 (by omega)
  have c4 : (W.setCell ⟨a, 1, none⟩ (.int .i64 (k - 1))).cell? ⟨b, 4, none⟩ = some (.int .i64 0) := HFL.out.at_ 4 (by omega)
  have c5 : (W.setCell ⟨a, 1, none⟩ (.int .i64 (k - 1))).cell? ⟨b, 5, none⟩ = some (.slice none 0 0) := HFL.out.at_ 5 (by omega)
  have HR1 := Lib.hid (hA.kp (Kp.set a W (.int .i64 (k - 1))) ho)
  obtain ⟨g, o, rfl, lg, hcv⟩ := HR1.out.at_ (show 0 < 1 by omega)
  obtain ⟨v, hv'⟩ : ∃ v, v = V 0 := ⟨_, rfl⟩
  rw [← hv'] at hcv
  have HVV := Lib.hid hv'
  rw [hs1] at lg
  clear h ho hA hv'
  rw [Nat.add_zero] at hcv
  have HZ := Lib.hid hs1
  clear hs1
  go_enter Try.func15, Try.ntmps15
  go_wp2_with fail
  go_ret
  exact ⟨by rw [show V 0 = v from HVV.out.symm]; rfl, HM.out.below ((Below.refl _ _).alloc (Nat.le_refl _) _), (Kp.set a W _).trans (Kp.below ((Below.refl _ _).alloc (Nat.le_refl _) _))⟩
set_option maxRecDepth 100000 in
set_option maxHeartbeats 2000000 in
theorem ask2_any (w W : World) (a b ib : Nat) (k : Int) (A : Option Addr) (c : Nat) (V : Nat → Int) (h : AkS w W a b ib k) (hk : 200 ≤ k ∧ k ≤ 100000) (hA : Rd W A 3 (fun q => .int .i64 (V q))) (ho : Off A a)  :
    Calls Try.prog 15 #[.pointer (some ⟨a, 0, none⟩), .int .i64 2, .slice A 3 c] W fun e w' => e = .returned (.int .i64 (V 2)) ∧ AkS w w' a b ib (k - 1) ∧ Kp a W w' := by
  have H := Lib.hid h
  have HO := Lib.hid ho
  have k0 : W.cell? ⟨a, 0, none⟩ = some (.slice (some ⟨b, 0, none⟩) 5 5) := h.row.cell (i := 0) (by omega)
  have k1 : W.cell? ⟨a, 1, none⟩ = some (.int .i64 k) := h.row.cell (i := 1) (by omega)
  have z1 := h.row.frozen 1
  have HM := Lib.hid (h.more (k - 1))
  have hs1 : (W.setCell ⟨a, 1, none⟩ (.int .i64 (k - 1))).heap.size = W.heap.size := by simp [World.setCell]
  have k0' : (W.setCell ⟨a, 1, none⟩ (.int .i64 (k - 1))).cell? ⟨a, 0, none⟩ = some (.slice (some ⟨b, 0, none⟩) 5 5) := HM.out.row.cell (i := 0) (by omega)
  have HFL := Lib.hid (h.fl.below HM.out.bel)
  have lb : b < W.heap.size := by have := HFL.out.row.lt; omega
  have lib : ib < W.heap.size := by have := HFL.out.into.lt; omega
  have la : a < W.heap.size := h.row.lt
  have wk : IntKind.i64.wrap (k - 1) = k - 1 := IntWalk.i64_in _ (by omega)
  have c0 : (W.setCell ⟨a, 1, none⟩ (.int .i64 (k - 1))).cell? ⟨b, 12, none⟩ = some (.int .i64 3) := HFL.out.at_ 12 (by omega)
  have c1 : (W.setCell ⟨a, 1, none⟩ (.int .i64 (k - 1))).cell? ⟨b, 13, none⟩ = some (.int .i64 3) := HFL.out.at_ 13 (by omega)
  have c2 : (W.setCell ⟨a, 1, none⟩ (.int .i64 (k - 1))).cell? ⟨b, 14, none⟩ = some (.int .i64 2) := HFL.out.at_ 14 (by omega)
  have c3 : (W.setCell ⟨a, 1, none⟩ (.int .i64 (k - 1))).cell? ⟨b, 15, none⟩ = some (.int .i64 0) := HFL.out.at_ 15 (by omega)
  have c4 : (W.setCell ⟨a, 1, none⟩ (.int .i64 (k - 1))).cell? ⟨b, 16, none⟩ = some (.int .i64 0) := HFL.out.at_ 16 (by omega)
  have c5 : (W.setCell ⟨a, 1, none⟩ (.int .i64 (k - 1))).cell? ⟨b, 17, none⟩ = some (.slice none 0 0) := HFL.out.at_ 17 (by omega)
  have HR1 := Lib.hid (hA.kp (Kp.set a W (.int .i64 (k - 1))) ho)
  obtain ⟨g, o, rfl, lg, hcv⟩ := HR1.out.at_ (show 2 < 3 by omega)
  obtain ⟨v, hv'⟩ : ∃ v, v = V 2 := ⟨_, rfl⟩
  rw [← hv'] at hcv
  have HVV := Lib.hid hv'
  rw [hs1] at lg
  clear h ho hA hv'
  have HZ := Lib.hid hs1
  clear hs1
  go_enter Try.func15, Try.ntmps15
  go_wp2_with fail
  go_ret
  exact ⟨by rw [show V 2 = v from HVV.out.symm]; rfl, HM.out.below ((Below.refl _ _).alloc (Nat.le_refl _) _), (Kp.set a W _).trans (Kp.below ((Below.refl _ _).alloc (Nat.le_refl _) _))⟩
set_option maxRecDepth 100000 in
set_option maxHeartbeats 2000000 in
theorem ask1_any (w W : World) (a b ib : Nat) (k : Int) (A : Option Addr) (c : Nat) (V : Nat → Int) (h : AkS w W a b ib k) (hk : 200 ≤ k ∧ k ≤ 100000) (hA : Rd W A 1 (fun q => .int .i64 (V q))) (ho : Off A a) (hv : 0 ≤ V 0 ∧ V 0 < 1000) :
    Calls Try.prog 15 #[.pointer (some ⟨a, 0, none⟩), .int .i64 1, .slice A 1 c] W fun e w' => e = .returned (.int .i64 (V 0 + 1)) ∧ AkS w w' a b ib (k - 1) ∧ Kp a W w' := by
  have H := Lib.hid h
  have HO := Lib.hid ho
  have k0 : W.cell? ⟨a, 0, none⟩ = some (.slice (some ⟨b, 0, none⟩) 5 5) := h.row.cell (i := 0) (by omega)
  have k1 : W.cell? ⟨a, 1, none⟩ = some (.int .i64 k) := h.row.cell (i := 1) (by omega)
  have z1 := h.row.frozen 1
  have HM := Lib.hid (h.more (k - 1))
  have hs1 : (W.setCell ⟨a, 1, none⟩ (.int .i64 (k - 1))).heap.size = W.heap.size := by simp [World.setCell]
  have k0' : (W.setCell ⟨a, 1, none⟩ (.int .i64 (k - 1))).cell? ⟨a, 0, none⟩ = some (.slice (some ⟨b, 0, none⟩) 5 5) := HM.out.row.cell (i := 0) (by omega)
  have HFL := Lib.hid (h.fl.below HM.out.bel)
  have lb : b < W.heap.size := by have := HFL.out.row.lt; omega
  have lib : ib < W.heap.size := by have := HFL.out.into.lt; omega
  have la : a < W.heap.size := h.row.lt
  have wk : IntKind.i64.wrap (k - 1) = k - 1 := IntWalk.i64_in _ (by omega)
  have c0 : (W.setCell ⟨a, 1, none⟩ (.int .i64 (k - 1))).cell? ⟨b, 6, none⟩ = some (.int .i64 2) := HFL.out.at_ 6 (by omega)
  have c1 : (W.setCell ⟨a, 1, none⟩ (.int .i64 (k - 1))).cell? ⟨b, 7, none⟩ = some (.int .i64 1) := HFL.out.at_ 7 (by omega)
  have c2 : (W.setCell ⟨a, 1, none⟩ (.int .i64 (k - 1))).cell? ⟨b, 8, none⟩ = some (.int .i64 0) := HFL.out.at_ 8 (by omega)
  have c3 : (W.setCell ⟨a, 1, none⟩ (.int .i64 (k - 1))).cell? ⟨b, 9, none⟩ = some (.int .i64 0) := HFL.out.at_ 9 (by omega)
  have c4 : (W.setCell ⟨a, 1, none⟩ (.int .i64 (k - 1))).cell? ⟨b, 10, none⟩ = some (.int .i64 0) := HFL.out.at_ 10 (by omega)
  have c5 : (W.setCell ⟨a, 1, none⟩ (.int .i64 (k - 1))).cell? ⟨b, 11, none⟩ = some (.slice none 0 0) := HFL.out.at_ 11 (by omega)
  have HR1 := Lib.hid (hA.kp (Kp.set a W (.int .i64 (k - 1))) ho)
  obtain ⟨g, o, rfl, lg, hcv⟩ := HR1.out.at_ (show 0 < 1 by omega)
  obtain ⟨v, hv'⟩ : ∃ v, v = V 0 := ⟨_, rfl⟩
  rw [← hv'] at hcv hv
  have HVV := Lib.hid hv'
  rw [hs1] at lg
  clear h ho hA hv'
  rw [Nat.add_zero] at hcv
  have HZ := Lib.hid hs1
  clear hs1
  go_enter Try.func15, Try.ntmps15
  go_wp2_with fail
  go_ret
  exact ⟨by rw [show V 0 = v from HVV.out.symm]; rfl, HM.out.below ((Below.refl _ _).alloc (Nat.le_refl _) _), (Kp.set a W _).trans (Kp.below ((Below.refl _ _).alloc (Nat.le_refl _) _))⟩
end Go.Proofs.Ytjnoolfdlgocjaa
