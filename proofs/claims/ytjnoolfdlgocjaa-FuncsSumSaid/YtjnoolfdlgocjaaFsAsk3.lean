/- funcs.ask at the function that FuncsSum turns: the one that asks for another, and the one that goes on. Condition: they lie in the world. -/
import Derived.Test.YtjnoolfdlgocjaaFsAsk
import Derived.Test.YtjnoolfdlgocjaaRow
import Derived.IntWalk
import Derived.BigQuiet
namespace Go.Proofs.Ytjnoolfdlgocjaa
open Go.ChangeShapes Go.WideShapes Go.ChangeAt Go.RowKit
set_option linter.unusedVariables false
set_option linter.unusedSimpArgs false
theorem rowF (w : World) (t : TypeId) (a b c d e f : Value) (F : Nat → Value) (h0 : F 0 = a) (h1 : F 1 = b) (h2 : F 2 = c) (h3 : F 3 = d) (h4 : F 4 = e) (h5 : F 5 = f) : (w.alloc (.cells #[a, b, c, d, e, f] t)).rowIs w.heap.size t 6 F :=
  World.rowIs_alloc w #[a, b, c, d, e, f] t F fun i hi => by
    have : i < 6 := hi
    match i, this with
    | 0, _ => simp [h0]
    | 1, _ => simp [h1]
    | 2, _ => simp [h2]
    | 3, _ => simp [h3]
    | 4, _ => simp [h4]
    | 5, _ => simp [h5]
theorem Off.ge {a g : Nat} {o : Nat} (h : a < g) : Off (some ⟨g, o, none⟩) a := fun g' o' e => by
  injection e with e
  injection e with e1 e2
  omega
theorem row_kp {a : Nat} {W W' : World} {b : Nat} {t : TypeId} {n : Nat} {F : Nat → Value} (h : W.rowIs b t n F) (hk : Kp a W W') (hb : b ≠ a) : W'.rowIs b t n F := h.of_block (hk.2 b h.lt hb)
set_option maxRecDepth 100000 in
set_option maxHeartbeats 2000000 in
theorem ask3_any (w W : World) (a b ib : Nat) (k : Int) (A : Option Addr) (c : Nat) (V : Nat → Int) (h : AkS w W a b ib k) (hk : 203 ≤ k ∧ k ≤ 100000) (hv : 0 ≤ V 2 ∧ V 2 < 1000) (hA : Rd W A 3 (fun q => .int .i64 (V q))) (ho : Off A a)  :
    Calls Try.prog 15 #[.pointer (some ⟨a, 0, none⟩), .int .i64 3, .slice A 3 c] W fun e w' => e = .returned (.int .i64 (V 2 + 1)) ∧ AkS w w' a b ib (k - 3) ∧ Kp a W w' := by
  have H := Lib.hid h
  have HV := Lib.hid hv
  have HO := Lib.hid ho
  have k0 : W.cell? ⟨a, 0, none⟩ = some (.slice (some ⟨b, 0, none⟩) 5 5) := h.row.cell (i := 0) (by omega)
  have k1 : W.cell? ⟨a, 1, none⟩ = some (.int .i64 k) := h.row.cell (i := 1) (by omega)
  have z1 := h.row.frozen 1
  have HM := Lib.hid (h.more (k - 1))
  have hs1 : (W.setCell ⟨a, 1, none⟩ (.int .i64 (k - 1))).heap.size = W.heap.size := by simp [World.setCell]
  have k0' : (W.setCell ⟨a, 1, none⟩ (.int .i64 (k - 1))).cell? ⟨a, 0, none⟩ = some (.slice (some ⟨b, 0, none⟩) 5 5) := HM.out.row.cell (i := 0) (by omega)
  have HFL := Lib.hid (h.fl.below HM.out.bel)
  have lb : b < W.heap.size := by have := HFL.out.row.lt; omega
  have lib : ib < W.heap.size := by have := HFL.out.into.lt; omega
  have la : a < W.heap.size := h.row.lt
  have wk : IntKind.i64.wrap (k - 1) = k - 1 := IntWalk.i64_in _ (by omega)
  have c0 : (W.setCell ⟨a, 1, none⟩ (.int .i64 (k - 1))).cell? ⟨b, 18, none⟩ = some (.int .i64 4) := HFL.out.at_ 18 (by omega)
  have c1 : (W.setCell ⟨a, 1, none⟩ (.int .i64 (k - 1))).cell? ⟨b, 19, none⟩ = some (.int .i64 3) := HFL.out.at_ 19 (by omega)
  have c2 : (W.setCell ⟨a, 1, none⟩ (.int .i64 (k - 1))).cell? ⟨b, 20, none⟩ = some (.int .i64 0) := HFL.out.at_ 20 (by omega)
  have c3 : (W.setCell ⟨a, 1, none⟩ (.int .i64 (k - 1))).cell? ⟨b, 21, none⟩ = some (.int .i64 1) := HFL.out.at_ 21 (by omega)
  have c4 : (W.setCell ⟨a, 1, none⟩ (.int .i64 (k - 1))).cell? ⟨b, 22, none⟩ = some (.int .i64 0) := HFL.out.at_ 22 (by omega)
  have c5 : (W.setCell ⟨a, 1, none⟩ (.int .i64 (k - 1))).cell? ⟨b, 23, none⟩ = some (.slice (some ⟨ib, 0, none⟩) 1 1) := HFL.out.at_ 23 (by omega)
  have HR1 := Lib.hid (hA.kp (Kp.set a W (.int .i64 (k - 1))) ho)
  have HZ := Lib.hid hs1
  have hrow := rowF (W.setCell ⟨a, 1, none⟩ (.int .i64 (k - 1))) 29 (.int .i64 4) (.int .i64 3) (.int .i64 0) (.int .i64 1) (.int .i64 0) (.slice (some ⟨ib, 0, none⟩) 1 1) (fun q => fC ib (18 + q)) rfl rfl rfl rfl rfl rfl
  rw [hs1] at hrow
  have HX := Lib.hid hrow
  have HS1 := Lib.hid (HM.out.below ((Below.refl _ _).alloc (Nat.le_refl _) (.cells #[.int .i64 4, .int .i64 3, .int .i64 0, .int .i64 1, .int .i64 0, .slice (some ⟨ib, 0, none⟩) 1 1] 29)))
  have HK1 := Lib.hid ((Kp.set a W (.int .i64 (k - 1))).trans (Kp.below ((Below.refl _ _).alloc (Nat.le_refl _) (.cells #[.int .i64 4, .int .i64 3, .int .i64 0, .int .i64 1, .int .i64 0, .slice (some ⟨ib, 0, none⟩) 1 1] 29))))
  have HR0 := Lib.hid hA
  clear h ho hA hv hs1 hrow
  go_enter Try.func15, Try.ntmps15
  go_wp2_with fail
  go_loopw [8, 58] (fun s8 s58 wr => ∃ (kz : Int), s58 = .int .i64 kz ∧ Hid (Kp a W wr) ∧ Hid (wr.rowIs W.heap.size 29 6 (fun q => fC ib (18 + q))) ∧ ((kz = 0 ∧ s8 = .slice none 0 0 ∧ Hid (AkS w wr a b ib (k - 1))) ∨ (kz = 1 ∧ ∃ g c', s8 = .slice (some ⟨g, 0, none⟩) 1 c' ∧ Hid (Rd wr (some ⟨g, 0, none⟩) 1 (fun _ => .int .i64 (V 2))) ∧ W.heap.size ≤ g ∧ Hid (AkS w wr a b ib (k - 2))))) (fun _ s58 _ => 1 - (intOf s58).toNat)
  case atStart => exact ⟨0, rfl, HK1, HX, .inl ⟨rfl, rfl, HS1⟩⟩
  case round =>
    obtain ⟨wo, rfl⟩ : ∃ wo : World, wo = wr := ⟨_, rfl⟩
    obtain ⟨kz, rfl, HK, HX2, ⟨rfl, rfl, HS⟩ | ⟨rfl, g, c', rfl, HRo, hg, HS⟩⟩ := hrel
    · have hin : wo.cell? ⟨ib, 0, none⟩ = some (.int .i64 2) := (HS.out.fl.below HS.out.bel).into.cell (i := 0) (by omega)
      go_wp2_with fail
      refine (ask2_any w wo a b ib (k - 1) A c V HS.out ⟨by omega, by omega⟩ (HR0.out.kp HK.out HO.out) HO.out).mono ?_
      rintro e w2 ⟨rfl, hs2, hk2⟩
      have HS2 := Lib.hid hs2
      have HK2 := Lib.hid (HK.out.trans hk2)
      have HX3 := Lib.hid (row_kp HX2.out hk2 (by omega))
      have hz2 : W.heap.size ≤ w2.heap.size := HK2.out.1
      obtain ⟨v, hv'⟩ : ∃ v, v = V 2 := ⟨_, rfl⟩
      have hvb : 0 ≤ v ∧ v < 1000 := by rw [hv']; exact HV.out
      rw [← hv']
      have HVV := Lib.hid hv'
      have hO := Own.nil w2 w2.heap.size 3 1 (fun _ => .int .i64 0)
      have HO2 := Lib.hid hO
      clear hs2 hk2 hv' hO
      go_wp2_with (at_builtin; refine wpList_app _ rfl (.tmp 68) (.tmp 70) 27 rfl EIc rfl (HO2.out.alloc _) rfl (l := 1) (by omega) (Rd.one w2 (.int .i64 v) _) (fun _ _ => rfl) (by unfold maxLen; omega) (by omega) (by simp) 1 1 rfl rfl ?_; intro A2 c2 w3 hown2 hg2 hat2 hbl2; have HOW := Lib.hid hown2; have HB3 := Lib.hid (((Below.refl w2.heap.size w2).alloc (Nat.le_refl _) (.cells #[.int .i64 v] 3)).trans hbl2); clear hown2 hg2 hat2 hbl2)
      obtain ⟨g, F, rfl, hg, hrow, _, hF⟩ := HOW.out.row (by omega)
      go_roundw
      case rel => exact ⟨1, rfl, Lib.hid (HK2.out.trans (Kp.below HB3.out)), Lib.hid (HX3.out.of_block (HB3.out.block _ HX3.out.lt)), .inr ⟨rfl, g, _, rfl, Lib.hid (HOW.out.rd.congr (fun i hi => by rw [cat_ge (Nat.zero_le _), HVV.out])), by omega, Lib.hid (by have := HS2.out.below HB3.out; rwa [show k - 1 - 1 = k - 2 by omega] at this)⟩⟩
      case measure => simp [intOf]
    · have x3 : wo.cell? ⟨W.heap.size, 3, none⟩ = some (.int .i64 1) := HX2.out.cell (i := 3) (by omega)
      go_wp2_with fail
      refine (ask1_any w wo a b ib (k - 2) (some ⟨g, 0, none⟩) c' (fun _ => V 2) HS.out ⟨by omega, by omega⟩ HRo.out (Off.ge (by omega)) HV.out).mono ?_
      rintro e w2 ⟨rfl, hs2, hk2⟩
      have HS2 := Lib.hid hs2
      have HK2 := Lib.hid (HK.out.trans hk2)
      clear hs2 hk2
      go_wp2_with fail
      go_ret
      exact ⟨rfl, by have := HS2.out; rwa [show k - 2 - 1 = k - 3 by omega] at this, HK2.out⟩
end Go.Proofs.Ytjnoolfdlgocjaa
