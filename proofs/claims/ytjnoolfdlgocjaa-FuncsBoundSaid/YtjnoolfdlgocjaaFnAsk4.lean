/- funcs.ask, general: the one that asks for another. Condition: as for AskC, of the functions before it. -/
import Derived.Test.YtjnoolfdlgocjaaFnAsk0
namespace Go.Proofs.Ytjnoolfdlgocjaa
open Go.ChangeShapes Go.WideShapes Go.ChangeAt Go.RowKit
set_option linter.unusedVariables false
set_option linter.unusedSimpArgs false
set_option maxRecDepth 100000 in
set_option maxHeartbeats 4000000 in
theorem askOf
    (D : Nat → SF) (b off n c i : Nat) (w W : World) (a : Nat) (k : Int) (A : Option Addr) (m ca : Nat) (V : Nat → Int) (hin : i < n) (hn : n ≤ 12) (hok : okFn D i) (ih : ∀ j, j < i → AskC D b off n c j) (hall : ∀ j, j < i → rk D j = 1 ∨ 3 ≤ rk D j) (hkind : (D i).k = 4) (hm : ((m : Nat) : Int) = (D i).a) (h : AkG D b off n c w W a k) (hk : 1 ≤ k ∧ k ≤ 20000) (hA : Rd W A m (fun q => .int .i64 (V q))) (ho : Off m A a) (hmc : m ≤ ca) (hca : ca ≤ maxLen) (hV : ∀ q, q < m → 0 ≤ V q ∧ V q ≤ 1000) :
    Calls Try.prog 15 #[.pointer (some ⟨a, 0, none⟩), .int .i64 (i : Nat), .slice A m ca] W fun e w' => AskR D b off n c i w W a k m V e w' := by
  have HV := Lib.hid hV
  have HO := Lib.hid ho
  have HOK := Lib.hid hok
  have HMA := Lib.hid hm
  have k0 : W.cell? ⟨a, 0, none⟩ = some (.slice (some ⟨b, off, none⟩) n c) := h.row.cell (i := 0) (by omega)
  have k1 : W.cell? ⟨a, 1, none⟩ = some (.int .i64 k) := h.row.cell (i := 1) (by omega)
  have z1 := h.row.frozen 1
  have HM := Lib.hid (h.more (k - 1))
  have hs1 : (W.setCell ⟨a, 1, none⟩ (.int .i64 (k - 1))).heap.size = W.heap.size := by simp [World.setCell]
  have k0' : (W.setCell ⟨a, 1, none⟩ (.int .i64 (k - 1))).cell? ⟨a, 0, none⟩ = some (.slice (some ⟨b, off, none⟩) n c) := HM.out.row.cell (i := 0) (by omega)
  have la : a < W.heap.size := h.row.lt
  have wk : IntKind.i64.wrap (k - 1) = k - 1 := IntWalk.i64_in _ (by omega)
  unfold maxLen at hca
  have HRL := Lib.hid (h.rd.below HM.out.bel)
  obtain ⟨c0, c1, c2, c3, c4, c5⟩ := fc_at HRL.out hin
  have lb : b < W.heap.size := by
    obtain ⟨b', o', e, hh, _⟩ := h.rd.at_ (show 0 < n * 6 by omega)
    cases e
    have := h.bel.size
    omega
  obtain ⟨f, hf⟩ : ∃ f, f = D i := ⟨_, rfl⟩
  have hsg := (h.good i).2.below h.bel
  rw [← hf] at c0 c1 c2 c3 c4 c5 hkind hsg hm
  obtain ⟨fk, fa, fp, fx, fy, ⟨sA, sn, sc, sf⟩⟩ := f
  change _ = some (Value.slice sA sn sc) at c5
  simp only [] at c0 c1 c2 c3 c4 hkind hm
  subst hkind
  obtain ⟨hsr, _, hsl, hsm⟩ := hsg
  change Rd W sA sn (fun i => .int .i64 (sf i)) at hsr
  change sn ≤ sc at hsl
  change sc ≤ maxLen at hsm
  unfold maxLen at hsm
  have HSR := Lib.hid hsr
  have HF := Lib.hid hf
  have e0 : (D i).k = 4 := by rw [← hf]
  have e1 : (D i).a = fa := by rw [← hf]
  have e2 : (D i).p = fp := by rw [← hf]
  have e3 : (D i).x = fx := by rw [← hf]
  have e4 : (D i).y = fy := by rw [← hf]
  have e5 : (D i).s.n = sn := by rw [← hf]
  have e6 : (D i).s.f = sf := by rw [← hf]
  have hok' := hok
  unfold okFn at hok'
  rw [e0, e1, e2, e3, e4, e5, e6] at hok'
  have HE := Lib.hid (And.intro e0 (And.intro e1 (And.intro e2 (And.intro e3 (And.intro e4 (And.intro e5 e6))))))
  clear hsr hf e0 e1 e2 e3 e4 e5 e6
  have HR1 := Lib.hid (hA.kp (Kp.set a W (.int .i64 (k - 1))) ho)
  have HZ := Lib.hid hs1
  obtain ⟨ux, hux⟩ : ∃ ux : Nat, fx = ux := ⟨fx.toNat, by have := (hok'.2.2.2.2.1 rfl).2.1; omega⟩
  subst hux
  have h4 := hok'.2.2.2.2.1 rfl
  have H4 := Lib.hid h4
  have hsn4 : sn ≤ 4 := h4.1
  have HG0 := Lib.hid h
  clear h4 hok' hm
  have hrow := rowF (W.setCell ⟨a, 1, none⟩ (.int .i64 (k - 1))) 29 (.int .i64 4) (.int .i64 fa) (.int .i64 fp) (.int .i64 (ux : Nat)) (.int .i64 fy) (.slice sA sn sc) (f6 4 fa fp (ux : Nat) fy (.slice sA sn sc)) rfl rfl rfl rfl rfl rfl
  rw [hs1] at hrow
  have HX := Lib.hid hrow
  have HS1 := Lib.hid (HM.out.below ((Below.refl _ _).alloc (Nat.le_refl _) (.cells #[.int .i64 4, .int .i64 fa, .int .i64 fp, .int .i64 (ux : Nat), .int .i64 fy, .slice sA sn sc] 29)))
  have HK1 := Lib.hid ((Kp.set a W (.int .i64 (k - 1))).trans (Kp.below ((Below.refl _ _).alloc (Nat.le_refl _) (.cells #[.int .i64 4, .int .i64 fa, .int .i64 fp, .int .i64 (ux : Nat), .int .i64 fy, .slice sA sn sc] 29))))
  have HR0 := Lib.hid hA
  have HIH := Lib.hid ih
  have HAL := Lib.hid hall
  clear hrow ih hall
  clear h ho hA hs1 hV hok
  go_enter Try.func15, Try.ntmps15
  go_wp2_with fail
  go_loopw [8, 58] (fun s8 s58 wr => ∃ (t c' : Nat) (A' : Option Addr) (kf : Int) (F : Nat → Int), t ≤ sn ∧ (0 ≤ kf ∧ kf ≤ k - 1) ∧ s58 = .int .i64 (t : Nat) ∧ s8 = .slice A' t c' ∧ Hid (Kp a W wr) ∧ Hid (wr.rowIs W.heap.size 29 6 (f6 4 fa fp (ux : Nat) fy (.slice sA sn sc))) ∧ Hid (AkG D b off n c w wr a kf) ∧ Hid (Own wr (W.heap.size + 1) 3 1 A' t c' t (fun q => .int .i64 (F q))) ∧ Hid (∀ q, q < t → (0 ≤ F q ∧ F q ≤ 1000) ∧ ∀ M : Int, 0 ≤ M → (∀ q, q < m → V q ≤ M) → rk D (sf q).toNat ≤ 1 → F q ≤ M + 1)) (fun _ s58 _ => sn - (intOf s58).toNat)
  case atStart => exact ⟨0, 0, none, k - 1, fun _ => 0, by omega, ⟨by omega, by omega⟩, rfl, rfl, HK1, HX, HS1, Lib.hid (Own.nil _ _ _ _ _), Lib.hid fun q h => absurd h (by omega)⟩
  case round =>
    obtain ⟨wo, rfl⟩ : ∃ wo : World, wo = wr := ⟨_, rfl⟩
    obtain ⟨t, c', A', kf, F, ht, hkf, rfl, rfl, HK, HX2, HS, HOW, HFB⟩ := hrel
    have hzo : W.heap.size ≤ wo.heap.size := HK.out.1
    have hsr : Rd wo sA sn (fun q => .int .i64 (sf q)) := by
      have hh := ((HS.out.good i).2.below HS.out.bel).1
      rw [← HF.out] at hh
      exact hh
    have hxo := HX2.out.lt
    have x3 : wo.cell? ⟨W.heap.size, 3, none⟩ = some (.int .i64 (ux : Nat)) := HX2.out.cell (i := 3) (by omega)
    by_cases hlt : t < sn
    · obtain ⟨b', o', e', lb', hc⟩ := hsr.at_ hlt
      subst e'
      obtain ⟨j, hj⟩ : ∃ j : Nat, sf t = j := ⟨(sf t).toNat, by have := H4.out.2.2 t hlt; omega⟩
      have hji : j < i := by have := H4.out.2.2 t hlt; omega
      have HJA : Hid ((D j).a = fa) := Lib.hid (by have := (H4.out.2.2 t hlt).2.2; rw [hj] at this; exact this)
      rw [hj] at hc
      have HJ := Lib.hid hj
      clear hj hsr
      go_wp2_with fail
      refine (HIH.out j hji w wo a kf A m ca V (by rw [HJA.out, HMA.out]; exact HE.out.2.1) HS.out ⟨by omega, by omega⟩ (HR0.out.kp HK.out HO.out) HO.out hmc (by unfold maxLen; omega) HV.out).mono ?_
      rintro e w2 ⟨x, k2, rfl, hs2, hk2, hp2⟩
      have HS2 := Lib.hid hs2
      have HKK := Lib.hid hk2
      have HK2 := Lib.hid (HK.out.trans hk2)
      have HP2 := Lib.hid hp2
      have HX3 := Lib.hid (row_kp HX2.out hk2 (by omega))
      have HO2 := Lib.hid (HOW.out.kp hk2 (by omega))
      clear hs2 hk2 hp2
      by_cases hx0 : x < 0
      · go_wp2_with fail
        go_ret
        exact AskR.of (-1) k2 rfl ⟨HS2.out, HK2.out⟩ (AskP.none D i m V k k2 ⟨HP2.out.2.1.1, by have := HP2.out.2.1.2; omega⟩)
      · have hx3 := HX3.out.lt
        have hbase : W.heap.size + 1 ≤ (w2.alloc (.cells #[.int .i64 x] 3)).heap.size := by simp; omega
        go_wp2_with (at_builtin; refine wpList_app _ rfl (.tmp 68) (.tmp 70) 27 rfl EIc rfl (HO2.out.alloc _) rfl (l := 1) (by omega) (Rd.one w2 (.int .i64 x) _) (fun _ _ => rfl) (by unfold maxLen; omega) (by omega) hbase (t + 1) (t + 1) rfl rfl ?_; intro A2 c2 w3 hown2 hg2 hat2 hbl2; have HOW3 := Lib.hid hown2; have HB3 := Lib.hid ((((Below.refl w2.heap.size w2).alloc (Nat.le_refl _) (.cells #[.int .i64 x] 3)).mono (show W.heap.size + 1 ≤ w2.heap.size by omega)).trans hbl2); clear hown2 hg2 hat2 hbl2)
        go_roundw
        case rel => exact ⟨t + 1, c2, A2, k2, fun q => if q < t then F q else x, by omega, ⟨HP2.out.2.2.1 (by omega), by have := HP2.out.2.1.2; omega⟩, by go_num, rfl, Lib.hid (HK2.out.low HB3.out (by omega)), Lib.hid (HX3.out.of_block (HB3.out.block _ (by omega))), Lib.hid (HS2.out.low HB3.out (by omega)), Lib.hid (HOW3.out.congr fun q hq => by unfold cat; show _ = Value.int .i64 (if q < t then F q else x); split <;> rfl), Lib.hid fun q hq => by
          by_cases hqt : q < t
          · simp only [if_pos hqt]; exact HFB.out q hqt
          · obtain rfl : q = t := by omega
            simp only [if_neg hqt]
            have hjt : (sf q).toNat = j := by rw [HJ.out]; rfl
            rw [hjt]
            exact ⟨⟨by omega, HP2.out.1.2⟩, fun M h0 hM hr => (HP2.out.2.2.2 M h0 hM).1 hr⟩⟩
        case measure => simp [intOf]; omega
    · obtain rfl : t = sn := by omega
      clear hsr
      go_wp2_with fail
      have hui : ux < i := by have := H4.out.2.1; omega
      refine (HIH.out ux hui w wo a kf A' t c' F (by have := H4.out.2.1.2.2; exact this.symm) HS.out ⟨by omega, by omega⟩ HOW.out.rd (HOW.out.off _ (by omega)) HOW.out.le.1 HOW.out.le.2 (fun q hq => (HFB.out q hq).1)).mono ?_
      rintro e w2 ⟨x, k2, rfl, hs2, hk2, hp2⟩
      have HS2 := Lib.hid hs2
      have HK2 := Lib.hid (HK.out.trans hk2)
      have HP2 := Lib.hid hp2
      clear hs2 hk2 hp2
      go_wp2_with fail
      go_ret
      refine AskR.of x k2 rfl ⟨HS2.out, HK2.out⟩ (AskP.of4 (F := F) (k1 := kf) HOK.out HAL.out HE.out.1 (by omega) (fun q hq M h0 hM hr => ?_) ?_)
      · rw [HE.out.2.2.2.2.2.1] at hq
        rw [HE.out.2.2.2.2.2.2] at hr
        exact (HFB.out q hq).2 M h0 hM hr
      · rw [HE.out.2.2.2.1, HE.out.2.2.2.2.2.1]
        exact HP2.out
end Go.Proofs.Ytjnoolfdlgocjaa
