/- funcs.ask, general: the one that goes on. Condition: as for AskC, of the functions before it. -/
import Derived.Test.YtjnoolfdlgocjaaFnAsk0
import Derived.Test.YtjnoolfdlgocjaaHeldMore
import Derived.Deep.RegionLaw
namespace Go.Proofs.Ytjnoolfdlgocjaa
open Go.ChangeShapes Go.WideShapes Go.ChangeAt Go.RowKit
set_option linter.unusedVariables false
set_option linter.unusedSimpArgs false

def dD (n x : Int) (q : Nat) : Value := if q = 0 then .int .i64 n else .int .i64 x
theorem dD_one (n x : Int) (q : Nat) : (dD n x q).oneCell' = true := by unfold dD; split <;> rfl
theorem rd2 (w : World) (x y : Value) (e : TypeId) (D : Nat → Value) (h0 : D 0 = x) (h1 : D 1 = y) : Rd (w.alloc (.cells #[x, y] e)) (some ⟨w.heap.size, 0, none⟩) 2 D :=
  Rd.of_row (World.rowIs_alloc w #[x, y] e D fun i hi => by
    have : i < 2 := hi
    match i, this with
    | 0, _ => simp [h0]
    | 1, _ => simp [h1]) (Nat.le_refl _)
/-- the value of the one that goes on -/
theorem AskP.of5 {D : Nat → SF} {i m : Nat} {V : Nat → Int} {x k k' : Int} (ho : okFn D i) (hall : ∀ j, j < i → rk D j = 1 ∨ 3 ≤ rk D j) (h5 : (D i).k = 5) (hx : -1 ≤ x ∧ x ≤ 1000) (hk : -1 ≤ k' ∧ k' ≤ k) (hxk : 0 ≤ x → 0 ≤ k') (hb : ∀ M : Int, 0 ≤ M → (∀ q, q < m → V q ≤ M) → rk D (D i).x.toNat ≤ 1 → rk D (D i).y.toNat ≤ 1 → x ≤ M + 1) : AskP D i m V x k k' := by
  obtain ⟨_, hx', hy⟩ := ho.2.2.2.2.2 h5
  have hr := rk_5 ho h5
  have h1 := hall (D i).x.toNat (by omega)
  have h2 := hall (D i).y.toNat (by omega)
  refine ⟨hx, hk, hxk, fun M h0 hM => ⟨fun h => ?_, fun h => ?_, fun h => ?_⟩⟩
  · exfalso; rw [hr] at h; split at h <;> omega
  · exfalso; rw [hr] at h; split at h <;> omega
  · have := hb M h0 hM (by rw [hr] at h; split at h <;> omega) (by rw [hr] at h; split at h <;> omega)
    omega
set_option maxRecDepth 100000 in
set_option maxHeartbeats 8000000 in
theorem askAgain
    (D : Nat → SF) (b off n c i : Nat) (w W : World) (a : Nat) (k : Int) (A : Option Addr) (m ca : Nat) (V : Nat → Int) (hin : i < n) (hn : n ≤ 12) (hok : okFn D i) (ih : ∀ j, j < i → AskC D b off n c j) (hall : ∀ j, j < i → rk D j = 1 ∨ 3 ≤ rk D j) (hkind : (D i).k = 5) (hm : ((m : Nat) : Int) = (D i).a) (h : AkG D b off n c w W a k) (hk : 1 ≤ k ∧ k ≤ 20000) (hA : Rd W A m (fun q => .int .i64 (V q))) (ho : Off m A a) (hmc : m ≤ ca) (hca : ca ≤ maxLen) (hV : ∀ q, q < m → 0 ≤ V q ∧ V q ≤ 1000) :
    Calls Try.prog 15 #[.pointer (some ⟨a, 0, none⟩), .int .i64 (i : Nat), .slice A m ca] W fun e w' => AskR D b off n c i w W a k m V e w' := by
  have HV := Lib.hid hV
  have HO := Lib.hid ho
  have HOK := Lib.hid hok
  have HMA := Lib.hid hm
  have k0 : W.cell? ⟨a, 0, none⟩ = some (.slice (some ⟨b, off, none⟩) n c) := h.row.cell (i := 0) (by omega)
  have k1 : W.cell? ⟨a, 1, none⟩ = some (.int .i64 k) := h.row.cell (i := 1) (by omega)
  have z1 := h.row.frozen 1
  have HM := Lib.hid (h.more (k - 1))
  have hs1 : (W.setCell ⟨a, 1, none⟩ (.int .i64 (k - 1))).heap.size = W.heap.size := by simp [World.setCell]
  have k0' : (W.setCell ⟨a, 1, none⟩ (.int .i64 (k - 1))).cell? ⟨a, 0, none⟩ = some (.slice (some ⟨b, off, none⟩) n c) := HM.out.row.cell (i := 0) (by omega)
  have la : a < W.heap.size := h.row.lt
  have wk : IntKind.i64.wrap (k - 1) = k - 1 := IntWalk.i64_in _ (by omega)
  unfold maxLen at hca
  have HRL := Lib.hid (h.rd.below HM.out.bel)
  obtain ⟨c0, c1, c2, c3, c4, c5⟩ := fc_at HRL.out hin
  have lb : b < W.heap.size := by
    obtain ⟨b', o', e, hh, _⟩ := h.rd.at_ (show 0 < n * 6 by omega)
    cases e
    have := h.bel.size
    omega
  obtain ⟨f, hf⟩ : ∃ f, f = D i := ⟨_, rfl⟩
  have hsg := (h.good i).2.below h.bel
  rw [← hf] at c0 c1 c2 c3 c4 c5 hkind hsg hm
  obtain ⟨fk, fa, fp, fx, fy, ⟨sA, sn, sc, sf⟩⟩ := f
  change _ = some (Value.slice sA sn sc) at c5
  simp only [] at c0 c1 c2 c3 c4 hkind hm
  subst hkind
  obtain ⟨hsr, _, hsl, hsm⟩ := hsg
  change Rd W sA sn (fun i => .int .i64 (sf i)) at hsr
  change sn ≤ sc at hsl
  change sc ≤ maxLen at hsm
  unfold maxLen at hsm
  have HSR := Lib.hid hsr
  have HF := Lib.hid hf
  have e0 : (D i).k = 5 := by rw [← hf]
  have e1 : (D i).a = fa := by rw [← hf]
  have e2 : (D i).p = fp := by rw [← hf]
  have e3 : (D i).x = fx := by rw [← hf]
  have e4 : (D i).y = fy := by rw [← hf]
  have e5 : (D i).s.n = sn := by rw [← hf]
  have e6 : (D i).s.f = sf := by rw [← hf]
  have hok' := hok
  unfold okFn at hok'
  rw [e0, e1, e2, e3, e4, e5, e6] at hok'
  have HE := Lib.hid (And.intro e0 (And.intro e1 (And.intro e2 (And.intro e3 (And.intro e4 (And.intro e5 e6))))))
  clear hsr hf e0 e1 e2 e3 e4 e5 e6
  have HR1 := Lib.hid (hA.kp (Kp.set a W (.int .i64 (k - 1))) ho)
  have HZ := Lib.hid hs1
  obtain ⟨ux, hux⟩ : ∃ ux : Nat, fx = ux := ⟨fx.toNat, by have := (hok'.2.2.2.2.2 rfl).2.1; omega⟩
  obtain ⟨uy, huy⟩ : ∃ uy : Nat, fy = uy := ⟨fy.toNat, by have := (hok'.2.2.2.2.2 rfl).2.2; omega⟩
  subst hux
  subst huy
  have h5 := hok'.2.2.2.2.2 rfl
  have H5 := Lib.hid h5
  have HDA : Hid ((D ux).a = fa - 1 ∧ (D uy).a = fa + 1) := Lib.hid ⟨h5.2.1.2.2, h5.2.2.2.2⟩
  have hui : ux < i := by have := h5.2.1; omega
  have hui2 : uy < i := by have := h5.2.2; omega
  have hm4 : m ≤ 4 := by have := hok'.2.1; omega
  obtain ⟨mm, hmm⟩ : ∃ mm, m = mm + 1 := ⟨m - 1, by have := h5.1; omega⟩
  have wl : IntKind.i64.wrap ((m : Int) - 1) = ((mm : Nat) : Int) := by rw [show (m : Int) - 1 = ((mm : Nat) : Int) by omega]; exact IntWalk.i64_in _ (by omega)
  obtain ⟨v, hvm⟩ : ∃ v : Nat, V mm = v := ⟨(V mm).toNat, by have := hV mm (by omega); omega⟩
  have hv1 : v ≤ 1000 := by have := hV mm (by omega); omega
  have HVM := Lib.hid hvm
  have hmI : (mm : Int) < (m : Int) := by omega
  have hcI : (mm : Int) ≤ (ca : Int) := by omega
  have hmm4 : mm ≤ 3 := by omega
  have HMM : Hid (m = mm + 1 ∧ ((m : Nat) : Int) = fa) := Lib.hid ⟨hmm, hm⟩
  clear h5 hok' hm hvm
  have hrow := rowF (W.setCell ⟨a, 1, none⟩ (.int .i64 (k - 1))) 29 (.int .i64 5) (.int .i64 fa) (.int .i64 fp) (.int .i64 (ux : Nat)) (.int .i64 (uy : Nat)) (.slice sA sn sc) (f6 5 fa fp (ux : Nat) (uy : Nat) (.slice sA sn sc)) rfl rfl rfl rfl rfl rfl
  rw [hs1] at hrow
  have HX := Lib.hid hrow
  have HS1 := Lib.hid (HM.out.below ((Below.refl _ _).alloc (Nat.le_refl _) (.cells #[.int .i64 5, .int .i64 fa, .int .i64 fp, .int .i64 (ux : Nat), .int .i64 (uy : Nat), .slice sA sn sc] 29)))
  have HK1 := Lib.hid ((Kp.set a W (.int .i64 (k - 1))).trans (Kp.below ((Below.refl _ _).alloc (Nat.le_refl _) (.cells #[.int .i64 5, .int .i64 fa, .int .i64 fp, .int .i64 (ux : Nat), .int .i64 (uy : Nat), .slice sA sn sc] 29))))
  have HR0 := Lib.hid hA
  have HIH := Lib.hid ih
  have HAL := Lib.hid hall
  clear hrow ih hall
  obtain ⟨g, o, rfl, lg, hcv⟩ := hA.at_ (show 0 < m by omega)
  clear hcv hmm
  have HLG := Lib.hid lg
  clear lg
  clear h ho hA hs1 hV hok
  go_enter Try.func15, Try.ntmps15
  go_wp2_with fail
  obtain ⟨W1, hW1⟩ : ∃ W1, W1 = ((W.setCell ⟨a, 1, none⟩ (.int .i64 (k - 1))).alloc (.cells #[.int .i64 5, .int .i64 fa, .int .i64 fp, .int .i64 (ux : Nat), .int .i64 (uy : Nat), .slice sA sn sc] 29)) := ⟨_, rfl⟩
  rw [← hW1] at HX HS1 HK1
  rw [← hW1]
  clear hW1
  have HS0 : Hid (W1.drew.cell? ⟨W.heap.size, 3, none⟩ = some (.int .i64 (ux : Nat))) := Lib.hid (HX.out.cell (i := 3) (by omega))
  refine wp_region_any (by kernel_rfl) ?_
  change wpAny _ _ _ _ _ _ _ (World.drew _)
  refine any_of_T (S := fun W' => W'.cell? ⟨W.heap.size, 3, none⟩ = some (.int .i64 (ux : Nat))) (c := 6) _ _ _ _ ?_
  refine anyT_takeY (i := 0) (v := ?_) rfl (by decide +kernel) (by decide +kernel) (by decide +kernel) (by decide +kernel) (fun _ _ _ h => h) (Or.inl ⟨by rfl, ?_⟩) HS0.out ?_
  rotate_left 1
  · intro w _; go_simp; with_reducible rfl
  simp only [Act.put, List.getElem_toArray, List.getElem_cons_zero, List.getElem_cons_succ, List.setIfInBounds_toArray, List.set_cons_zero, List.set_cons_succ]
  refine anyT_takeY (i := 1) (v := ?_) rfl (by decide +kernel) (by decide +kernel) (by decide +kernel) (by decide +kernel) (fun _ _ _ h => h) (Or.inl ⟨by rfl, ?_⟩) HS0.out ?_
  rotate_left 1
  · intro w _; go_simp; with_reducible rfl
  simp only [Act.put, List.getElem_toArray, List.getElem_cons_zero, List.getElem_cons_succ, List.setIfInBounds_toArray, List.set_cons_zero, List.set_cons_succ]
  refine anyT_takeL [6] (i := 2) (v := ?_) rfl (by decide +kernel) (by decide +kernel) (by decide +kernel) (by decide +kernel) (by decide +kernel) (by decide +kernel) (fun _ _ _ h => h) (Or.inl ⟨by rfl, ?_⟩) HS0.out ?_
  rotate_left 1
  · intro w hS; go_simp; with_reducible rfl
  simp only [Act.put, List.getElem_toArray, List.getElem_cons_zero, List.getElem_cons_succ, List.setIfInBounds_toArray, List.set_cons_zero, List.set_cons_succ]
  refine anyT_takeY (i := 3) (v := ?_) rfl (by decide +kernel) (by decide +kernel) (by decide +kernel) (by decide +kernel) (fun _ _ _ h => h) (Or.inl ⟨by rfl, ?_⟩) HS0.out ?_
  rotate_left 1
  · intro w _; go_simp; with_reducible rfl
  simp only [Act.put, List.getElem_toArray, List.getElem_cons_zero, List.getElem_cons_succ, List.setIfInBounds_toArray, List.set_cons_zero, List.set_cons_succ]
  refine anyT_takeY (i := 4) (v := ?_) rfl (by decide +kernel) (by decide +kernel) (by decide +kernel) (by decide +kernel) (fun _ _ _ h => h) (Or.inl ⟨by rfl, ?_⟩) HS0.out ?_
  rotate_left 1
  · intro w _; go_simp; with_reducible rfl
  simp only [Act.put, List.getElem_toArray, List.getElem_cons_zero, List.getElem_cons_succ, List.setIfInBounds_toArray, List.set_cons_zero, List.set_cons_succ]
  refine anyT_takeY (i := 5) (v := ?_) rfl (by decide +kernel) (by decide +kernel) (by decide +kernel) (by decide +kernel) (fun _ _ _ h => h) (Or.inl ⟨by rfl, ?_⟩) HS0.out ?_
  rotate_left 1
  · intro w _; go_simp; with_reducible rfl
  simp only [Act.put, List.getElem_toArray, List.getElem_cons_zero, List.getElem_cons_succ, List.setIfInBounds_toArray, List.set_cons_zero, List.set_cons_succ]
  refine anyT_one (i := 6) (by decide +kernel) rfl (fun KK hK => ?_)
  go_simp
  go_at_call 15
  refine (HIH.out ux hui w W1.drew a (k - 1) (some ⟨g, o, none⟩) mm ca V (by have := HDA.out.1; have := HMM.out; omega) (HS1.out.below ((Below.refl _ _).drew)) ⟨by omega, by omega⟩ ((HR0.out.kp (show Kp a W W1.drew from HK1.out) HO.out).le (by have := HMM.out; omega)) (fun _ => HO.out (by have := HMM.out; omega)) (by omega) (by unfold maxLen; omega) (fun q hq => HV.out q (by have := HMM.out; omega))).mono ?_
  rintro e w2 ⟨x, k2, rfl, hs2, hk2, hp2⟩
  have HS2 := Lib.hid hs2
  have HK2 := Lib.hid ((show Kp a W W1.drew from HK1.out).trans hk2)
  have HX2 := Lib.hid (row_kp (W := W1.drew) HX.out hk2 (by omega))
  have HP2 := Lib.hid hp2
  clear hs2 hk2 hp2
  try go_simp
  refine hK.out _ _ (fun h => absurd h (by decide +kernel)) ?_
  clear hK KK
  try simp only [Act.put, List.getElem_toArray, List.getElem_cons_zero, List.getElem_cons_succ, List.setIfInBounds_toArray, List.set_cons_zero, List.set_cons_succ]
  refine T_of_any _ _ _ _ (by decide +kernel) ?_
  refine wpAny_take (i := 7) (v := ?_) rfl (by kernel_rfl) (by kernel_rfl) (by kernel_rfl) (fun _ _ _ h => h) (Or.inl ⟨by rfl, ?_⟩) ?_
  rotate_left 1
  · intro w; go_simp; with_reducible rfl
  simp only [Act.put, List.getElem_toArray, List.getElem_cons_zero, List.getElem_cons_succ, List.setIfInBounds_toArray, List.set_cons_zero, List.set_cons_succ]
  refine wpAny_done (by decide +kernel) ?_ _
  go_wp2_with fail
  go_loopw [13, 14] (fun s13 s14 wr => ∃ (t : Nat) (x kf : Int), t ≤ v ∧ (-1 ≤ x ∧ x ≤ 1000) ∧ (-1 ≤ kf ∧ kf ≤ k) ∧ (0 ≤ x → 0 ≤ kf) ∧ s13 = .int .i64 x ∧ s14 = .int .i64 ((t : Nat) : Int) ∧ Hid (Kp a W wr) ∧ Hid (wr.rowIs W.heap.size 29 6 (f6 5 fa fp (ux : Nat) (uy : Nat) (.slice sA sn sc))) ∧ Hid (AkG D b off n c w wr a kf) ∧ Hid (∀ M : Int, 0 ≤ M → (∀ q, q < m → V q ≤ M) → rk D ux ≤ 1 → rk D uy ≤ 1 → x ≤ M + 1)) (fun _ s14 _ => v - (intOf s14).toNat)
  case atStart => exact ⟨0, x, k2, by omega, HP2.out.1, ⟨HP2.out.2.1.1, by have := HP2.out.2.1.2; omega⟩, HP2.out.2.2.1, rfl, rfl, HK2, HX2, HS2, Lib.hid fun M h0 hM ha hb => (HP2.out.2.2.2 M h0 fun q hq => hM q (by have := HMM.out; omega)).1 ha⟩
  case round =>
    clear HK2 HX2 HS2 HP2 HX HS1 HK1
    obtain ⟨wo, rfl⟩ : ∃ wo : World, wo = wr := ⟨_, rfl⟩
    obtain ⟨t, x, kf, ht, hx1, hkf, hxk, rfl, rfl, HK, HX3, HS, HBD⟩ := hrel
    have HXK := Lib.hid hxk
    clear hxk
    have HR := Lib.hid (HR0.out.kp HK.out HO.out)
    have cav : wo.cell? ⟨g, o + mm, none⟩ = some (.int .i64 (v : Nat)) := by
      obtain ⟨g', o', e, _, h⟩ := HR.out.at_ (show mm < m by have := HMM.out; omega)
      injection e with e
      injection e with e1 e2
      rw [← e1, ← e2] at h
      rw [h]
      show some (Value.int .i64 (V mm)) = _
      rw [HVM.out]
    have lx : W.heap.size < wo.heap.size := HX3.out.lt
    by_cases hlt : t < v
    · have hltI : (t : Int) < (v : Int) := by omega
      by_cases hx0 : 0 ≤ x
      · have wa : IntKind.i64.wrap ((t : Int) + 1) = ((t + 1 : Nat) : Int) := by rw [show (t : Int) + 1 = ((t + 1 : Nat) : Int) by omega]; exact IntWalk.i64_in _ (by omega)
        have hkf0 : 0 ≤ kf := HXK.out hx0
        go_wp2_with fail
        have HS0 : Hid (wo.drew.cell? ⟨W.heap.size, 4, none⟩ = some (.int .i64 (uy : Nat))) := Lib.hid (HX3.out.cell (i := 4) (by omega))
        refine wp_region_any (by kernel_rfl) ?_
        change wpAny _ _ _ _ _ _ _ (World.drew _)
        refine any_of_T (S := fun W' => W'.cell? ⟨W.heap.size, 4, none⟩ = some (.int .i64 (uy : Nat))) (c := 11) _ _ _ _ ?_
        refine anyT_takeY (i := 0) (v := ?_) rfl (by decide +kernel) (by decide +kernel) (by decide +kernel) (by decide +kernel) (fun _ _ _ h => h) (Or.inl ⟨by rfl, ?_⟩) HS0.out ?_
        rotate_left 1
        · intro w _; go_simp; with_reducible rfl
        simp only [Act.put, List.getElem_toArray, List.getElem_cons_zero, List.getElem_cons_succ, List.setIfInBounds_toArray, List.set_cons_zero, List.set_cons_succ]
        refine anyT_takeY (i := 1) (v := ?_) rfl (by decide +kernel) (by decide +kernel) (by decide +kernel) (by decide +kernel) (fun _ _ _ h => h) (Or.inl ⟨by rfl, ?_⟩) HS0.out ?_
        rotate_left 1
        · intro w _; go_simp; with_reducible rfl
        simp only [Act.put, List.getElem_toArray, List.getElem_cons_zero, List.getElem_cons_succ, List.setIfInBounds_toArray, List.set_cons_zero, List.set_cons_succ]
        refine anyT_takeL [11] (i := 2) (v := ?_) rfl (by decide +kernel) (by decide +kernel) (by decide +kernel) (by decide +kernel) (by decide +kernel) (by decide +kernel) (fun _ _ _ h => h) (Or.inl ⟨by rfl, ?_⟩) HS0.out ?_
        rotate_left 1
        · intro w hS; go_simp; with_reducible rfl
        simp only [Act.put, List.getElem_toArray, List.getElem_cons_zero, List.getElem_cons_succ, List.setIfInBounds_toArray, List.set_cons_zero, List.set_cons_succ]
        refine anyT_takeY (i := 3) (v := ?_) rfl (by decide +kernel) (by decide +kernel) (by decide +kernel) (by decide +kernel) (fun _ _ _ h => h) (Or.inl ⟨by rfl, ?_⟩) HS0.out ?_
        rotate_left 1
        · intro w _; go_simp; with_reducible rfl
        simp only [Act.put, List.getElem_toArray, List.getElem_cons_zero, List.getElem_cons_succ, List.setIfInBounds_toArray, List.set_cons_zero, List.set_cons_succ]
        refine anyT_takeY (i := 4) (v := ?_) rfl (by decide +kernel) (by decide +kernel) (by decide +kernel) (by decide +kernel) (fun _ _ _ h => h) (Or.inl ⟨by rfl, ?_⟩) HS0.out ?_
        rotate_left 1
        · intro w _; go_simp; with_reducible rfl
        simp only [Act.put, List.getElem_toArray, List.getElem_cons_zero, List.getElem_cons_succ, List.setIfInBounds_toArray, List.set_cons_zero, List.set_cons_succ]
        refine anyT_takeY (i := 5) (v := ?_) rfl (by decide +kernel) (by decide +kernel) (by decide +kernel) (by decide +kernel) (fun _ _ _ h => h) (Or.inl ⟨by rfl, ?_⟩) HS0.out ?_
        rotate_left 1
        · intro w _; go_simp; with_reducible rfl
        simp only [Act.put, List.getElem_toArray, List.getElem_cons_zero, List.getElem_cons_succ, List.setIfInBounds_toArray, List.set_cons_zero, List.set_cons_succ]
        refine anyT_takeY (i := 7) (v := ?_) rfl (by decide +kernel) (by decide +kernel) (by decide +kernel) (by decide +kernel) (fun _ _ _ h => h) (Or.inl ⟨by rfl, ?_⟩) HS0.out ?_
        rotate_left 1
        · intro w _; go_simp; with_reducible rfl
        simp only [Act.put, List.getElem_toArray, List.getElem_cons_zero, List.getElem_cons_succ, List.setIfInBounds_toArray, List.set_cons_zero, List.set_cons_succ]
        refine anyT_takeY (i := 8) (v := ?_) rfl (by decide +kernel) (by decide +kernel) (by decide +kernel) (by decide +kernel) (fun _ _ _ h => h) (Or.inl ⟨by rfl, ?_⟩) HS0.out ?_
        rotate_left 1
        · intro w _; go_simp; with_reducible rfl
        simp only [Act.put, List.getElem_toArray, List.getElem_cons_zero, List.getElem_cons_succ, List.setIfInBounds_toArray, List.set_cons_zero, List.set_cons_succ]
        refine anyT_two (i := 6) (j := 9) (by decide +kernel) rfl rfl (fun KK hK => ?_) (fun KK hK => ?_)
        · go_simp
          go_at_call 19
          refine (clone_any (some ⟨g, o, none⟩) mm ca V wo.drew (HR.out.le (by have := HMM.out; omega)) (by omega)).mono ?_
          rintro e w3 ⟨A2, c2, rfl, hown, hbl⟩
          have HO2 := Lib.hid hown
          have HB2 := Lib.hid (show Below wo.heap.size wo w3 from ((Below.refl _ _).drew).trans hbl)
          clear hown hbl
          try go_simp
          refine hK.out _ _ (fun _ => (HB2.out.cell (p := ⟨W.heap.size, 4, none⟩) lx).trans HS0.out) ?_
          clear hK KK
          try simp only [Act.put, List.getElem_toArray, List.getElem_cons_zero, List.getElem_cons_succ, List.setIfInBounds_toArray, List.set_cons_zero, List.set_cons_succ]
          refine anyT_one (i := 9) (by decide +kernel) rfl (fun KK hK => ?_)
          go_simp
          have HB2' := Lib.hid (HB2.out.alloc HB2.out.size (.cells #[.int .i64 ((t : Nat) : Int), .int .i64 x] 3))
          refine hK.out _ _ (fun _ => (HB2'.out.cell (p := ⟨W.heap.size, 4, none⟩) lx).trans HS0.out) ?_
          clear hK KK
          try simp only [Act.put, List.getElem_toArray, List.getElem_cons_zero, List.getElem_cons_succ, List.setIfInBounds_toArray, List.set_cons_zero, List.set_cons_succ]
          refine anyT_one (i := 10) (by decide +kernel) rfl (fun KK hK => ?_)
          refine step_app _ rfl (.tmp 108) (.tmp 111) 27 rfl EIc rfl (HO2.out.alloc _) rfl (l := 2) rfl (rd2 w3 _ _ _ (dD ((t : Nat) : Int) x) rfl rfl) (fun q _ => dD_one _ _ q) (by unfold maxLen; omega) (by omega) (by have := HB2'.out.size; simpa using this) (mm + 2) (mm + 2) rfl rfl ?_
          intro A3 c3 w4 hown hg3 hat3 hb3
          have HO3 := Lib.hid hown
          have HB3 := Lib.hid (HB2'.out.trans hb3)
          clear hown hg3 hat3 hb3
          try go_simp
          refine hK.out _ _ (fun _ => (HB3.out.cell (p := ⟨W.heap.size, 4, none⟩) lx).trans HS0.out) ?_
          clear hK KK
          try simp only [Act.put, List.getElem_toArray, List.getElem_cons_zero, List.getElem_cons_succ, List.setIfInBounds_toArray, List.set_cons_zero, List.set_cons_succ]
          refine anyT_one (i := 11) (by decide +kernel) rfl (fun KK hK => ?_)
          go_simp
          go_at_call 15
          have hrd : Rd w4 A3 (mm + 2) (fun q => .int .i64 (if q < mm then V q else if q = mm then ((t : Nat) : Int) else x)) := HO3.out.rd.congr (fun q hq => by
            unfold cat dD
            by_cases e1 : q < mm
            · rw [if_pos e1, if_pos e1]
            · rw [if_neg e1, if_neg e1]
              by_cases e2 : q = mm
              · rw [if_pos e2, if_pos (by omega)]
              · rw [if_neg e2, if_neg (by omega)])
          refine (HIH.out uy hui2 w w4 a kf A3 (mm + 2) c3 (fun q => if q < mm then V q else if q = mm then ((t : Nat) : Int) else x) (by have := HDA.out.2; have := H5.out.1; have := HMM.out; omega) (HS.out.below HB3.out) ⟨by omega, by omega⟩ hrd (HO3.out.off _ (Nat.lt_of_lt_of_le HS.out.row.lt (Nat.le_refl _))) HO3.out.le.1 HO3.out.le.2 (fun q hq => by
            show 0 ≤ (if q < mm then V q else if q = mm then ((t : Nat) : Int) else x) ∧ (if q < mm then V q else if q = mm then ((t : Nat) : Int) else x) ≤ 1000
            split
            · exact HV.out q (by have := HMM.out; omega)
            · split
              · omega
              · omega)).mono ?_
          rintro e w5 ⟨x5, k5, rfl, hs5, hk5, hp5⟩
          have HS5 := Lib.hid hs5
          have HK5 := Lib.hid ((HK.out.trans (Kp.below HB3.out)).trans hk5)
          have HX5 := Lib.hid (row_kp (HX3.out.of_block (HB3.out.block _ lx)) hk5 (by omega))
          have HP5 := Lib.hid hp5
          clear hs5 hk5 hrd hp5
          try go_simp
          refine hK.out _ _ (fun h => absurd h (by decide +kernel)) ?_
          clear hK KK
          try simp only [Act.put, List.getElem_toArray, List.getElem_cons_zero, List.getElem_cons_succ, List.setIfInBounds_toArray, List.set_cons_zero, List.set_cons_succ]
          refine T_of_any _ _ _ _ (by decide +kernel) ?_
          refine wpAny_take (i := 12) (v := ?_) rfl (by kernel_rfl) (by kernel_rfl) (by kernel_rfl) (fun _ _ _ h => h) (Or.inl ⟨by rfl, ?_⟩) ?_
          rotate_left 1
          · intro w; go_simp; with_reducible rfl
          simp only [Act.put, List.getElem_toArray, List.getElem_cons_zero, List.getElem_cons_succ, List.setIfInBounds_toArray, List.set_cons_zero, List.set_cons_succ]
          refine wpAny_done (by decide +kernel) ?_ _
          go_wp2_with fail
          go_roundw
          case rel => exact ⟨t + 1, x5, k5, by omega, HP5.out.1, ⟨HP5.out.2.1.1, by have := HP5.out.2.1.2; omega⟩, HP5.out.2.2.1, rfl, by go_num, HK5, HX5, HS5, Lib.hid fun M h0 hM ha hb => (HP5.out.2.2.2 (M + 1) (by omega) fun q hq => by
            show (if q < mm then V q else if q = mm then ((t : Nat) : Int) else x) ≤ M + 1
            have h1 := hM mm (by have := HMM.out; omega)
            rw [HVM.out] at h1
            have h2 := HBD.out M h0 hM ha hb
            split
            · have := hM q (by have := HMM.out; omega); omega
            · split <;> omega).2.1 hb (by have := HDA.out.2; have := H5.out.1; have := HMM.out; omega)⟩
          case measure => simp [intOf]; omega
        · go_simp
          have HB1' := Lib.hid (((Below.refl wo.heap.size wo.drew).alloc (Nat.le_refl _) (.cells #[.int .i64 ((t : Nat) : Int), .int .i64 x] 3)))
          have HB1 := Lib.hid (show Below wo.heap.size wo _ from ((Below.refl _ _).drew).trans HB1'.out)
          refine hK.out _ _ (fun _ => (HB1.out.cell (p := ⟨W.heap.size, 4, none⟩) lx).trans HS0.out) ?_
          clear hK KK
          try simp only [Act.put, List.getElem_toArray, List.getElem_cons_zero, List.getElem_cons_succ, List.setIfInBounds_toArray, List.set_cons_zero, List.set_cons_succ]
          refine anyT_one (i := 6) (by decide +kernel) rfl (fun KK hK => ?_)
          go_simp
          go_at_call 19
          refine (clone_any (some ⟨g, o, none⟩) mm ca V _ ((HR.out.below HB1.out).le (by have := HMM.out; omega)) (by omega)).mono ?_
          rintro e w3 ⟨A2, c2, rfl, hown, hbl⟩
          have hrd2 := (rd2 wo.drew (.int .i64 ((t : Nat) : Int)) (.int .i64 x) 3 (dD ((t : Nat) : Int) x) rfl rfl).below hbl
          have hown' := hown.base_le HB1.out.size
          have HRD2 := Lib.hid hrd2
          have HO2 := Lib.hid hown'
          have HB2' := Lib.hid (HB1.out.trans (hbl.mono HB1.out.size))
          clear hown hbl hrd2 hown'
          try go_simp
          refine hK.out _ _ (fun _ => (HB2'.out.cell (p := ⟨W.heap.size, 4, none⟩) lx).trans HS0.out) ?_
          clear hK KK
          try simp only [Act.put, List.getElem_toArray, List.getElem_cons_zero, List.getElem_cons_succ, List.setIfInBounds_toArray, List.set_cons_zero, List.set_cons_succ]
          refine anyT_one (i := 10) (by decide +kernel) rfl (fun KK hK => ?_)
          refine step_app _ rfl (.tmp 108) (.tmp 111) 27 rfl EIc rfl HO2.out rfl (l := 2) rfl HRD2.out (fun q _ => dD_one _ _ q) (by unfold maxLen; omega) (by omega) HB2'.out.size (mm + 2) (mm + 2) rfl rfl ?_
          intro A3 c3 w4 hown hg3 hat3 hb3
          have HO3 := Lib.hid hown
          have HB3 := Lib.hid (HB2'.out.trans hb3)
          clear hown hg3 hat3 hb3
          try go_simp
          refine hK.out _ _ (fun _ => (HB3.out.cell (p := ⟨W.heap.size, 4, none⟩) lx).trans HS0.out) ?_
          clear hK KK
          try simp only [Act.put, List.getElem_toArray, List.getElem_cons_zero, List.getElem_cons_succ, List.setIfInBounds_toArray, List.set_cons_zero, List.set_cons_succ]
          refine anyT_one (i := 11) (by decide +kernel) rfl (fun KK hK => ?_)
          go_simp
          go_at_call 15
          have hrd : Rd w4 A3 (mm + 2) (fun q => .int .i64 (if q < mm then V q else if q = mm then ((t : Nat) : Int) else x)) := HO3.out.rd.congr (fun q hq => by
            unfold cat dD
            by_cases e1 : q < mm
            · rw [if_pos e1, if_pos e1]
            · rw [if_neg e1, if_neg e1]
              by_cases e2 : q = mm
              · rw [if_pos e2, if_pos (by omega)]
              · rw [if_neg e2, if_neg (by omega)])
          refine (HIH.out uy hui2 w w4 a kf A3 (mm + 2) c3 (fun q => if q < mm then V q else if q = mm then ((t : Nat) : Int) else x) (by have := HDA.out.2; have := H5.out.1; have := HMM.out; omega) (HS.out.below HB3.out) ⟨by omega, by omega⟩ hrd (HO3.out.off _ (Nat.lt_of_lt_of_le HS.out.row.lt (Nat.le_refl _))) HO3.out.le.1 HO3.out.le.2 (fun q hq => by
            show 0 ≤ (if q < mm then V q else if q = mm then ((t : Nat) : Int) else x) ∧ (if q < mm then V q else if q = mm then ((t : Nat) : Int) else x) ≤ 1000
            split
            · exact HV.out q (by have := HMM.out; omega)
            · split
              · omega
              · omega)).mono ?_
          rintro e w5 ⟨x5, k5, rfl, hs5, hk5, hp5⟩
          have HS5 := Lib.hid hs5
          have HK5 := Lib.hid ((HK.out.trans (Kp.below HB3.out)).trans hk5)
          have HX5 := Lib.hid (row_kp (HX3.out.of_block (HB3.out.block _ lx)) hk5 (by omega))
          have HP5 := Lib.hid hp5
          clear hs5 hk5 hrd hp5
          try go_simp
          refine hK.out _ _ (fun h => absurd h (by decide +kernel)) ?_
          clear hK KK
          try simp only [Act.put, List.getElem_toArray, List.getElem_cons_zero, List.getElem_cons_succ, List.setIfInBounds_toArray, List.set_cons_zero, List.set_cons_succ]
          refine T_of_any _ _ _ _ (by decide +kernel) ?_
          refine wpAny_take (i := 12) (v := ?_) rfl (by kernel_rfl) (by kernel_rfl) (by kernel_rfl) (fun _ _ _ h => h) (Or.inl ⟨by rfl, ?_⟩) ?_
          rotate_left 1
          · intro w; go_simp; with_reducible rfl
          simp only [Act.put, List.getElem_toArray, List.getElem_cons_zero, List.getElem_cons_succ, List.setIfInBounds_toArray, List.set_cons_zero, List.set_cons_succ]
          refine wpAny_done (by decide +kernel) ?_ _
          go_wp2_with fail
          go_roundw
          case rel => exact ⟨t + 1, x5, k5, by omega, HP5.out.1, ⟨HP5.out.2.1.1, by have := HP5.out.2.1.2; omega⟩, HP5.out.2.2.1, rfl, by go_num, HK5, HX5, HS5, Lib.hid fun M h0 hM ha hb => (HP5.out.2.2.2 (M + 1) (by omega) fun q hq => by
            show (if q < mm then V q else if q = mm then ((t : Nat) : Int) else x) ≤ M + 1
            have h1 := hM mm (by have := HMM.out; omega)
            rw [HVM.out] at h1
            have h2 := HBD.out M h0 hM ha hb
            split
            · have := hM q (by have := HMM.out; omega); omega
            · split <;> omega).2.1 hb (by have := HDA.out.2; have := H5.out.1; have := HMM.out; omega)⟩
          case measure => simp [intOf]; omega
      · have hx9 : x < 0 := by omega
        go_wp2_with fail
        go_ret
        exact AskR.of x kf rfl ⟨HS.out, HK.out⟩ (AskP.of5 HOK.out HAL.out HE.out.1 (by omega) (by omega) HXK.out (by rw [HE.out.2.2.2.1, HE.out.2.2.2.2.1]; exact HBD.out))
    · have hltI : ¬ (t : Int) < (v : Int) := by omega
      go_wp2_with fail
      go_ret
      exact AskR.of x kf rfl ⟨HS.out, HK.out⟩ (AskP.of5 HOK.out HAL.out HE.out.1 (by omega) (by omega) HXK.out (by rw [HE.out.2.2.2.1, HE.out.2.2.2.2.1]; exact HBD.out))
end Go.Proofs.Ytjnoolfdlgocjaa
