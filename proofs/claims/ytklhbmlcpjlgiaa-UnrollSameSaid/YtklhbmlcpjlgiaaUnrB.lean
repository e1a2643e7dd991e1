/- What both, some and keep of unroll.build do: one reference to a gate, by its value. Conditions: the builder lies as told. -/
import Derived.Test.YtklhbmlcpjlgiaaTurnSt
import Derived.Deep.DeepMust
import Derived.WalkSpells
import Derived.WalkLawsBesides
namespace Go.Proofs.Ytklhbmlcpjlgiaa
open Go.ChangeShapes Go.WideShapes Go.ChangeAt Go.RowKit Go.Maps
set_option linter.unusedVariables false
set_option linter.unusedSimpArgs false
/-- what a reference says: below 0: never -/
def vx (F : Nat → Int) (g : Nat → Bool) (x : Int) : Bool := if x < 0 then false else val F g x.toNat
theorem vx_neg {F : Nat → Int} {g : Nat → Bool} {x : Int} (h : x < 0) : vx F g x = false := if_pos h
theorem vx_nat (F : Nat → Int) (g : Nat → Bool) (i : Nat) : vx F g (i : Nat) = val F g i := by
  unfold vx; rw [if_neg (by omega)]; rfl
theorem vx_ext {F F' : Nat → Int} {n : Nat} {x : Int} (g : Nat → Bool) (h : ∀ q, q < 3 * n → F' q = F q) (hx : x < n) : vx F' g x = vx F g x := by
  unfold vx
  split
  · rfl
  · exact val_ext g h (by omega)
/-- the builder at block bb has n gates, all of which may be -/
structure BS (W : World) (bb base n K : Nat) (F : Nat → Int) (RR : Nat → Value) : Prop where
  mker : ∃ (A : Option Addr) (c : Nat) (M : Option Nat) (R : Nat → Value), Mk W 52 7 bb base n F A c M R ∧ ∀ j, 2 ≤ j → R j = RR j
  gw : GW (K : Nat) F n
theorem BS.lt {W : World} {bb base n K : Nat} {F : Nat → Int} {RR : Nat → Value} (h : BS W bb base n K F RR) : bb < W.heap.size ∧ base ≤ bb := by
  obtain ⟨A, c, M, R, hm, _⟩ := h.mker
  exact ⟨hm.row.lt, hm.ge⟩
theorem BS.cell {W : World} {bb base n K : Nat} {F : Nat → Int} {RR : Nat → Value} (h : BS W bb base n K F RR) {j : Nat} (h2 : 2 ≤ j) (h7 : j < 7) : W.cell? ⟨bb, j, none⟩ = some (RR j) := by
  obtain ⟨A, c, M, R, hm, hR⟩ := h.mker
  rw [hm.row.cell h7, hR j h2]
theorem BS.below {W W' : World} {bb base n K : Nat} {F : Nat → Int} {RR : Nat → Value} (h : BS W bb base n K F RR) (hb : Below W.heap.size W W') : BS W' bb base n K F RR := by
  obtain ⟨A, c, M, R, hm, hR⟩ := h.mker
  exact ⟨⟨A, c, M, R, hm.below hb, hR⟩, h.gw⟩
/-- the builder goes on from n to n' gates, d more at most -/
structure BT (W W' : World) (bb base n n' K d : Nat) (F F' : Nat → Int) (RR : Nat → Value) : Prop where
  bs : BS W' bb base n' K F' RR
  le : n ≤ n'
  le2 : n' ≤ n + d
  ext : ∀ q, q < 3 * n → F' q = F q
  bel : Below base W W'
  kp : KeepG bb W W'
theorem BT.refl {W : World} {bb base n K : Nat} {F : Nat → Int} {RR : Nat → Value} (h : BS W bb base n K F RR) : BT W W bb base n n K 0 F F RR := ⟨h, Nat.le_refl _, by omega, fun _ _ => rfl, Below.refl _ _, KeepG.refl _ _⟩
theorem BT.more {W W' : World} {bb base n n' K d e : Nat} {F F' : Nat → Int} {RR : Nat → Value} (h : BT W W' bb base n n' K d F F' RR) (he : d ≤ e) : BT W W' bb base n n' K e F F' RR := ⟨h.bs, h.le, by have := h.le2; omega, h.ext, h.bel, h.kp⟩
theorem BT.trans {W W1 W2 : World} {bb base n n1 n2 K d e : Nat} {F F1 F2 : Nat → Int} {RR : Nat → Value} (h : BT W W1 bb base n n1 K d F F1 RR) (k : BT W1 W2 bb base n1 n2 K e F1 F2 RR) : BT W W2 bb base n n2 K (d + e) F F2 RR :=
  ⟨k.bs, by have := h.le; have := k.le; omega, by have := h.le2; have := k.le2; omega, fun q hq => by rw [k.ext q (by have := h.le; omega), h.ext q hq], h.bel.trans k.bel, h.kp.trans k.kp⟩
theorem BT.vx {W W' : World} {bb base n n' K d : Nat} {F F' : Nat → Int} {RR : Nat → Value} (h : BT W W' bb base n n' K d F F' RR) (g : Nat → Bool) {x : Int} (hx : x < n) : vx F' g x = vx F g x := vx_ext g h.ext hx
/-- rows of one's own stay -/
theorem BT.own {W W' : World} {bb base n n' K d : Nat} {F F' : Nat → Int} {RR : Nat → Value} (h : BT W W' bb base n n' K d F F' RR) (hb : BS W bb base n K F RR) {b s : Nat} {e : TypeId} {A : Option Addr} {m c k : Nat} {C : Nat → Value} (ho : Own W b e s A m c k C) (he : e ≠ 59) (he2 : e ≠ 52) : Own W' b e s A m c k C := by
  obtain ⟨A0, c0, M0, R0, hm, hR⟩ := hb.mker
  exact ho.keepG h.kp he (fun g hg e' => ho.sepT hm.row (fun e'' => he2 e''.symm) g hg e')
theorem intB : (3 : TypeId) ≠ 52 := by decide
/-- Put, by the values -/
theorem put_b {W : World} {bb base n K : Nat} {F : Nat → Int} {RR : Nat → Value} (h : BS W bb base n K F RR) (hn : n ≤ 100000) (hK : K ≤ 100) (kd a b : Int) (h1 : 1 ≤ kd ∧ kd ≤ 4) (h2 : kd = 1 → 0 ≤ a ∧ a < K) (h3 : 1 < kd → 0 ≤ a ∧ a < n) (h4 : 2 < kd → 0 ≤ b ∧ b < n) (h5 : kd ≤ 2 → b = 0) :
    Calls Try.prog 14 #[.pointer (some ⟨bb, 0, none⟩), .int .i64 kd, .int .i64 a, .int .i64 b] W fun e w' => ∃ (i n' : Nat) (F' : Nat → Int), e = .returned (.int .i64 (i : Nat)) ∧ BT W w' bb base n n' K 1 F F' RR ∧ i < n' ∧
      ∀ g, (kd = 1 → val F' g i = g a.toNat) ∧ (kd = 2 → val F' g i = !(vx F g a)) ∧ (kd = 3 → val F' g i = (vx F g a && vx F g b)) ∧ (kd = 4 → val F' g i = (vx F g a || vx F g b)) := by
  obtain ⟨A, c, M, R, hm, hR⟩ := h.mker
  have hab : (0 ≤ a ∧ a ≤ 200000) ∧ (0 ≤ b ∧ b ≤ 200000) := by
    have hk : kd = 1 ∨ 1 < kd := by omega
    have hk2 : kd ≤ 2 ∨ 2 < kd := by omega
    rcases hk with e | e <;> rcases hk2 with e2 | e2
    · have := h2 e; have := h5 e2; omega
    · omega
    · have := h3 e; have := h5 e2; omega
    · have := h3 e; have := h4 e2; omega
  have wfi : ∀ x : Int, 0 ≤ x ∧ x ≤ 200000 → (Lit.int .i64 x).wf = true := fun x hx => by simp [Lit.wf, IntKind.min, IntKind.max, IntKind.signed, IntKind.bits]; omega
  refine (put_any (kd := kd) (a := a) (b := b) W hm (by omega) (wfi _ (by omega)) (wfi _ hab.1) (wfi _ hab.2)).mono ?_
  intro e w' hp
  obtain ⟨i, n', F', A', c', M', R', rfl, pg, hm', hR', hbl, hk⟩ := hp.g
  have hgw : GW (K : Nat) F' n' := pg.gw h.gw h1 h2 h3 h4
  have hval := pg.val hgw
  refine ⟨i, n', F', rfl, ⟨⟨⟨A', c', M', R', hm', fun j hj => by rw [hR' j hj, hR j hj]⟩, hgw⟩, pg.le, pg.le1, pg.ext, hbl, hm.keepG hk⟩, pg.lt, fun g => ?_⟩
  have e1 : ∀ x : Int, 0 ≤ x ∧ x < n → val F' g x.toNat = vx F g x := fun x hx => by
    unfold vx; rw [if_neg (by omega)]; exact pg.old g (by omega)
  obtain ⟨v1, v2, v3, v4⟩ := hval g
  refine ⟨v1, fun e => ?_, fun e => ?_, fun e => ?_⟩
  · rw [v2 e, e1 a (h3 (by omega))]
  · rw [v3 e, e1 a (h3 (by omega)), e1 b (h4 (by omega))]
  · rw [v4 e, e1 a (h3 (by omega)), e1 b (h4 (by omega))]
/-- a reference comes back that says p -/
def RefR (W : World) (bb base n K d : Nat) (F : Nat → Int) (RR : Nat → Value) (p : (Nat → Bool) → Bool) (e : Ending) (w' : World) : Prop :=
  ∃ (z : Int) (n' : Nat) (F' : Nat → Int), e = .returned (.int .i64 z) ∧ BT W w' bb base n n' K d F F' RR ∧ (-1 ≤ z ∧ z < n') ∧ ∀ g, vx F' g z = p g
theorem RefR.of {W : World} {bb base n K d : Nat} {F : Nat → Int} {RR : Nat → Value} {p : (Nat → Bool) → Bool} {e : Ending} {w' : World} (z : Int) (n' : Nat) (F' : Nat → Int) (h : e = .returned (.int .i64 z)) (h1 : BT W w' bb base n n' K d F F' RR) (h2 : -1 ≤ z ∧ z < n') (h3 : ∀ g, vx F' g z = p g) : RefR W bb base n K d F RR p e w' := ⟨z, n', F', h, h1, h2, h3⟩
set_option maxRecDepth 100000 in
theorem both_any {W : World} {bb base n K : Nat} {F : Nat → Int} {RR : Nat → Value} (h : BS W bb base n K F RR) (hn : n ≤ 100000) (hK : K ≤ 100) (x y : Int) (hx : -1 ≤ x ∧ x < n) (hy : -1 ≤ y ∧ y < n) :
    Calls Try.prog 17 #[.pointer (some ⟨bb, 0, none⟩), .int .i64 x, .int .i64 y] W (RefR W bb base n K 1 F RR fun g => vx F g x && vx F g y) := by
  have H := Lib.hid h
  clear h
  by_cases h1 : x < 0
  · have HV : Hid (∀ g, vx F g (-1) = (vx F g x && vx F g y)) := Lib.hid fun g => by rw [vx_neg h1, vx_neg (by omega)]; rfl
    go_enter Try.func17, Try.ntmps17
    go_wp2_with fail
    go_ret
    exact RefR.of (-1) n F rfl ((BT.refl H.out).more (by omega)) (by omega) HV.out
  by_cases h2 : y < 0
  · have HV : Hid (∀ g, vx F g (-1) = (vx F g x && vx F g y)) := Lib.hid fun g => by rw [vx_neg h2, vx_neg (by omega)]; simp
    go_enter Try.func17, Try.ntmps17
    go_wp2_with fail
    go_ret
    exact RefR.of (-1) n F rfl ((BT.refl H.out).more (by omega)) (by omega) HV.out
  go_enter Try.func17, Try.ntmps17
  go_wp2_with fail
  refine (put_b H.out hn hK 3 x y (by omega) (by omega) (by omega) (by omega) (by omega)).mono ?_
  rintro e w' ⟨i, n', F', rfl, hbt, hi, hv⟩
  have HBT := Lib.hid hbt
  have HV := Lib.hid hv
  clear hbt hv
  go_wp2_with fail
  go_ret
  exact RefR.of (i : Nat) n' F' rfl HBT.out (by omega) fun g => by rw [vx_nat]; exact (HV.out g).2.2.1 (by trivial)
set_option maxRecDepth 100000 in
theorem keep_any {W : World} {bb base n K : Nat} {F : Nat → Int} {RR : Nat → Value} (h : BS W bb base n K F RR) (hn : n ≤ 90000) (hK : K ≤ 100) (x y : Int) (hx : -1 ≤ x ∧ x < n) (hy : -1 ≤ y ∧ y < n) :
    Calls Try.prog 24 #[.pointer (some ⟨bb, 0, none⟩), .int .i64 x, .int .i64 y] W (RefR W bb base n K 2 F RR fun g => vx F g x && !(vx F g y)) := by
  have H := Lib.hid h
  clear h
  by_cases h2 : y < 0
  · have HV : Hid (∀ g, vx F g x = (vx F g x && !(vx F g y))) := Lib.hid fun g => by rw [vx_neg h2]; simp
    go_enter Try.func24, Try.ntmps24
    go_wp2_with fail
    go_ret
    exact RefR.of x n F rfl ((BT.refl H.out).more (by omega)) (by omega) HV.out
  go_enter Try.func24, Try.ntmps24
  go_wp2_with fail
  refine (put_b H.out (by omega) hK 2 y 0 (by omega) (by omega) (by omega) (by omega) (by omega)).mono ?_
  rintro e w1 ⟨i, n1, F1, rfl, hbt, hi, hv⟩
  have HBT := Lib.hid hbt
  have HV := Lib.hid hv
  have hle := hbt.le
  have hle2 := hbt.le2
  clear hbt hv
  go_wp2_with fail
  refine (both_any HBT.out.bs (by omega) hK x (i : Nat) (by omega) (by omega)).mono ?_
  rintro e w2 ⟨z, n2, F2, rfl, hbt2, hz, hv2⟩
  have HBT2 := Lib.hid hbt2
  have HV2 := Lib.hid hv2
  clear hbt2 hv2
  go_wp2_with fail
  go_ret
  exact RefR.of z n2 F2 rfl (HBT.out.trans HBT2.out) hz fun g => by rw [HV2.out g, vx_nat, (HV.out g).2.1 (by trivial), HBT.out.vx g hx.2]
/-- is one of the first m references so -/
def orV (F : Nat → Int) (g : Nat → Bool) (f : Nat → Int) : Nat → Bool
  | 0 => false
  | t + 1 => orV F g f t || vx F g (f t)
set_option maxRecDepth 100000 in
set_option maxHeartbeats 1000000 in
theorem some_any {W : World} {bb base n K : Nat} {F : Nat → Int} {RR : Nat → Value} (h : BS W bb base n K F RR) (hn : n ≤ 50000) (hK : K ≤ 100) (A : Option Addr) (m c lb : Nat) (f : Nat → Int) (ho : Own W lb 3 1 A m c m (fun q => .int .i64 (f q))) (hm : m ≤ 1000) (hf : ∀ q, q < m → -1 ≤ f q ∧ f q < n) :
    Calls Try.prog 18 #[.pointer (some ⟨bb, 0, none⟩), .slice A m c] W (RefR W bb base n K m F RR fun g => orV F g f m) := by
  have H := Lib.hid h
  have HO := Lib.hid ho
  have HF := Lib.hid hf
  clear h ho hf
  go_enter Try.func18, Try.ntmps18
  go_wp2_with fail
  go_loopw [5, 10] (fun s5 s10 wr => ∃ (t n' : Nat) (z : Int) (F' : Nat → Int), t ≤ m ∧ s10 = .int .i64 (t : Nat) ∧ s5 = .int .i64 z ∧ (-1 ≤ z ∧ z < n') ∧ n' ≤ n + t ∧ n ≤ n' ∧ Hid (BT W wr bb base n n' K t F F' RR) ∧ Hid (∀ g, vx F' g z = orV F g f t)) (fun _ s10 _ => m - (intOf s10).toNat)
  case atStart => exact ⟨0, n, -1, F, Nat.zero_le _, rfl, rfl, by omega, by omega, by omega, Lib.hid (BT.refl H.out), Lib.hid fun g => vx_neg (by omega)⟩
  case round =>
    obtain ⟨wo, hwo⟩ : ∃ wo : World, wo = wr := ⟨_, rfl⟩
    subst hwo
    obtain ⟨t, n', z, F', ht, rfl, rfl, hz, hn1, hn2, HBT, HV⟩ := hrel
    by_cases hlt : t < m
    · obtain ⟨b', o', e', lb', hc⟩ := (HBT.out.own H.out HO.out intG intB).rd.at_ hlt
      subst e'
      obtain ⟨y, hy⟩ : ∃ y, y = f t := ⟨_, rfl⟩
      rw [← hy] at hc
      have hyb := HF.out t hlt
      rw [← hy] at hyb
      have HY := Lib.hid hy
      clear hy
      by_cases hy0 : y < 0
      · go_wp2_with fail
        go_roundw
        case rel => exact ⟨t + 1, n', z, F', by omega, by go_num, rfl, hz, by omega, hn2, Lib.hid (HBT.out.more (by omega)), Lib.hid fun g => by
          show _ = (orV F g f t || vx F g (f t))
          rw [HV.out g, ← HY.out, vx_neg hy0]; simp⟩
        case measure => simp [intOf]; omega
      · by_cases hz0 : z < 0
        · go_wp2_with fail
          go_roundw
          case rel => exact ⟨t + 1, n', y, F', by omega, by go_num, rfl, by omega, by omega, hn2, Lib.hid (HBT.out.more (by omega)), Lib.hid fun g => by
            show _ = (orV F g f t || vx F g (f t))
            rw [← HV.out g, vx_neg hz0, ← HY.out, HBT.out.vx g hyb.2]; simp⟩
          case measure => simp [intOf]; omega
        · go_wp2_with fail
          refine (put_b HBT.out.bs (by omega) hK 4 z y (by omega) (by omega) (by omega) (by omega) (by omega)).mono ?_
          rintro e w2 ⟨i, n2, F2, rfl, hbt2, hi, hv2⟩
          have HBT2 := Lib.hid hbt2
          have HV2 := Lib.hid hv2
          have hle := hbt2.le
          have hle2 := hbt2.le2
          clear hbt2 hv2
          go_wp2_with fail
          go_roundw
          case rel => exact ⟨t + 1, n2, (i : Nat), F2, by omega, by go_num, rfl, by omega, by omega, by omega, Lib.hid (HBT.out.trans HBT2.out), Lib.hid fun g => by
            show _ = (orV F g f t || vx F g (f t))
            rw [vx_nat, (HV2.out g).2.2.2 (by trivial), HV.out g, ← HY.out, HBT.out.vx g hyb.2]⟩
          case measure => simp [intOf]; omega
    · have hte : t = m := by omega
      have htI : ¬ (t : Int) < (m : Int) := by omega
      have HBM : Hid (BT W wo bb base n n' K m F F' RR) := Lib.hid (HBT.out.more ht)
      have HVM : Hid (∀ g, vx F' g z = orV F g f m) := Lib.hid (hte ▸ HV.out)
      clear hte
      go_wp2_with fail
      go_ret
      exact RefR.of z n' F' rfl HBM.out hz HVM.out
end Go.Proofs.Ytklhbmlcpjlgiaa
