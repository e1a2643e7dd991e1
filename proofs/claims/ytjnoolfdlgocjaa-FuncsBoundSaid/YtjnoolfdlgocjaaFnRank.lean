/- funcs.Rank, general. Condition: the list reads as told. -/
import Derived.Test.YtjnoolfdlgocjaaFnCheck
import Derived.Test.YtjnoolfdlgocjaaFnRk
import Derived.Test.YtjnoolfdlgocjaaClone
import Derived.Test.YtjnoolfdlgocjaaRow
import Derived.Deep.RegionLaw
import Derived.IntWalk
import Derived.BigQuiet
namespace Go.Proofs.Ytjnoolfdlgocjaa
open Go.ChangeShapes Go.WideShapes Go.ChangeAt Go.RowKit
set_option linter.unusedVariables false
set_option linter.unusedSimpArgs false
theorem upR_congr {R R' : Nat → Int} {f : Nat → Int} {r : Int} {n : Nat} (h : ∀ q, q < n → R (f q).toNat = R' (f q).toNat) : upR R f r n = upR R' f r n := by
  induction n with
  | zero => rfl
  | succ n ih =>
    show (if upR R f r n < R (f n).toNat + 2 then R (f n).toNat + 2 else upR R f r n) = (if upR R' f r n < R' (f n).toNat + 2 then R' (f n).toNat + 2 else upR R' f r n)
    rw [ih fun q hq => h q (by omega), h n (by omega)]
theorem upR_step (R : Nat → Int) (f : Nat → Int) (r : Int) (n : Nat) : upR R f r (n + 1) = if upR R f r n < R (f n).toNat + 2 then R (f n).toNat + 2 else upR R f r n := rfl
theorem rk_4eq {D : Nat → SF} {i : Nat} (h : okFn D i) (k : (D i).k = 4) : rk D i = upR (rk D) (D i).s.f (rk D (D i).x.toNat + 2) (D i).s.n := by
  obtain ⟨_, hx, hs⟩ := h.2.2.2.2.1 k
  rw [rk_eq, rkS, if_pos k, rkT_rk D i _ (by omega)]
  exact upR_congr fun q hq => rkT_rk D i _ (by have := hs q hq; omega)
theorem Rd.oneV (W : World) (v : Value) (e : TypeId) (K : Nat) (hK : W.heap.size = K) : Rd (W.alloc (.cells #[v] e)) (some ⟨K, 0, none⟩) 1 (fun _ => v) := by
  subst hK; exact Rd.one W v e
theorem Own.fit {w : World} {base : Nat} {A : Option Addr} {n c : Nat} {C D : Nat → Value} (h : Own w base 3 1 A n c n C) (e : ∀ i, i < n → C i = D i) : Own w base 3 1 A n c n D := h.congr e
def RaR (D : Nat → SF) (n : Nat) (e : Ending) : Prop := ∃ z e1, e = .returned (.tuple #[.int .i64 z, .int .i64 e1]) ∧ (¬ okFs D n → e1 ≠ 0) ∧ (okFs D n → z = rk D (n - 1) ∧ e1 = 0)
set_option maxRecDepth 100000 in
set_option maxHeartbeats 4000000 in
theorem rankG_any (D : Nat → SF) (A : Option Addr) (n c : Nat) (W : World) (hn : n ≤ maxLen) (hr : Rd W A (n * 6) (fcF D)) (hg : ∀ i, (D i).good W) :
    Calls Try.prog 9 #[.slice A n c] W fun e w' => RaR D n e ∧ Below W.heap.size W w' := by
  have HR := Lib.hid hr
  have HG := Lib.hid hg
  have HN := Lib.hid hn
  unfold maxLen at hn
  clear hr hg
  go_enter Try.func9, Try.ntmps9
  go_wp2_with fail
  refine (fcheckG_any D A n c W HN.out HR.out HG.out).mono ?_
  rintro e w2 ⟨⟨z, rfl, hz⟩, hb2⟩
  have HZ := Lib.hid hz
  have HB2 := Lib.hid hb2
  clear hz hb2
  by_cases z0 : z = 0
  case neg =>
    have zb : (z != 0) = true := by simp [z0]
    have HZ0 := Lib.hid z0
    clear z0
    go_wp2_with fail
    go_ret2
    exact ⟨⟨0, z, rfl, fun _ => HZ0.out, fun h => absurd (HZ.out.2 h) HZ0.out⟩, HB2.out⟩
  subst z0
  have hok := HZ.out.1 rfl
  have HOK := Lib.hid hok
  have hn0 : 0 < n := by have := hok.1; omega
  have hn12 : n ≤ 12 := hok.2.1
  obtain ⟨b, off, rfl, hlb, _⟩ := HR.out.at_ (show 0 < n * 6 by omega)
  have HR2 := Lib.hid (HR.out.below HB2.out)
  have HRK : Hid (∀ j, j < n → 1 ≤ rk D j ∧ rk D j ≤ 40) := Lib.hid fun j hj => by have := rk_of hok.2.2 j hj; omega
  clear hok HZ
  go_wp2_with fail
  go_loopw [5, 18] (fun s5 s18 wr => ∃ (t : Nat) (S : Option Addr) (sc : Nat), t ≤ n ∧ s18 = .int .i64 (t : Nat) ∧ s5 = .slice S t sc ∧ Hid (Own wr w2.heap.size 3 1 S t sc t (fun q => .int .i64 (rk D q))) ∧ Hid (Below w2.heap.size w2 wr)) (fun _ s18 _ => n - (intOf s18).toNat)
  case atStart => exact ⟨0, none, 0, by omega, rfl, rfl, Lib.hid (Own.nil _ _ _ _ _), Lib.hid (Below.refl _ _)⟩
  case round =>
    obtain ⟨wo, rfl⟩ : ∃ wo : World, wo = wr := ⟨_, rfl⟩
    obtain ⟨t, S, sc, ht, rfl, rfl, HO, HB⟩ := hrel
    have hzo := HB.out.size
    by_cases hlt : t < n
    · have HRo := Lib.hid (HR2.out.below HB.out)
      obtain ⟨c0, c1, c2, c3, c4, c5⟩ := fc_at HRo.out hlt
      have lb : b < wo.heap.size := by have := HB2.out.size; omega
      obtain ⟨f, hf⟩ : ∃ f, f = D t := ⟨_, rfl⟩
      have hsg := ((HG.out t).below (HB2.out.trans (HB.out.mono HB2.out.size))).2
      rw [← hf] at c0 c1 c2 c3 c4 c5 hsg
      obtain ⟨fk, fa, fp, fx, fy, ⟨sA, sn, fc, sf⟩⟩ := f
      change _ = some (Value.slice sA sn fc) at c5
      simp only [] at c0 c1 c2 c3 c4
      obtain ⟨hsr, _, hsl, hsm⟩ := hsg
      change Rd wo sA sn (fun i => .int .i64 (sf i)) at hsr
      change sn ≤ fc at hsl
      change fc ≤ maxLen at hsm
      unfold maxLen at hsm
      have HSR := Lib.hid hsr
      have e0 : (D t).k = fk := by rw [← hf]
      have e1 : (D t).x = fx := by rw [← hf]
      have e2 : (D t).y = fy := by rw [← hf]
      have e3 : (D t).s.n = sn := by rw [← hf]
      have e4 : (D t).s.f = sf := by rw [← hf]
      have hokt := HOK.out.2.2 t hlt
      have HOKT := Lib.hid hokt
      have h4 := hokt.2.2.2.2.1
      have h5 := hokt.2.2.2.2.2
      rw [e0, e1, e3, e4] at h4
      rw [e0, e1, e2] at h5
      have hk := hokt.1
      rw [e0] at hk
      have HE := Lib.hid (And.intro e0 (And.intro e1 (And.intro e2 (And.intro e3 e4))))
      have H4 := Lib.hid h4
      have H5 := Lib.hid h5
      clear hsr hokt h4 h5 e0 e1 e2 e3 e4 hf
      obtain ⟨RC, hRC⟩ : ∃ RC, RC = (Obj.cells #[.int .i64 fk, .int .i64 fa, .int .i64 fp, .int .i64 fx, .int .i64 fy, .slice sA sn fc] 29) := ⟨_, rfl⟩
      have HO1 := Lib.hid (HO.out.alloc RC)
      have HBa := Lib.hid (HB.out.alloc hzo RC)
      have HS1 : Hid (Rd (wo.alloc RC) sA sn (fun i => .int .i64 (sf i))) := Lib.hid (HSR.out.alloc RC)
      rw [hRC] at HO1 HBa HS1
      clear hRC
      by_cases k4 : fk = 4
      case neg =>
        by_cases k5 : fk = 5
        case neg =>
          have n4 : (fk == 4) = false := beq_eq_false_iff_ne.2 k4
          have n5 : (fk == 5) = false := beq_eq_false_iff_ne.2 k5
          go_wp2_with (at_builtin; go_loud ( refine wpList_app _ rfl (.tmp 61) (.tmp 63) 27 rfl EIc rfl ((HO1.out.alloc _)) rfl (l := 1) (by omega) ((Rd.oneV (wo.alloc (.cells #[.int .i64 fk, .int .i64 fa, .int .i64 fp, .int .i64 fx, .int .i64 fy, .slice sA sn fc] 29)) (.int .i64 1) 3 (wo.heap.size + 1) (by simp))) (fun _ _ => rfl) (by unfold maxLen; omega) (by omega) ((HBa.out.alloc HBa.out.size (.cells #[.int .i64 1] 3)).size) (t + 1) (t + 1) rfl rfl ?_; intro A2 c2 w3 hown2 hg2 hat2 hbl2; have HOW := Lib.hid hown2; have HB3 := Lib.hid ((HBa.out.alloc HBa.out.size (.cells #[.int .i64 1] 3)).trans hbl2); clear hown2 hg2 hat2 hbl2))
          go_roundw
          case rel => exact ⟨t + 1, _, _, by omega, by go_num, rfl, Lib.hid (HOW.out.fit fun q hq => by
            rcases Nat.lt_or_ge q t with hq' | hq'
            · rw [cat_lt hq']
            · obtain rfl : q = t := by omega
              rw [cat_ge (Nat.le_refl _), rk_1 (by rw [HE.out.1]; exact k4) (by rw [HE.out.1]; exact k5)]), HB3⟩
          case measure => simp [intOf]; omega
        case pos =>
          subst k5
          obtain ⟨ux, hux⟩ : ∃ ux : Nat, fx = ux := ⟨fx.toNat, by have := (H5.out rfl).2.1; omega⟩
          obtain ⟨uy, huy⟩ : ∃ uy : Nat, fy = uy := ⟨fy.toNat, by have := (H5.out rfl).2.2; omega⟩
          subst hux
          subst huy
          have hui : ux < t := by have := (H5.out rfl).2.1; omega
          have hui2 : uy < t := by have := (H5.out rfl).2.2; omega
          have huI : (ux : Int) < (t : Int) := by omega
          have huI2 : (uy : Int) < (t : Int) := by omega
          obtain ⟨g, F, rfl, hg, hrow, hcc, hFF⟩ := HO1.out.row (by omega)
          obtain ⟨rx, hrx⟩ : ∃ z, z = rk D ux := ⟨_, rfl⟩
          obtain ⟨ry, hry⟩ : ∃ z, z = rk D uy := ⟨_, rfl⟩
          have bx : 1 ≤ rx ∧ rx ≤ 40 := by rw [hrx]; exact HRK.out ux (by omega)
          have by' : 1 ≤ ry ∧ ry ≤ 40 := by rw [hry]; exact HRK.out uy (by omega)
          have r0 : (wo.alloc (.cells #[.int .i64 5, .int .i64 fa, .int .i64 fp, .int .i64 (ux : Nat), .int .i64 (uy : Nat), .slice sA sn fc] 29)).cell? ⟨g, ux, none⟩ = some (.int .i64 rx) := by have := hrow.cell (i := ux) (by omega); rw [hFF ux (by omega)] at this; rw [hrx]; exact this
          have r1 : (wo.alloc (.cells #[.int .i64 5, .int .i64 fa, .int .i64 fp, .int .i64 (ux : Nat), .int .i64 (uy : Nat), .slice sA sn fc] 29)).cell? ⟨g, uy, none⟩ = some (.int .i64 ry) := by have := hrow.cell (i := uy) (by omega); rw [hFF uy (by omega)] at this; rw [hry]; exact this
          have HRX := Lib.hid hrx
          have HRY := Lib.hid hry
          clear hrow hFF hrx hry
          by_cases hm : rx < ry
          · have HRV : Hid (rk D t = ry + 3) := Lib.hid (by
              rw [rk_5 HOKT.out HE.out.1, HE.out.2.1, HE.out.2.2.1]
              show (if rk D ux < rk D uy then rk D uy else rk D ux) + 3 = _
              rw [← HRX.out, ← HRY.out, if_pos hm])
            go_wp2_with fail
            go_region
            go_wp2_with (at_builtin; go_loud ( refine wpList_app _ rfl (.tmp 61) (.tmp 63) 27 rfl EIc rfl ((HO1.out.alloc _).drew) rfl (l := 1) (by omega) ((Rd.oneV (wo.alloc (.cells #[.int .i64 5, .int .i64 fa, .int .i64 fp, .int .i64 (ux : Nat), .int .i64 (uy : Nat), .slice sA sn fc] 29)) (.int .i64 (ry + 3)) 3 (wo.heap.size + 1) (by simp)).drew) (fun _ _ => rfl) (by unfold maxLen; omega) (by omega) ((HBa.out.alloc HBa.out.size (.cells #[.int .i64 (ry + 3)] 3)).size) (t + 1) (t + 1) rfl rfl ?_; intro A2 c2 w3 hown2 hg2 hat2 hbl2; have HOW := Lib.hid hown2; have HB3 := Lib.hid ((HBa.out.alloc HBa.out.size (.cells #[.int .i64 (ry + 3)] 3)).drew.trans hbl2); clear hown2 hg2 hat2 hbl2))
            go_roundw
            case rel => exact ⟨t + 1, _, _, by omega, by go_num, rfl, Lib.hid (HOW.out.fit fun q hq => by
              rcases Nat.lt_or_ge q t with hq' | hq'
              · rw [cat_lt hq']
              · obtain rfl : q = t := by omega
                rw [cat_ge (Nat.le_refl _), HRV.out]), HB3⟩
            case measure => simp [intOf]; omega
          · have HRV : Hid (rk D t = rx + 3) := Lib.hid (by
              rw [rk_5 HOKT.out HE.out.1, HE.out.2.1, HE.out.2.2.1]
              show (if rk D ux < rk D uy then rk D uy else rk D ux) + 3 = _
              rw [← HRX.out, ← HRY.out, if_neg hm])
            go_wp2_with fail
            go_region
            go_wp2_with (at_builtin; go_loud ( refine wpList_app _ rfl (.tmp 61) (.tmp 63) 27 rfl EIc rfl ((HO1.out.alloc _).drew) rfl (l := 1) (by omega) ((Rd.oneV (wo.alloc (.cells #[.int .i64 5, .int .i64 fa, .int .i64 fp, .int .i64 (ux : Nat), .int .i64 (uy : Nat), .slice sA sn fc] 29)) (.int .i64 (rx + 3)) 3 (wo.heap.size + 1) (by simp)).drew) (fun _ _ => rfl) (by unfold maxLen; omega) (by omega) ((HBa.out.alloc HBa.out.size (.cells #[.int .i64 (rx + 3)] 3)).size) (t + 1) (t + 1) rfl rfl ?_; intro A2 c2 w3 hown2 hg2 hat2 hbl2; have HOW := Lib.hid hown2; have HB3 := Lib.hid ((HBa.out.alloc HBa.out.size (.cells #[.int .i64 (rx + 3)] 3)).drew.trans hbl2); clear hown2 hg2 hat2 hbl2))
            go_roundw
            case rel => exact ⟨t + 1, _, _, by omega, by go_num, rfl, Lib.hid (HOW.out.fit fun q hq => by
              rcases Nat.lt_or_ge q t with hq' | hq'
              · rw [cat_lt hq']
              · obtain rfl : q = t := by omega
                rw [cat_ge (Nat.le_refl _), HRV.out]), HB3⟩
            case measure => simp [intOf]; omega
      case pos =>
        subst k4
        obtain ⟨ux, hux⟩ : ∃ ux : Nat, fx = ux := ⟨fx.toNat, by have := (H4.out rfl).2.1; omega⟩
        subst hux
        have H4V := Lib.hid (H4.out rfl)
        clear H4
        have hui : ux < t := by have := H4V.out.2.1; omega
        have huI : (ux : Int) < (t : Int) := by omega
        have hsn4 : sn ≤ 4 := H4V.out.1
        obtain ⟨g, F, rfl, hg, hrow, hcc, hFF⟩ := HO1.out.row (by omega)
        obtain ⟨rx, hrx⟩ : ∃ z, z = rk D ux := ⟨_, rfl⟩
        have bx : 1 ≤ rx ∧ rx ≤ 40 := by rw [hrx]; exact HRK.out ux (by omega)
        have r0 : (wo.alloc (.cells #[.int .i64 4, .int .i64 fa, .int .i64 fp, .int .i64 (ux : Nat), .int .i64 fy, .slice sA sn fc] 29)).cell? ⟨g, ux, none⟩ = some (.int .i64 rx) := by have := hrow.cell (i := ux) (by omega); rw [hFF ux (by omega)] at this; rw [hrx]; exact this
        have HRW : Hid (∀ j, j < t → (wo.alloc (.cells #[.int .i64 4, .int .i64 fa, .int .i64 fp, .int .i64 (ux : Nat), .int .i64 fy, .slice sA sn fc] 29)).cell? ⟨g, j, none⟩ = some (.int .i64 (rk D j))) := Lib.hid fun j hj => by have := hrow.cell (i := j) (by omega); rw [hFF j (by omega)] at this; exact this
        have m0 : wo.heap.size < (wo.alloc (.cells #[.int .i64 4, .int .i64 fa, .int .i64 fp, .int .i64 (ux : Nat), .int .i64 fy, .slice sA sn fc] 29)).heap.size := by simp
        have HRV : Hid (rk D t = upR (rk D) sf (rx + 2) sn) := Lib.hid (by
          rw [rk_4eq HOKT.out HE.out.1, HE.out.2.1, HE.out.2.2.2.1, HE.out.2.2.2.2, hrx]
          rfl)
        have HBU : Hid (∀ q, q ≤ sn → 1 ≤ upR (rk D) sf (rx + 2) q ∧ upR (rk D) sf (rx + 2) q ≤ 50) := Lib.hid fun q hq => by
          refine ⟨by have := (upR_ge (rk D) sf (rx + 2) q).1; omega, upR_le _ _ _ _ _ (by omega) fun j hj => ?_⟩
          have h1 := H4V.out.2.2 j (by omega)
          have := HRK.out (sf j).toNat (by omega)
          omega
        clear hrow hFF hrx
        go_wp2_with fail
        go_loop [8, 35] (fun s8 s35 => ∃ (q : Nat) (r : Int), q ≤ sn ∧ (1 ≤ r ∧ r ≤ 50) ∧ Hid (r = upR (rk D) sf (rx + 2) q) ∧ s8 = .int .i64 r ∧ s35 = .int .i64 (q : Nat)) (fun _ s35 => sn - (intOf s35).toNat)
        case atStart => exact ⟨0, rx + 2, by omega, ⟨by omega, by omega⟩, Lib.hid rfl, by go_num, rfl⟩
        case round =>
          obtain ⟨q, r, hq, hr, HRQ, rfl, rfl⟩ := hrel
          by_cases hqs : q < sn
          · obtain ⟨b', o', e', lb', hc⟩ := HS1.out.at_ hqs
            subst e'
            obtain ⟨j, hj⟩ : ∃ j : Nat, sf q = j := ⟨(sf q).toNat, by have := H4V.out.2.2 q hqs; omega⟩
            have hjt : j < t := by have := H4V.out.2.2 q hqs; omega
            have hjI : (j : Int) < (t : Int) := by omega
            rw [hj] at hc
            obtain ⟨rj, hrj⟩ : ∃ z, z = rk D j := ⟨_, rfl⟩
            have bj : 1 ≤ rj ∧ rj ≤ 40 := by rw [hrj]; exact HRK.out j (by omega)
            have rc := HRW.out j hjt
            rw [← hrj] at rc
            have HJ : Hid (rk D (sf q).toNat = rj) := Lib.hid (by rw [hj, hrj]; rfl)
            clear hj hrj
            by_cases hm : r < rj + 2
            · go_wp2_with fail
              go_round
              case rel => exact ⟨q + 1, rj + 2, by omega, ⟨by omega, by omega⟩, Lib.hid (by rw [upR_step, HJ.out, ← HRQ.out, if_pos hm]), by go_num, by go_num⟩
              case measure => simp [intOf]; omega
            · go_wp2_with fail
              go_round
              case rel => exact ⟨q + 1, r, by omega, ⟨by omega, by omega⟩, Lib.hid (by rw [upR_step, HJ.out, ← HRQ.out, if_neg hm]), by go_num, by go_num⟩
              case measure => simp [intOf]; omega
          · have hqe : q = sn := by omega
            have HRT : Hid (rk D t = r) := Lib.hid (by rw [HRV.out, HRQ.out, hqe])
            clear hqe
            have hqI : ¬ (q : Int) < (sn : Int) := by omega
            go_wp2_with (at_builtin; go_loud ( refine wpList_app _ rfl (.tmp 61) (.tmp 63) 27 rfl EIc rfl ((HO1.out.alloc _)) rfl (l := 1) (by omega) ((Rd.oneV (wo.alloc (.cells #[.int .i64 4, .int .i64 fa, .int .i64 fp, .int .i64 (ux : Nat), .int .i64 fy, .slice sA sn fc] 29)) (.int .i64 r) 3 (wo.heap.size + 1) (by simp))) (fun _ _ => rfl) (by unfold maxLen; omega) (by omega) ((HBa.out.alloc HBa.out.size (.cells #[.int .i64 r] 3)).size) (t + 1) (t + 1) rfl rfl ?_; intro A2 c2 w3 hown2 hg2 hat2 hbl2; have HOW := Lib.hid hown2; have HB3 := Lib.hid ((HBa.out.alloc HBa.out.size (.cells #[.int .i64 r] 3)).trans hbl2); clear hown2 hg2 hat2 hbl2))
            go_roundw
            case rel => exact ⟨t + 1, _, _, by omega, by go_num, rfl, Lib.hid (HOW.out.fit fun q hq => by
              rcases Nat.lt_or_ge q t with hq' | hq'
              · rw [cat_lt hq']
              · obtain rfl : q = t := by omega
                rw [cat_ge (Nat.le_refl _), HRT.out]), HB3⟩
            case measure => simp [intOf]; omega
    · obtain rfl : t = n := by omega
      obtain ⟨N, hN⟩ : ∃ N, t = N + 1 := ⟨t - 1, by omega⟩
      have wl : IntKind.i64.wrap ((t : Int) - 1) = ((N : Nat) : Int) := by rw [show (t : Int) - 1 = ((N : Nat) : Int) by omega]; exact IntWalk.i64_in _ (by omega)
      have hNI : (N : Int) < (t : Int) := by omega
      obtain ⟨g, F, rfl, hg, hrow, hcc, hFF⟩ := HO.out.row (by omega)
      have rl : wo.cell? ⟨g, N, none⟩ = some (.int .i64 (rk D N)) := by have := hrow.cell (i := N) (by omega); rw [hFF N (by omega)] at this; exact this
      have HNN := Lib.hid hN
      obtain ⟨rz, hrz⟩ : ∃ z, z = rk D N := ⟨_, rfl⟩
      rw [← hrz] at rl
      have HRZ := Lib.hid hrz
      clear hrow hFF hN hrz
      go_wp2_with fail
      go_ret2
      exact ⟨⟨rz, 0, rfl, fun h => absurd HOK.out h, fun _ => ⟨by rw [HRZ.out, show t - 1 = N by have := HNN.out; omega], rfl⟩⟩, HB2.out.trans (HB.out.mono HB2.out.size)⟩
end Go.Proofs.Ytjnoolfdlgocjaa
