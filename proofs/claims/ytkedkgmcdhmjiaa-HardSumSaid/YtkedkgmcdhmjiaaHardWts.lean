/- hard.Weights: what it makes. Conditions: the clauses read as told. -/
import Derived.Test.YtkedkgmcdhmjiaaHardSumLaw
import Derived.Test.YtkedkgmcdhmjiaaHardDots
import Derived.IntWalk
namespace Go.Proofs.Ytkedkgmcdhmjiaa
open Go.ChangeShapes Go.WideShapes Go.ChangeAt Go.RowKit
set_option linter.unusedVariables false
set_option linter.unusedSimpArgs false
theorem p10_le {k m : Nat} (h : k ≤ m) : 10 ^ k ≤ 10 ^ m := Nat.pow_le_pow_right (by omega) h
set_option maxRecDepth 100000 in
theorem digit_any (k : Nat) (w : World) (hk : k ≤ 5) :
    Calls Try.prog 27 #[.int .i64 (k : Nat)] w fun e w' => e = .returned (.int .i64 ((10 ^ k : Nat) : Int)) ∧ Below w.heap.size w w' := by
  go_enter Try.func27, Try.ntmps27
  go_wp2_with fail
  go_loopw [3, 5] (fun s3 s5 wr => ∃ i p : Nat, i ≤ k ∧ s5 = .int .i64 (i : Nat) ∧ s3 = .int .i64 (p : Nat) ∧ Hid (p = 10 ^ i) ∧ Hid (Below w.heap.size w wr)) (fun _ s5 _ => k - (intOf s5).toNat)
  case atStart => exact ⟨0, 1, Nat.zero_le _, rfl, rfl, Lib.hid rfl, Lib.hid (Below.refl _ _)⟩
  case round =>
    obtain ⟨wo, rfl⟩ : ∃ wo : World, wo = wr := ⟨_, rfl⟩
    obtain ⟨i, p, hi, rfl, rfl, HP, HB⟩ := hrel
    have hp : p ≤ 100000 := by rw [HP.out]; exact p10_le (show i ≤ 5 by omega)
    by_cases hlt : i < k
    · go_wp2_with fail
      go_roundw
      case rel => exact ⟨i + 1, p * 10, by omega, by go_num, by go_num, Lib.hid (by rw [HP.out, Nat.pow_succ]), HB⟩
      case measure => simp [intOf]; omega
    · obtain rfl : i = k := by omega
      go_wp2_with fail
      go_ret
      exact ⟨by rw [HP.out]; rfl, HB.out⟩
/-- a variable's weight so far: the digits of the first i clauses -/
def yW (Y N : Nat → SI) (V v i : Nat) : Nat := sumD (mat Y N V (2 * v)) (V + i)
def nW (Y N : Nat → SI) (V v i : Nat) : Nat := sumD (mat Y N V (2 * v + 1)) (V + i)
theorem mat_le (Y N : Nat → SI) (V j k : Nat) : mat Y N V j k ≤ 1 := by unfold mat; split; exact b1 _; split <;> omega
theorem w5_le {Y N : Nat → SI} {V j K : Nat} (h : K ≤ 5) : sumD (mat Y N V j) K ≤ 100000 := by
  have := sumD_lt (a := mat Y N V j) (K := K) fun k _ => Nat.le_trans (mat_le _ _ _ _ _) (by omega)
  have := p10_le h
  omega
theorem yW_zero {Y N : Nat → SI} {V v : Nat} (h : v < V) : yW Y N V v 0 = 10 ^ v := by
  unfold yW
  rw [sumD_congr (b := fun k => if k = v then 1 else 0), sumD_one, if_pos (by omega)]
  intro k hk
  unfold mat
  rw [if_neg (by omega), show 2 * v / 2 = v by omega]
theorem nW_zero {Y N : Nat → SI} {V v : Nat} (h : v < V) : nW Y N V v 0 = 10 ^ v := by
  unfold nW
  rw [sumD_congr (b := fun k => if k = v then 1 else 0), sumD_one, if_pos (by omega)]
  intro k hk
  unfold mat
  rw [if_neg (by omega), show (2 * v + 1) / 2 = v by omega]
theorem yW_succ {Y N : Nat → SI} {V v i : Nat} (h : v < V) : yW Y N V v (i + 1) = yW Y N V v i + (if occB (Y i) v = true then 10 ^ (V + i) else 0) := by
  show sumD (mat Y N V (2 * v)) (V + i) + 10 ^ (V + i) * mat Y N V (2 * v) (V + i) = _
  unfold yW
  congr 1
  unfold mat
  rw [show 2 * v / 2 = v by omega, show 2 * v % 2 = 0 by omega, if_pos ⟨h, by omega⟩, if_pos rfl, show V + i - V = i by omega]
  cases occB (Y i) v <;> simp
theorem nW_succ {Y N : Nat → SI} {V v i : Nat} (h : v < V) : nW Y N V v (i + 1) = nW Y N V v i + (if occB (N i) v = true then 10 ^ (V + i) else 0) := by
  show sumD (mat Y N V (2 * v + 1)) (V + i) + 10 ^ (V + i) * mat Y N V (2 * v + 1) (V + i) = _
  unfold nW
  congr 1
  unfold mat
  rw [show (2 * v + 1) / 2 = v by omega, show (2 * v + 1) % 2 = 1 by omega, if_pos ⟨h, by omega⟩, if_neg (by omega), show V + i - V = i by omega]
  cases occB (N i) v <;> simp
theorem cls_wgt {Y N : Nat → SI} {V n i b : Nat} (h : i < n) (hb : b ≤ 1) : wgt Y N V n (2 * (V + i) + b) = 10 ^ (V + i) := by
  unfold wgt
  rw [sumD_congr (b := fun k => if k = V + i then 1 else 0), sumD_one, if_pos (by omega)]
  intro k hk
  unfold mat
  rw [show (2 * (V + i) + b) / 2 = V + i by omega, if_neg (by omega)]
def totP (V m : Nat) : Nat := sumD (fun k => if k < V then 1 else 3) m
theorem totP_var {V v : Nat} (h : v < V) : totP V (v + 1) = totP V v + 10 ^ v := by
  show totP V v + 10 ^ v * (if v < V then 1 else 3) = _
  rw [if_pos h, Nat.mul_one]
theorem totP_cls {V i : Nat} : totP V (V + i + 1) = totP V (V + i) + 3 * 10 ^ (V + i) := by
  show totP V (V + i) + 10 ^ (V + i) * (if V + i < V then 1 else 3) = _
  rw [if_neg (by omega), Nat.mul_comm]
theorem totP_le {V m : Nat} (h : m ≤ 5) : totP V m ≤ 100000 := by
  have := sumD_lt (a := fun k => if k < V then 1 else 3) (K := m) fun k _ => by split <;> omega
  have := p10_le h
  unfold totP
  omega
theorem EIw : Elem Try.prog 23 3 1 8 := Elem.of Try.underlying23 (by kernel_rfl : (Try.prog.info? 3).map (fun i => (i.zero, i.size, i.bytes)) = some (some (.int .i64 0), 1, 8)) rfl (by omega)
set_option maxRecDepth 100000 in
set_option maxHeartbeats 4000000 in
theorem weights_any (V : Nat) (A : Option Addr) (n c : Nat) (Y N : Nat → SI) (w : World) (h : Cls w A n Y N) (hn : n ≤ maxLen) (hz : hdE (V : Int) n Y N = 0) (h5 : V + n ≤ 5) :
    Calls Try.prog 9 #[.int .i64 (V : Nat), .slice A n c] w fun e w' => ∃ A' c', e = .returned (.tuple #[.slice A' (2 * (V + n) : Nat) c', .int .i64 ((totW V n : Nat) : Int), .int .i64 0]) ∧ Rd w' A' (2 * (V + n)) (fun j => .int .i64 ((wgt Y N V n j : Nat) : Int)) ∧ Below w.heap.size w w' := by
  have H := Lib.hid h
  have HN := Lib.hid hn
  have HZ := Lib.hid hz
  clear h hn hz
  go_enter Try.func9, Try.ntmps9
  go_wp2_with fail
  refine (hwrong_any (V : Int) A n c Y N w H.out HN.out).mono ?_
  rintro e w1 ⟨rfl, hb1⟩
  rw [HZ.out]
  have HB1 := Lib.hid hb1
  clear hb1
  go_wp2_with fail
  go_loopw [9, 10, 33] (fun s9 s10 s33 wr => ∃ (v X c' : Nat) (A' : Option Addr), v ≤ V ∧ s33 = .int .i64 (v : Nat) ∧ s9 = .slice A' (2 * v : Nat) c' ∧ s10 = .int .i64 (X : Nat) ∧ Hid (X = totP V v) ∧ Hid (Own wr w.heap.size 3 1 A' (2 * v) c' (2 * v) (fun j => .int .i64 ((wgt Y N V n j : Nat) : Int))) ∧ Hid (Below w.heap.size w wr)) (fun _ _ s33 _ => V - (intOf s33).toNat)
  case atStart => exact ⟨0, 0, 0, none, Nat.zero_le _, rfl, rfl, rfl, Lib.hid rfl, Lib.hid (Own.nil _ _ _ _ _), HB1⟩
  case round =>
    obtain ⟨wo, rfl⟩ : ∃ wo : World, wo = wr := ⟨_, rfl⟩
    obtain ⟨v, X, c', A', hv, rfl, rfl, rfl, HX, HO, HB⟩ := hrel
    by_cases hlt : v < V
    · go_wp2_with fail
      refine (digit_any v wo (by omega)).mono ?_
      rintro e w2 ⟨rfl, hb2⟩
      obtain ⟨d, hd⟩ : ∃ d, d = 10 ^ v := ⟨_, rfl⟩
      rw [← hd]
      have hd5 : d ≤ 100000 := by rw [hd]; exact p10_le (show v ≤ 5 by omega)
      have HD := Lib.hid hd
      have HB2 := Lib.hid hb2
      clear hd hb2
      go_wp2_with fail
      refine (digit_any v w2 (by omega)).mono ?_
      rintro e w3 ⟨rfl, hb3⟩
      rw [← HD.out]
      have HB3 := Lib.hid (HB2.out.trans (hb3.mono HB2.out.size))
      clear hb3
      go_wp2_with fail
      obtain ⟨wz, hwz⟩ : ∃ wz, wz = wo := ⟨_, rfl⟩
      rw [← hwz] at HB3 HB HO
      have hzs : w.heap.size ≤ wz.heap.size := HB.out.size
      clear HB2 hwz
      go_loopw [12, 13, 44] (fun s12 s13 s44 wr => ∃ i Yv Nv : Nat, i ≤ n ∧ s44 = .int .i64 (i : Nat) ∧ s12 = .int .i64 (Yv : Nat) ∧ s13 = .int .i64 (Nv : Nat) ∧ Hid (Yv = yW Y N V v i) ∧ Hid (Nv = nW Y N V v i) ∧ Hid (Below wz.heap.size wz wr)) (fun _ _ s44 _ => n - (intOf s44).toNat)
      case atStart => exact ⟨0, d, d, Nat.zero_le _, rfl, rfl, rfl, Lib.hid (by rw [yW_zero hlt, HD.out]), Lib.hid (by rw [nW_zero hlt, HD.out]), HB3⟩
      case round =>
        clear HB3
        obtain ⟨wo, rfl⟩ : ∃ wo : World, wo = wr := ⟨_, rfl⟩
        obtain ⟨i, Yv, Nv, hi, rfl, rfl, rfl, HYv, HNv, HBz⟩ := hrel
        have hYv : Yv ≤ 100000 := by rw [HYv.out]; exact w5_le (by omega)
        have hNv : Nv ≤ 100000 := by rw [HNv.out]; exact w5_le (by omega)
        by_cases hlt2 : i < n
        · have HBW : Hid (Below w.heap.size w wo) := Lib.hid (HB.out.trans (HBz.out.mono HB.out.size))
          have hcls := H.out.below HBW.out
          obtain ⟨b, off, rfl, hb, f0, f1⟩ := hcls.at2 hlt2
          obtain ⟨gy, gn⟩ := hcls.good i hlt2
          obtain ⟨y0, hy⟩ : ∃ y, y = Y i := ⟨_, rfl⟩
          obtain ⟨y1, hz⟩ : ∃ z, z = N i := ⟨_, rfl⟩
          have HY := Lib.hid hy
          have HN := Lib.hid hz
          rw [← hy] at f0 gy
          rw [← hz] at f1 gn
          have hbg := (hdE_zero HZ.out).2.1 i hlt2
          rw [← hy, ← hz] at hbg
          have RY := Lib.hid (H.out.good i hlt2).1.1
          have RZ := Lib.hid (H.out.good i hlt2).2.1
          have e1 : Rd w y0.A y0.n (fun q => .int .i64 (y0.f q)) := by rw [HY.out]; exact RY.out
          have e2 : Rd w y1.A y1.n (fun q => .int .i64 (y1.f q)) := by rw [HN.out]; exact RZ.out
          clear RY RZ gy gn hcls hy hz
          obtain ⟨ya, yn, yc, yf⟩ := y0
          obtain ⟨za, zn, zc, zf⟩ := y1
          dsimp only at f0 f1 e1 e2 hbg
          have RY := Lib.hid e1
          have RZ := Lib.hid e2
          obtain ⟨g, hg⟩ : ∃ g, g = wo.heap.size := ⟨_, rfl⟩
          obtain ⟨W1, hW1⟩ : ∃ W1, W1 = wo.alloc (.cells #[.slice ya yn yc, .slice za zn zc] 50) := ⟨_, rfl⟩
          have hbA : Below wo.heap.size wo W1 := by rw [hW1]; exact (Below.refl _ _).alloc (Nat.le_refl _) _
          have HBs := Lib.hid hbA
          have HXs : Hid (Rd W1 (some ⟨g, 0, none⟩) 2 (bx (.slice ya yn yc) (.slice za zn zc))) := Lib.hid (by rw [hW1]; exact bx_rd wo g hg.symm _ _ _)
          have hgs : g < W1.heap.size := by rw [hW1, hg]; simp
          have HW1 := Lib.hid hW1
          have HGW := Lib.hid hg
          clear hbA hg hW1 e1 e2
          go_wp2_with fail
          rw [← HW1.out, ← HGW.out]
          clear HW1 HGW
          go_loopw [12, 52] (fun s12 s52 wr => ∃ q : Nat, q ≤ yn ∧ s52 = .int .i64 (q : Nat) ∧ s12 = .int .i64 (Yv : Nat) ∧ Hid (∀ q', q' < q → ¬ yf q' = (v : Int)) ∧ Hid (Rd wr (some ⟨g, 0, none⟩) 2 (bx (.slice ya yn yc) (.slice za zn zc))) ∧ Hid (Below wo.heap.size wo wr) ∧ g < wr.heap.size) (fun _ s52 _ => yn - (intOf s52).toNat)
          case atStart => exact ⟨0, Nat.zero_le _, rfl, rfl, Lib.hid (fun q' h => absurd h (Nat.not_lt_zero _)), HXs, HBs, hgs⟩
          case round =>
            clear HXs HBs hgs
            obtain ⟨wp, rfl⟩ : ∃ wp : World, wp = wr := ⟨_, rfl⟩
            obtain ⟨q, hq, rfl, rfl, HNO, HXs, HBs, hgs⟩ := hrel
            by_cases hlt3 : q < yn
            · obtain ⟨b2, off2, rfl, hb2, hc⟩ := (RY.out.below (HBW.out.trans (HBs.out.mono HBW.out.size))).at_ hlt3
              obtain ⟨x, hx⟩ : ∃ x, x = yf q := ⟨_, rfl⟩
              rw [← hx] at hc
              have HXX := Lib.hid hx
              clear hx
              by_cases hxv : x = (v : Int)
              · subst hxv
                have HOC : Hid (occB (Y i) v = true) := Lib.hid (by rw [← HY.out]; exact anyB_yes hlt3 (by show (yf q == (v : Int)) = true; rw [← HXX.out]; exact beq_self_eq_true _))
                clear HXX HNO
                go_wp2_with fail
                rw [show (V : Int) + (i : Int) = ((V + i : Nat) : Int) by omega]
                refine (digit_any (V + i) wp (by omega)).mono ?_
                rintro e w5 ⟨rfl, hb5⟩
                have HB5 := Lib.hid (HBs.out.trans (hb5.mono HBs.out.size))
                have HX5 := Lib.hid (HXs.out.below hb5)
                have hg5 := Nat.lt_of_lt_of_le hgs hb5.size
                obtain ⟨dd, hdd⟩ : ∃ dd, dd = 10 ^ (V + i) := ⟨_, rfl⟩
                rw [← hdd]
                have hd5 : dd ≤ 100000 := by rw [hdd]; exact p10_le (show V + i ≤ 5 by omega)
                have HR : Hid (Yv + dd = yW Y N V v (i + 1)) := Lib.hid (by rw [yW_succ hlt, HOC.out, if_pos rfl, ← hdd, HYv.out])
                clear hb5 hdd HOC HXs HBs hgs hc hb2
                have HXs := HX5
                have HBs := HB5
                have hgs := hg5
                obtain ⟨wq, hwq⟩ : ∃ wq, wq = w5 := ⟨_, rfl⟩
                rw [← hwq] at HXs HBs hgs ⊢
                clear HX5 HB5 hg5 hwq
                obtain ⟨ya, hya⟩ : ∃ B : Option Addr, B = some ⟨b2, off2, none⟩ := ⟨_, rfl⟩
                rw [← hya] at HXs ⊢
                obtain ⟨ry, hry⟩ : ∃ r, r = Yv + dd := ⟨_, rfl⟩
                have HRy : Hid (ry = yW Y N V v (i + 1)) := Lib.hid (by rw [hry]; exact HR.out)
                have hr5y : ry ≤ 200000 := by omega
                have wry : IntKind.i64.wrap ((Yv : Int) + (dd : Int)) = (ry : Int) := by rw [hry]; push_cast; exact IntWalk.i64_in _ (by omega)
                clear hry HR
                obtain ⟨b', o', e', _, hcx⟩ := HXs.out (show 0 < 2 by omega)
                cases e'
                have q0 : wq.cell? ⟨g, 0, none⟩ = some (.slice ya yn yc) := hcx 0 (by omega)
                have q1 : wq.cell? ⟨g, 1, none⟩ = some (.slice za zn zc) := hcx 1 (by omega)
                clear hcx
                go_wp2_with fail
                go_loopw [13, 70] (fun s13 s70 wr => ∃ q : Nat, q ≤ zn ∧ s70 = .int .i64 (q : Nat) ∧ s13 = .int .i64 (Nv : Nat) ∧ Hid (∀ q', q' < q → ¬ zf q' = (v : Int)) ∧ Hid (Rd wr (some ⟨g, 0, none⟩) 2 (bx (.slice ya yn yc) (.slice za zn zc))) ∧ Hid (Below wo.heap.size wo wr) ∧ g < wr.heap.size) (fun _ s70 _ => zn - (intOf s70).toNat)
                case atStart => exact ⟨0, Nat.zero_le _, rfl, rfl, Lib.hid (fun q' h => absurd h (Nat.not_lt_zero _)), HXs, HBs, hgs⟩
                case round =>
                  clear HXs HBs hgs
                  obtain ⟨wp, rfl⟩ : ∃ wp : World, wp = wr := ⟨_, rfl⟩
                  obtain ⟨q, hq, rfl, rfl, HNO, HXs, HBs, hgs⟩ := hrel
                  by_cases hlt3 : q < zn
                  · obtain ⟨b2, off2, rfl, hb2, hc⟩ := (RZ.out.below (HBW.out.trans (HBs.out.mono HBW.out.size))).at_ hlt3
                    obtain ⟨x, hx⟩ : ∃ x, x = zf q := ⟨_, rfl⟩
                    rw [← hx] at hc
                    have HXX := Lib.hid hx
                    clear hx
                    by_cases hxv : x = (v : Int)
                    · subst hxv
                      have HOC : Hid (occB (N i) v = true) := Lib.hid (by rw [← HN.out]; exact anyB_yes hlt3 (by show (zf q == (v : Int)) = true; rw [← HXX.out]; exact beq_self_eq_true _))
                      clear HXX HNO
                      go_wp2_with fail
                      rw [show (V : Int) + (i : Int) = ((V + i : Nat) : Int) by omega]
                      refine (digit_any (V + i) wp (by omega)).mono ?_
                      rintro e w5 ⟨rfl, hb5⟩
                      have HB5 := Lib.hid (HBs.out.trans (hb5.mono HBs.out.size))
                      have HX5 := Lib.hid (HXs.out.below hb5)
                      have hg5 := Nat.lt_of_lt_of_le hgs hb5.size
                      obtain ⟨dd, hdd⟩ : ∃ dd, dd = 10 ^ (V + i) := ⟨_, rfl⟩
                      rw [← hdd]
                      have hd5 : dd ≤ 100000 := by rw [hdd]; exact p10_le (show V + i ≤ 5 by omega)
                      have HR : Hid (Nv + dd = nW Y N V v (i + 1)) := Lib.hid (by rw [nW_succ hlt, HOC.out, if_pos rfl, ← hdd, HNv.out])
                      clear hb5 hdd HOC HXs HBs hgs hc hb2
                      have HXs := HX5
                      have HBs := HB5
                      have hgs := hg5
                      obtain ⟨wq, hwq⟩ : ∃ wq, wq = w5 := ⟨_, rfl⟩
                      rw [← hwq] at HXs HBs hgs ⊢
                      clear HX5 HB5 hg5 hwq
                      obtain ⟨rn, hrn⟩ : ∃ r, r = Nv + dd := ⟨_, rfl⟩
                      have HRn : Hid (rn = nW Y N V v (i + 1)) := Lib.hid (by rw [hrn]; exact HR.out)
                      have hr5n : rn ≤ 200000 := by omega
                      have wrn : IntKind.i64.wrap ((Nv : Int) + (dd : Int)) = (rn : Int) := by rw [hrn]; push_cast; exact IntWalk.i64_in _ (by omega)
                      clear hrn HR
                      go_wp2_with fail
                      go_roundw
                      case rel => exact ⟨i + 1, ry, rn, by omega, by go_num, by go_num, by go_num, HRy, HRn, Lib.hid (HBz.out.trans (HBs.out.mono HBz.out.size))⟩
                      case measure => simp [intOf]; omega

                    · have HNE := Lib.hid hxv
                      go_wp2_with fail
                      go_roundw
                      case rel => exact ⟨q + 1, by omega, by go_num, rfl, Lib.hid (fun q' h => by
                        by_cases e : q' = q
                        · rw [e, ← HXX.out]; exact HNE.out
                        · exact HNO.out q' (by omega)), HXs, HBs, hgs⟩
                      case measure => simp [intOf]; omega
                  · obtain rfl : zn = q := by omega
                    have HRn : Hid (Nv = nW Y N V v (i + 1)) := Lib.hid (by
                      have ho : occB (N i) v = false := by
                        rw [← HN.out]
                        exact anyB_false.2 fun q' h => by
                          show (zf q' == (v : Int)) = false
                          rw [beq_eq_false_iff_ne]; exact HNO.out q' h
                      rw [nW_succ hlt, ho, if_neg (by decide), HNv.out]; rfl)
                    clear HNO
                    obtain ⟨wq, hwq⟩ : ∃ wq, wq = wp := ⟨_, rfl⟩
                    rw [← hwq] at HXs HBs hgs ⊢
                    clear hwq
                    obtain ⟨rn, hrn⟩ : ∃ r, r = Nv := ⟨_, rfl⟩
                    rw [← hrn] at HRn
                    have hr5n : rn ≤ 200000 := by omega
                    rw [← hrn]
                    clear hrn
                    go_wp2_with fail
                    go_roundw
                    case rel => exact ⟨i + 1, ry, rn, by omega, by go_num, by go_num, by go_num, HRy, HRn, Lib.hid (HBz.out.trans (HBs.out.mono HBz.out.size))⟩
                    case measure => simp [intOf]; omega

              · have HNE := Lib.hid hxv
                go_wp2_with fail
                go_roundw
                case rel => exact ⟨q + 1, by omega, by go_num, rfl, Lib.hid (fun q' h => by
                  by_cases e : q' = q
                  · rw [e, ← HXX.out]; exact HNE.out
                  · exact HNO.out q' (by omega)), HXs, HBs, hgs⟩
                case measure => simp [intOf]; omega
            · obtain rfl : yn = q := by omega
              have HRy : Hid (Yv = yW Y N V v (i + 1)) := Lib.hid (by
                have ho : occB (Y i) v = false := by
                  rw [← HY.out]
                  exact anyB_false.2 fun q' h => by
                    show (yf q' == (v : Int)) = false
                    rw [beq_eq_false_iff_ne]; exact HNO.out q' h
                rw [yW_succ hlt, ho, if_neg (by decide), HYv.out]; rfl)
              clear HNO
              obtain ⟨wq, hwq⟩ : ∃ wq, wq = wp := ⟨_, rfl⟩
              rw [← hwq] at HXs HBs hgs ⊢
              clear hwq
              obtain ⟨ry, hry⟩ : ∃ r, r = Yv := ⟨_, rfl⟩
              rw [← hry] at HRy
              have hr5y : ry ≤ 200000 := by omega
              rw [← hry]
              clear hry
              obtain ⟨b', o', e', _, hcx⟩ := HXs.out (show 0 < 2 by omega)
              cases e'
              have q0 : wq.cell? ⟨g, 0, none⟩ = some (.slice ya yn yc) := hcx 0 (by omega)
              have q1 : wq.cell? ⟨g, 1, none⟩ = some (.slice za zn zc) := hcx 1 (by omega)
              clear hcx
              go_wp2_with fail
              go_loopw [13, 70] (fun s13 s70 wr => ∃ q : Nat, q ≤ zn ∧ s70 = .int .i64 (q : Nat) ∧ s13 = .int .i64 (Nv : Nat) ∧ Hid (∀ q', q' < q → ¬ zf q' = (v : Int)) ∧ Hid (Rd wr (some ⟨g, 0, none⟩) 2 (bx (.slice ya yn yc) (.slice za zn zc))) ∧ Hid (Below wo.heap.size wo wr) ∧ g < wr.heap.size) (fun _ s70 _ => zn - (intOf s70).toNat)
              case atStart => exact ⟨0, Nat.zero_le _, rfl, rfl, Lib.hid (fun q' h => absurd h (Nat.not_lt_zero _)), HXs, HBs, hgs⟩
              case round =>
                clear HXs HBs hgs
                obtain ⟨wp, rfl⟩ : ∃ wp : World, wp = wr := ⟨_, rfl⟩
                obtain ⟨q, hq, rfl, rfl, HNO, HXs, HBs, hgs⟩ := hrel
                by_cases hlt3 : q < zn
                · obtain ⟨b2, off2, rfl, hb2, hc⟩ := (RZ.out.below (HBW.out.trans (HBs.out.mono HBW.out.size))).at_ hlt3
                  obtain ⟨x, hx⟩ : ∃ x, x = zf q := ⟨_, rfl⟩
                  rw [← hx] at hc
                  have HXX := Lib.hid hx
                  clear hx
                  by_cases hxv : x = (v : Int)
                  · subst hxv
                    have HOC : Hid (occB (N i) v = true) := Lib.hid (by rw [← HN.out]; exact anyB_yes hlt3 (by show (zf q == (v : Int)) = true; rw [← HXX.out]; exact beq_self_eq_true _))
                    clear HXX HNO
                    go_wp2_with fail
                    rw [show (V : Int) + (i : Int) = ((V + i : Nat) : Int) by omega]
                    refine (digit_any (V + i) wp (by omega)).mono ?_
                    rintro e w5 ⟨rfl, hb5⟩
                    have HB5 := Lib.hid (HBs.out.trans (hb5.mono HBs.out.size))
                    have HX5 := Lib.hid (HXs.out.below hb5)
                    have hg5 := Nat.lt_of_lt_of_le hgs hb5.size
                    obtain ⟨dd, hdd⟩ : ∃ dd, dd = 10 ^ (V + i) := ⟨_, rfl⟩
                    rw [← hdd]
                    have hd5 : dd ≤ 100000 := by rw [hdd]; exact p10_le (show V + i ≤ 5 by omega)
                    have HR : Hid (Nv + dd = nW Y N V v (i + 1)) := Lib.hid (by rw [nW_succ hlt, HOC.out, if_pos rfl, ← hdd, HNv.out])
                    clear hb5 hdd HOC HXs HBs hgs hc hb2
                    have HXs := HX5
                    have HBs := HB5
                    have hgs := hg5
                    obtain ⟨wq, hwq⟩ : ∃ wq, wq = w5 := ⟨_, rfl⟩
                    rw [← hwq] at HXs HBs hgs ⊢
                    clear HX5 HB5 hg5 hwq
                    obtain ⟨rn, hrn⟩ : ∃ r, r = Nv + dd := ⟨_, rfl⟩
                    have HRn : Hid (rn = nW Y N V v (i + 1)) := Lib.hid (by rw [hrn]; exact HR.out)
                    have hr5n : rn ≤ 200000 := by omega
                    have wrn : IntKind.i64.wrap ((Nv : Int) + (dd : Int)) = (rn : Int) := by rw [hrn]; push_cast; exact IntWalk.i64_in _ (by omega)
                    clear hrn HR
                    go_wp2_with fail
                    go_roundw
                    case rel => exact ⟨i + 1, ry, rn, by omega, by go_num, by go_num, by go_num, HRy, HRn, Lib.hid (HBz.out.trans (HBs.out.mono HBz.out.size))⟩
                    case measure => simp [intOf]; omega

                  · have HNE := Lib.hid hxv
                    go_wp2_with fail
                    go_roundw
                    case rel => exact ⟨q + 1, by omega, by go_num, rfl, Lib.hid (fun q' h => by
                      by_cases e : q' = q
                      · rw [e, ← HXX.out]; exact HNE.out
                      · exact HNO.out q' (by omega)), HXs, HBs, hgs⟩
                    case measure => simp [intOf]; omega
                · obtain rfl : zn = q := by omega
                  have HRn : Hid (Nv = nW Y N V v (i + 1)) := Lib.hid (by
                    have ho : occB (N i) v = false := by
                      rw [← HN.out]
                      exact anyB_false.2 fun q' h => by
                        show (zf q' == (v : Int)) = false
                        rw [beq_eq_false_iff_ne]; exact HNO.out q' h
                    rw [nW_succ hlt, ho, if_neg (by decide), HNv.out]; rfl)
                  clear HNO
                  obtain ⟨wq, hwq⟩ : ∃ wq, wq = wp := ⟨_, rfl⟩
                  rw [← hwq] at HXs HBs hgs ⊢
                  clear hwq
                  obtain ⟨rn, hrn⟩ : ∃ r, r = Nv := ⟨_, rfl⟩
                  rw [← hrn] at HRn
                  have hr5n : rn ≤ 200000 := by omega
                  rw [← hrn]
                  clear hrn
                  go_wp2_with fail
                  go_roundw
                  case rel => exact ⟨i + 1, ry, rn, by omega, by go_num, by go_num, by go_num, HRy, HRn, Lib.hid (HBz.out.trans (HBs.out.mono HBz.out.size))⟩
                  case measure => simp [intOf]; omega
        · obtain rfl : i = n := by omega
          have HBw : Hid (Below w.heap.size w wo) := Lib.hid (HB.out.trans (HBz.out.mono HB.out.size))
          have HOz := Lib.hid (HO.out.below (HBz.out.mono (Nat.le_refl _)))
          have hX5 : X ≤ 100000 := by rw [HX.out]; exact totP_le (by omega)
          obtain ⟨WA, hWA⟩ : ∃ W, W = wo.alloc (.cells #[.int .i64 (Yv : Nat), .int .i64 (Nv : Nat)] 3) := ⟨_, rfl⟩
          have hbA : Below wo.heap.size wo WA := by rw [hWA]; exact (Below.refl _ _).alloc (Nat.le_refl _) _
          have HBA := Lib.hid (HBw.out.trans (hbA.mono HBw.out.size))
          have HOA := Lib.hid (HOz.out.below hbA)
          have HRA : Hid (Rd WA (some ⟨wo.heap.size, 0, none⟩) 2 (bx (.int .i64 (Yv : Nat)) (.int .i64 (Nv : Nat)))) := Lib.hid (by rw [hWA]; exact bx_rd wo _ rfl _ _ _)
          have hsw : w.heap.size ≤ WA.heap.size := HBA.out.size
          have HWA := Lib.hid hWA
          clear hWA hbA
          go_wp2_with (at_builtin; rw [← HWA.out]; refine wpList_app _ rfl (.tmp 86) (.tmp 89) 23 rfl EIw rfl HOA.out rfl (l := 2) rfl HRA.out (fun q _ => by unfold bx; split <;> rfl) (by unfold maxLen; omega) (by omega) hsw (2 * (v + 1)) (2 * (v + 1)) (by omega) (by omega) ?_; intro A3 c3 wB hown hgr hat hbB; have HOB := Lib.hid hown; have HBB := Lib.hid (HBA.out.trans hbB); clear hown hgr hat hbB)

          refine (digit_any (v) wB (by omega)).mono ?_
          rintro e wC ⟨rfl, hbC⟩
          rw [← HD.out]
          have HOC := Lib.hid (HOB.out.below hbC)
          have HBC := Lib.hid (HBB.out.trans (hbC.mono HBB.out.size))
          clear hbC
          go_wp2_with fail
          go_roundw
          case rel => exact ⟨v + 1, X + d, c3, A3, by omega, by go_num, rfl, by go_num, Lib.hid (by rw [totP_var hlt, HX.out, HD.out]), Lib.hid (HOC.out.congr fun q hq => by
            by_cases h1 : q < 2 * v
            · rw [cat_lt h1]
            · rw [cat_ge (by omega)]
              by_cases h2 : q = 2 * v
              · rw [h2, Nat.sub_self, HYv.out]; rfl
              · rw [show q = 2 * v + 1 by omega, show 2 * v + 1 - 2 * v = 1 by omega, HNv.out]; rfl), HBC⟩
          case measure => simp [intOf]; omega
    · obtain rfl : v = V := by omega
      go_wp2_with fail
      go_loopw [9, 10, 99] (fun s9 s10 s99 wr => ∃ (i X c' : Nat) (A' : Option Addr), i ≤ n ∧ s99 = .int .i64 (i : Nat) ∧ s9 = .slice A' (2 * (v + i) : Nat) c' ∧ s10 = .int .i64 (X : Nat) ∧ Hid (X = totP v (v + i)) ∧ Hid (Own wr w.heap.size 3 1 A' (2 * (v + i)) c' (2 * (v + i)) (fun j => .int .i64 ((wgt Y N v n j : Nat) : Int))) ∧ Hid (Below w.heap.size w wr)) (fun _ _ s99 _ => n - (intOf s99).toNat)
      case atStart => exact ⟨0, X, c', A', Nat.zero_le _, rfl, rfl, rfl, HX, HO, HB⟩
      case round =>
        clear HX HO HB
        obtain ⟨wo, rfl⟩ : ∃ wo : World, wo = wr := ⟨_, rfl⟩
        obtain ⟨i, X, c', A', hi, rfl, rfl, rfl, HX, HO, HB⟩ := hrel
        by_cases hlt : i < n
        · go_wp2_with fail
          rw [show (v : Int) + (i : Int) = ((v + i : Nat) : Int) by omega]
          refine (digit_any (v + i) wo (by omega)).mono ?_
          rintro e w2 ⟨rfl, hb2⟩
          obtain ⟨d, hd⟩ : ∃ d, d = 10 ^ (v + i) := ⟨_, rfl⟩
          rw [← hd]
          have hd5 : d ≤ 100000 := by rw [hd]; exact p10_le (show v + i ≤ 5 by omega)
          have HD := Lib.hid hd
          have HO2 := Lib.hid (HO.out.below hb2)
          have HB2 := Lib.hid (HB.out.trans (hb2.mono HB.out.size))
          clear hd hb2
          go_wp2_with fail
          rw [show (v : Int) + (i : Int) = ((v + i : Nat) : Int) by omega]
          refine (digit_any (v + i) w2 (by omega)).mono ?_
          rintro e w3 ⟨rfl, hb3⟩
          rw [← HD.out]
          have HO3 := Lib.hid (HO2.out.below hb3)
          have HB3 := Lib.hid (HB2.out.trans (hb3.mono HB2.out.size))
          clear hb3
          have hX5 : X ≤ 100000 := by rw [HX.out]; exact totP_le (by omega)
          obtain ⟨WA, hWA⟩ : ∃ W, W = w3.alloc (.cells #[.int .i64 (d : Nat), .int .i64 (d : Nat)] 3) := ⟨_, rfl⟩
          have hbA : Below w3.heap.size w3 WA := by rw [hWA]; exact (Below.refl _ _).alloc (Nat.le_refl _) _
          have HBA := Lib.hid (HB3.out.trans (hbA.mono HB3.out.size))
          have HOA := Lib.hid (HO3.out.below hbA)
          have HRA : Hid (Rd WA (some ⟨w3.heap.size, 0, none⟩) 2 (bx (.int .i64 (d : Nat)) (.int .i64 (d : Nat)))) := Lib.hid (by rw [hWA]; exact bx_rd w3 _ rfl _ _ _)
          have hsw : w.heap.size ≤ WA.heap.size := HBA.out.size
          have HWA := Lib.hid hWA
          clear hWA hbA
          go_wp2_with (at_builtin; rw [← HWA.out]; refine wpList_app _ rfl (.tmp 102) (.tmp 113) 23 rfl EIw rfl HOA.out rfl (l := 2) rfl HRA.out (fun q _ => by unfold bx; split <;> rfl) (by unfold maxLen; omega) (by omega) hsw (2 * (v + i + 1)) (2 * (v + i + 1)) (by omega) (by omega) ?_; intro A3 c3 wB hown hgr hat hbB; have HOB := Lib.hid hown; have HBB := Lib.hid (HBA.out.trans hbB); clear hown hgr hat hbB)
          rw [show (v : Int) + (i : Int) = ((v + i : Nat) : Int) by omega]
          refine (digit_any (v + i) wB (by omega)).mono ?_
          rintro e wC ⟨rfl, hbC⟩
          rw [← HD.out]
          have HOC := Lib.hid (HOB.out.below hbC)
          have HBC := Lib.hid (HBB.out.trans (hbC.mono HBB.out.size))
          clear hbC
          go_wp2_with fail
          go_roundw
          case rel => exact ⟨i + 1, X + 3 * d, c3, A3, by omega, by go_num, rfl, by go_num, Lib.hid (by rw [← Nat.add_assoc, totP_cls, HX.out, HD.out]), Lib.hid (HOC.out.congr fun q hq => by
            by_cases h1 : q < 2 * (v + i)
            · rw [cat_lt h1]
            · rw [cat_ge (by omega)]
              by_cases h2 : q = 2 * (v + i)
              · have e := cls_wgt (Y := Y) (N := N) (V := v) (n := n) (i := i) (b := 0) hlt (by omega)
                rw [Nat.add_zero] at e
                rw [h2, Nat.sub_self, e, HD.out]; rfl
              · have e := cls_wgt (Y := Y) (N := N) (V := v) (n := n) (i := i) (b := 1) hlt (by omega)
                rw [show q = 2 * (v + i) + 1 by omega, show 2 * (v + i) + 1 - 2 * (v + i) = 1 by omega, e, HD.out]; rfl), HBC⟩
          case measure => simp [intOf]; omega
        · obtain rfl : i = n := by omega
          go_wp2_with fail
          go_ret3
          exact ⟨A', c', by rw [HX.out]; rfl, HO.out.rd, HB.out⟩
end Go.Proofs.Ytkedkgmcdhmjiaa
