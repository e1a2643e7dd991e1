/- What gate.Deep computes: how deep the last gate lies. Conditions: the gates read as told. -/
import Derived.Test.YtmhicimjoidonaaGrowLaw
import Derived.Test.YtmhicimjoidonaaGateValue
import Derived.Test.YtmhicimjoidonaaApp
import Derived.IntWalk
namespace Go.Proofs.Ytmhicimjoidonaa
open Go.ChangeShapes Go.WideShapes Go.ChangeAt Go.RowKit
set_option linter.unusedVariables false
theorem EId : Elem Try.prog 49 3 1 8 := Elem.of Try.underlying49 (by kernel_rfl : (Try.prog.info? 3).map (fun i => (i.zero, i.size, i.bytes)) = some (some (.int .i64 0), 1, 8)) rfl (by omega)
/-- how deep a gate lies, of those before it -/
def dg (F : Nat → Int) (k : Nat) (D : Nat → Nat) : Nat :=
  if 2 < F (3 * k) then max (D (F (3 * k + 1)).toNat + 1) (D (F (3 * k + 2)).toNat + 1) else if 1 < F (3 * k) then D (F (3 * k + 1)).toNat + 1 else 0
def DA (F : Nat → Int) : Nat → Nat → Nat
  | 0 => fun _ => 0
  | n + 1 => fun z => if z = n then dg F n (DA F n) else DA F n z
def dep (F : Nat → Int) (i : Nat) : Nat := DA F (i + 1) i
theorem DA_dep (F : Nat → Int) : ∀ {n i : Nat}, i < n → DA F n i = dep F i
  | 0, _, h => absurd h (Nat.not_lt_zero _)
  | n + 1, i, h => by
    by_cases e : i = n
    · subst e; rfl
    · show (if i = n then _ else DA F n i) = _
      rw [if_neg e, DA_dep F (by omega)]
theorem dep_eq {inn : Int} {F : Nat → Int} {n k : Nat} (h : GW inn F n) (hk : k < n) : dep F k = dg F k (dep F) := by
  obtain ⟨k1, k4, _, h2, h3⟩ := gE_zero (h k hk)
  show (if k = k then dg F k (DA F k) else _) = _
  rw [if_pos rfl]
  unfold dg
  by_cases e : 2 < F (3 * k)
  · obtain ⟨a0, a1⟩ := h2 (by omega)
    obtain ⟨b0, b1⟩ := h3 e
    rw [if_pos e, if_pos e, DA_dep F (by omega), DA_dep F (by omega)]
  · rw [if_neg e, if_neg e]
    by_cases e1 : 1 < F (3 * k)
    · obtain ⟨a0, a1⟩ := h2 e1
      rw [if_pos e1, if_pos e1, DA_dep F (by omega)]
    · rw [if_neg e1, if_neg e1]
theorem dep_le {inn : Int} {F : Nat → Int} {n : Nat} (h : GW inn F n) : ∀ k, k < n → dep F k ≤ k := by
  intro k
  induction k using Nat.strongRecOn with
  | _ k ih =>
    intro hk
    obtain ⟨k1, k4, _, h2, h3⟩ := gE_zero (h k hk)
    rw [dep_eq h hk]
    unfold dg
    split
    · rename_i e
      obtain ⟨a0, a1⟩ := h2 (by omega)
      obtain ⟨b0, b1⟩ := h3 e
      have i1 := ih (F (3 * k + 1)).toNat (by omega) (by omega)
      have i2 := ih (F (3 * k + 2)).toNat (by omega) (by omega)
      omega
    · split
      · rename_i e
        obtain ⟨a0, a1⟩ := h2 e
        have i1 := ih (F (3 * k + 1)).toNat (by omega) (by omega)
        omega
      · omega
theorem Own.deps {W : World} {base k c : Nat} {A : Option Addr} {D : Nat → Value} {F : Nat → Int} (h : Own W base 3 1 A (k + 1) c (k + 1) (cat k (fun j => .int .i64 ((dep F j : Nat) : Int)) D)) (hD : D 0 = .int .i64 ((dep F k : Nat) : Int)) : Own W base 3 1 A (k + 1) c (k + 1) (fun j => .int .i64 ((dep F j : Nat) : Int)) := h.congr fun i hi => by
  by_cases e : i < k
  · rw [cat_lt e]
  · obtain rfl : i = k := by omega
    rw [cat_ge (by omega), Nat.sub_self]; exact hD
theorem Rd.oneD (W : World) (v : Value) (e : TypeId) (K : Nat) (hK : W.heap.size = K) : Rd (W.alloc (.cells #[v] e)) (some ⟨K, 0, none⟩) 1 (fun _ => v) := by
  subst hK; exact Rd.one W v e
set_option maxRecDepth 100000 in
theorem deep_no (inn : Int) (A : Option Addr) (n c : Nat) (F : Nat → Int) (w : World) (h : Rd w A (n * 3) (fun q => .int .i64 (F q))) (hn : n ≤ maxLen) (hz : ckE inn F n ≠ 0) :
    Calls Try.prog 16 #[.int .i64 inn, .slice A n c] w fun e w' => e = .returned (.tuple #[.int .i64 0, .int .i64 (ckE inn F n)]) ∧ Below w.heap.size w w' := by
  have H := Lib.hid h
  have HN := Lib.hid hn
  clear h hn
  obtain ⟨x, hx⟩ : ∃ x, x = ckE inn F n := ⟨_, rfl⟩
  rw [← hx] at hz ⊢
  have HX := Lib.hid hx
  clear hx
  have q1 : (x != 0) = true := by rw [bne_iff_ne]; exact hz
  clear hz
  go_enter Try.func16, Try.ntmps16
  go_wp2_with fail
  refine (check_any inn A n c F w H.out HN.out).mono ?_
  rintro e w1 ⟨rfl, hb1⟩
  rw [← HX.out]
  have HB1 := Lib.hid hb1
  clear hb1
  go_wp2_with fail
  refine bodyPost_ret (v := .tuple #[.int .i64 0, .int .i64 x]) (by simp [results, Try.results16, go_sem]) rfl ?_
  exact ⟨rfl, HB1.out⟩
set_option maxRecDepth 100000 in
set_option maxHeartbeats 2000000 in
theorem deep_any (inn : Int) (A : Option Addr) (n c : Nat) (F : Nat → Int) (w : World) (h : Rd w A (n * 3) (fun q => .int .i64 (F q))) (hn : n ≤ maxLen) (hz : ckE inn F n = 0) :
    Calls Try.prog 16 #[.int .i64 inn, .slice A n c] w fun e w' => e = .returned (.tuple #[.int .i64 ((dep F (n - 1) : Nat) : Int), .int .i64 0]) ∧ Below w.heap.size w w' := by
  have H := Lib.hid h
  have HN := Lib.hid hn
  obtain ⟨i0, i5, n1, n40, hgw⟩ := ckE_zero hz
  have hGW : GW inn F n := gw_zero hgw
  have HGW := Lib.hid hGW
  have HZ := Lib.hid hz
  clear h hn hgw hGW hz
  go_enter Try.func16, Try.ntmps16
  go_wp2_with fail
  refine (check_any inn A n c F w H.out HN.out).mono ?_
  rintro e w1 ⟨rfl, hb1⟩
  rw [HZ.out]
  have HB1 := Lib.hid hb1
  clear hb1
  go_wp2_with fail
  go_loopw [7, 19] (fun s7 s19 wr => ∃ (k : Nat) (Av : Option Addr) (cv : Nat), k ≤ n ∧ s19 = .int .i64 (k : Nat) ∧ s7 = .slice Av k cv ∧ Hid (Own wr w.heap.size 3 1 Av k cv k (fun j => .int .i64 ((dep F j : Nat) : Int))) ∧ Hid (Below w.heap.size w wr)) (fun _ s19 _ => n - (intOf s19).toNat)
  case atStart => exact ⟨0, none, 0, Nat.zero_le _, rfl, rfl, Lib.hid (Own.nil _ _ _ _ _), HB1⟩
  case round =>
    obtain ⟨wo, rfl⟩ : ∃ wo : World, wo = wr := ⟨_, rfl⟩
    obtain ⟨k, Av, cv, hk, rfl, rfl, HO, HB⟩ := hrel
    by_cases hlt : k < n
    · obtain ⟨b, off, rfl, hc0, hc1, hc2⟩ := (H.out.below HB.out).at3 hlt
      have hz := gE_zero (HGW.out k hlt)
      have hde := dep_eq HGW.out hlt
      have hdl := fun (j : Nat) (hj : j < k) => dep_le HGW.out j (show j < n by omega)
      obtain ⟨kd, hkd⟩ : ∃ kd, kd = F (3 * k) := ⟨_, rfl⟩
      obtain ⟨ga, hga⟩ : ∃ ga, ga = F (3 * k + 1) := ⟨_, rfl⟩
      obtain ⟨gb, hgb⟩ : ∃ gb, gb = F (3 * k + 2) := ⟨_, rfl⟩
      unfold dg at hde
      rw [← hkd, ← hga, ← hgb] at hde
      rw [← hkd] at hc0 hz
      rw [← hga] at hc1 hz
      rw [← hgb] at hc2 hz
      clear hkd hga hgb
      obtain ⟨h14, h41, hin, hga2, hgb2⟩ := hz
      have HDL := Lib.hid hdl
      have HDE := Lib.hid hde
      have hbl := HB.out.size
      obtain ⟨D, hD⟩ : ∃ D, D = dep F k := ⟨_, rfl⟩
      rw [← hD] at HDE
      have HDD := Lib.hid hD
      clear hdl hde hin hD
      have hO2 := HO.out.alloc (.cells #[.int .i64 kd, .int .i64 ga, .int .i64 gb] 51)
      have HO2 := Lib.hid hO2
      clear hO2
      have fin : ∀ (A3 : Option Addr) (c3 : Nat) (w3 : World), Own w3 w.heap.size 3 1 A3 (k + 1) c3 (k + 1) (cat k (fun j => .int .i64 ((dep F j : Nat) : Int)) (fun _ => .int .i64 (D : Nat))) → Own w3 w.heap.size 3 1 A3 (k + 1) c3 (k + 1) (fun j => .int .i64 ((dep F j : Nat) : Int)) := fun A3 c3 w3 h => h.deps (by rw [HDD.out])
      have FIN := Lib.hid fin
      clear fin
      have hkd4 : kd = 1 ∨ kd = 2 ∨ 2 < kd := by omega
      rcases hkd4 with rfl | rfl | h3
      · obtain rfl : D = 0 := HDE.out.trans (by rw [if_neg (by omega), if_neg (by omega)])
        clear hga2 hgb2 HDE
        go_wp2_with (at_builtin; refine wpList_app _ rfl (.tmp 43) (.tmp 45) 49 rfl EId rfl (HO2.out.alloc _) rfl (l := 1) (by omega) (Rd.oneD (wo.alloc (.cells #[.int .i64 1, .int .i64 ga, .int .i64 gb] 51)) (.int .i64 0) 3 _ (by simp)) (fun _ _ => rfl) (by unfold maxLen; omega) (by omega) (by simp; omega) (k + 1) (k + 1) (by omega) (by omega) ?_; intro A3 c3 w3 hown3 hg3 hat3 hbl3)
        go_roundw
        case rel => exact ⟨k + 1, A3, c3, by omega, by go_num, rfl, Lib.hid (FIN.out A3 c3 w3 hown3), Lib.hid ((((HB.out.alloc HB.out.size _).alloc (by simp; omega) _)).trans hbl3)⟩
        case measure => simp [intOf]; omega
      · obtain ⟨a0, a1⟩ := hga2 (by omega)
        obtain ⟨gan, rfl⟩ : ∃ gan : Nat, ga = (gan : Int) := ⟨ga.toNat, by omega⟩
        obtain ⟨by_, oy_, rfl, hby, hcy⟩ := HO2.out.rd.at_ (k := gan) (by omega)
        have da := HDL.out gan (by omega)
        have hde : D = dep F gan + 1 := HDE.out.trans (by rw [if_neg (by omega), if_pos (by omega), Int.toNat_natCast])
        obtain ⟨u, hu⟩ : ∃ u, u = dep F gan := ⟨_, rfl⟩
        rw [← hu] at hde da hcy
        obtain rfl : D = u + 1 := hde
        clear hga2 hgb2 HDE hu
        go_wp2_with (at_builtin; refine wpList_app _ rfl (.tmp 43) (.tmp 45) 49 rfl EId rfl (HO2.out.alloc _) rfl (l := 1) (by omega) (Rd.oneD (wo.alloc (.cells #[.int .i64 2, .int .i64 (gan : Int), .int .i64 gb] 51)) (.int .i64 ((u + 1 : Nat) : Int)) 3 _ (by simp)) (fun _ _ => rfl) (by unfold maxLen; omega) (by omega) (by simp; omega) (k + 1) (k + 1) (by omega) (by omega) ?_; intro A3 c3 w3 hown3 hg3 hat3 hbl3)
        go_roundw
        case rel => exact ⟨k + 1, A3, c3, by omega, by go_num, rfl, Lib.hid (FIN.out A3 c3 w3 hown3), Lib.hid ((((HB.out.alloc HB.out.size _).alloc (by simp; omega) _)).trans hbl3)⟩
        case measure => simp [intOf]; omega
      · obtain ⟨a0, a1⟩ := hga2 (by omega)
        obtain ⟨b0, b1⟩ := hgb2 h3
        obtain ⟨gan, rfl⟩ : ∃ gan : Nat, ga = (gan : Int) := ⟨ga.toNat, by omega⟩
        obtain ⟨gbn, rfl⟩ : ∃ gbn : Nat, gb = (gbn : Int) := ⟨gb.toNat, by omega⟩
        obtain ⟨by_, oy_, rfl, hby, hcy0⟩ := HO2.out.rd (by omega)
        have hcy : (wo.alloc (.cells #[.int .i64 kd, .int .i64 (gan : Int), .int .i64 (gbn : Int)] 51)).cell? ⟨by_, oy_ + gan, none⟩ = some (.int .i64 ((dep F gan : Nat) : Int)) := hcy0 gan (by omega)
        have hcz : (wo.alloc (.cells #[.int .i64 kd, .int .i64 (gan : Int), .int .i64 (gbn : Int)] 51)).cell? ⟨by_, oy_ + gbn, none⟩ = some (.int .i64 ((dep F gbn : Nat) : Int)) := hcy0 gbn (by omega)
        have k1 : 1 < kd := by omega
        have da := HDL.out gan (by omega)
        have db := HDL.out gbn (by omega)
        have hde : D = max (dep F gan + 1) (dep F gbn + 1) := HDE.out.trans (by rw [if_pos h3, Int.toNat_natCast, Int.toNat_natCast])
        obtain ⟨u, hu⟩ : ∃ u, u = dep F gan := ⟨_, rfl⟩
        obtain ⟨v, hv⟩ : ∃ v, v = dep F gbn := ⟨_, rfl⟩
        rw [← hu, ← hv] at hde
        rw [← hu] at da hcy
        rw [← hv] at db hcz
        have HDM := Lib.hid hde
        clear hga2 hgb2 HDE hu hv hcy0 hde
        have huv : ((u : Int) < (v : Int) ∧ D = v + 1) ∨ (u = v ∧ D = u + 1) ∨ ((v : Int) < (u : Int) ∧ D = u + 1) := by have := HDM.out; omega
        clear HDM
        rcases huv with ⟨l, rfl⟩ | ⟨rfl, rfl⟩ | ⟨l, rfl⟩
        · have w2 : IntKind.i64.wrap ((v : Int) + 1) = (v : Int) + 1 := IntWalk.i64_in _ (by omega)
          have w3 : IntKind.i64.wrap ((u : Int) + 1) = (u : Int) + 1 := IntWalk.i64_in _ (by omega)
          go_wp2_with (at_builtin; refine wpList_app _ rfl (.tmp 43) (.tmp 45) 49 rfl EId rfl (HO2.out.alloc _) rfl (l := 1) (by omega) (Rd.oneD (wo.alloc (.cells #[.int .i64 kd, .int .i64 (gan : Int), .int .i64 (gbn : Int)] 51)) (.int .i64 ((v + 1 : Nat) : Int)) 3 _ (by simp)) (fun _ _ => rfl) (by unfold maxLen; omega) (by omega) (by simp; omega) (k + 1) (k + 1) (by omega) (by omega) ?_; intro A3 c3 w3 hown3 hg3 hat3 hbl3)
          go_roundw
          case rel => exact ⟨k + 1, A3, c3, by omega, by go_num, rfl, Lib.hid (FIN.out A3 c3 w3 hown3), Lib.hid ((((HB.out.alloc HB.out.size _).alloc (by simp; omega) _)).trans hbl3)⟩
          case measure => simp [intOf]; omega
        · have w2 : IntKind.i64.wrap ((u : Int) + 1) = (u : Int) + 1 := IntWalk.i64_in _ (by omega)
          go_wp2_with (at_builtin; refine wpList_app _ rfl (.tmp 43) (.tmp 45) 49 rfl EId rfl (HO2.out.alloc _) rfl (l := 1) (by omega) (Rd.oneD (wo.alloc (.cells #[.int .i64 kd, .int .i64 (gan : Int), .int .i64 (gbn : Int)] 51)) (.int .i64 ((u + 1 : Nat) : Int)) 3 _ (by simp)) (fun _ _ => rfl) (by unfold maxLen; omega) (by omega) (by simp; omega) (k + 1) (k + 1) (by omega) (by omega) ?_; intro A3 c3 w3 hown3 hg3 hat3 hbl3)
          go_roundw
          case rel => exact ⟨k + 1, A3, c3, by omega, by go_num, rfl, Lib.hid (FIN.out A3 c3 w3 hown3), Lib.hid ((((HB.out.alloc HB.out.size _).alloc (by simp; omega) _)).trans hbl3)⟩
          case measure => simp [intOf]; omega
        · have w2 : IntKind.i64.wrap ((v : Int) + 1) = (v : Int) + 1 := IntWalk.i64_in _ (by omega)
          have w3 : IntKind.i64.wrap ((u : Int) + 1) = (u : Int) + 1 := IntWalk.i64_in _ (by omega)
          go_wp2_with (at_builtin; refine wpList_app _ rfl (.tmp 43) (.tmp 45) 49 rfl EId rfl (HO2.out.alloc _) rfl (l := 1) (by omega) (Rd.oneD (wo.alloc (.cells #[.int .i64 kd, .int .i64 (gan : Int), .int .i64 (gbn : Int)] 51)) (.int .i64 ((u + 1 : Nat) : Int)) 3 _ (by simp)) (fun _ _ => rfl) (by unfold maxLen; omega) (by omega) (by simp; omega) (k + 1) (k + 1) (by omega) (by omega) ?_; intro A3 c3 w3 hown3 hg3 hat3 hbl3)
          go_roundw
          case rel => exact ⟨k + 1, A3, c3, by omega, by go_num, rfl, Lib.hid (FIN.out A3 c3 w3 hown3), Lib.hid ((((HB.out.alloc HB.out.size _).alloc (by simp; omega) _)).trans hbl3)⟩
          case measure => simp [intOf]; omega
    · obtain rfl : k = n := by omega
      obtain ⟨j, hj⟩ : ∃ j, j = k - 1 := ⟨_, rfl⟩
      have hj1 : (k : Int) - 1 = (j : Int) := by omega
      obtain ⟨yb, yo, rfl, _, hcy⟩ := HO.out.rd.at_ (k := j) (by omega)
      rw [hj] at hcy
      obtain ⟨D, hD⟩ : ∃ D, D = dep F (k - 1) := ⟨_, rfl⟩
      rw [← hD] at hcy
      rw [← hj] at hcy
      have HDD := Lib.hid hD
      clear hj hD
      go_wp2_with fail
      refine bodyPost_ret (v := .tuple #[.int .i64 (D : Nat), .int .i64 0]) (by simp [results, Try.results16, go_sem]) rfl ?_
      exact ⟨by rw [HDD.out], HB.out⟩
end Go.Proofs.Ytmhicimjoidonaa
