/- guess.times, guess.product. Condition: squares that may be. -/
import Derived.Test.YtoodmoliglhpiaaFreiFns
import Derived.BigQuiet
import Derived.IntWalk
namespace Go.Proofs.Ytoodmoliglhpiaa
open Go.ChangeShapes Go.WideShapes Go.ChangeAt Go.RowKit
set_option linter.unusedVariables false
set_option linter.unusedSimpArgs false
theorem EIf : Elem Try.prog 41 3 1 8 := Elem.of Try.underlying41 (by kernel_rfl : (Try.prog.info? 3).map (fun i => (i.zero, i.size, i.bytes)) = some (some (.int .i64 0), 1, 8)) rfl (by omega)
/-- a square that may be -/
structure SqM (w : World) (m : MX) (n : Nat) : Prop where
  good : m.good w
  len : m.n = n
  row : ∀ i, i < n → (m.R i).n = n
  rng : ∀ i, i < n → ∀ j, j < n → 0 ≤ (m.R i).f j ∧ (m.R i).f j < 7
theorem SqM.below {w w' : World} {m : MX} {n : Nat} (h : SqM w m n) (hb : Below w.heap.size w w') : SqM w' m n := ⟨h.good.below hb, h.len, h.row, h.rng⟩
def mE (m : MX) (i j : Nat) : Int := (m.R i).f j
def In7 (V : Nat → Int) (n : Nat) : Prop := ∀ j, j < n → 0 ≤ V j ∧ V j < 7
theorem mul36 {a b : Int} (h1 : 0 ≤ a ∧ a < 7) (h2 : 0 ≤ b ∧ b < 7) : 0 ≤ a * b ∧ a * b ≤ 36 :=
  ⟨Int.mul_nonneg h1.1 h2.1, Int.le_trans (Int.mul_le_mul (show a ≤ 6 by omega) (show b ≤ 6 by omega) h2.1 (by omega)) (by decide)⟩
theorem sI_bd {f : Nat → Int} {K : Int} : ∀ {n : Nat}, (∀ i, i < n → 0 ≤ f i ∧ f i ≤ K) → 0 ≤ sI f n ∧ sI f n ≤ n * K
  | 0, _ => by simp [sI]
  | n + 1, h => by
    have ih := sI_bd (K := K) (n := n) fun i hi => h i (by omega)
    have := h n (by omega)
    have e : ((n + 1 : Nat) : Int) * K = n * K + K := by push_cast; rw [Int.add_mul, Int.one_mul]
    simp only [sI]
    rw [e]; omega
theorem tm_7 (n : Nat) (M : Nat → Nat → Int) (V : Nat → Int) (k : Nat) : In7 (tmF n M V) k := fun j _ => ⟨Int.emod_nonneg _ (by decide), Int.emod_lt_of_pos _ (by decide)⟩
set_option maxRecDepth 100000 in
set_option maxHeartbeats 2000000 in
theorem times_any (m : MX) (n : Nat) (VA : Option Addr) (vc : Nat) (V : Nat → Int) (w : World) (n4 : n ≤ 4) (h : SqM w m n) (hv : Rd w VA n (fun j => .int .i64 (V j))) (hV : In7 V n) :
    Calls Try.prog 38 #[m.val, .slice VA n vc] w fun e w' => (∃ A' c', e = .returned (.slice A' n c') ∧ Rd w' A' n (fun i => .int .i64 (tmF n (mE m) V i))) ∧ Below w.heap.size w w' := by
  have H := Lib.hid h
  have HV := Lib.hid hv
  have H7 := Lib.hid hV
  have hml := h.len
  obtain ⟨mA, mn, mc, mR⟩ := m
  obtain rfl : mn = n := hml
  clear h hv hV
  show Calls Try.prog 38 #[.slice mA mn mc, .slice VA mn vc] w _
  go_enter Try.func38, Try.ntmps38
  go_wp2_with fail
  go_loopw [5, 13] (fun s5 s13 wr => ∃ (i c' : Nat) (A' : Option Addr), i ≤ mn ∧ s13 = .int .i64 (i : Nat) ∧ s5 = .slice A' i c' ∧ Hid (Own wr w.heap.size 3 1 A' i c' i (fun q => .int .i64 (tmF mn (mE ⟨mA, mn, mc, mR⟩) V q))) ∧ Hid (Below w.heap.size w wr)) (fun _ s13 _ => mn - (intOf s13).toNat)
  case atStart => exact ⟨0, 0, none, Nat.zero_le _, rfl, rfl, Lib.hid (Own.nil _ _ _ _ _), Lib.hid (Below.refl _ _)⟩
  case round =>
    obtain ⟨wo, rfl⟩ : ∃ wo : World, wo = wr := ⟨_, rfl⟩
    obtain ⟨i, c', A', hi, rfl, rfl, HO, HB⟩ := hrel
    by_cases hlt : i < mn
    · have hs := H.out.below HB.out
      obtain ⟨b, off, e0, _, hc0⟩ := hs.good.1.at_ hlt
      have e0' : mA = some ⟨b, off, none⟩ := e0
      subst e0'
      have hg := (hs.good.2.1 i hlt).1
      have hrn := hs.row i hlt
      have hrg := hs.rng i hlt
      obtain ⟨y, hy⟩ : ∃ y, y = mR i := ⟨_, rfl⟩
      have hc1 : wo.cell? ⟨b, off + i, none⟩ = some (mR i).val := hc0
      rw [← hy] at hc1
      have HY := Lib.hid hy
      have hg' : Rd wo y.A y.n (fun q => .int .i64 (y.f q)) := by rw [hy]; exact hg
      have hrn' : y.n = mn := by rw [hy]; exact hrn
      have hrg' : In7 y.f mn := by rw [hy]; exact hrg
      obtain ⟨ya, yn, yc, yf⟩ := y
      obtain rfl : yn = mn := hrn'
      have hc : wo.cell? ⟨b, off + i, none⟩ = some (.slice ya yn yc) := hc1
      have HRY : Hid (Rd wo ya yn (fun q => .int .i64 (yf q))) := Lib.hid hg'
      have HY7 : Hid (In7 yf yn) := Lib.hid hrg'
      clear hs hc0 hc1 hg hg' hrn hrg hrg' hy e0
      go_wp2_with fail
      go_loop [8, 19] (fun s8 s19 => ∃ (j : Nat) (S : Int), j ≤ yn ∧ s19 = .int .i64 (j : Nat) ∧ s8 = .int .i64 S ∧ (0 ≤ S ∧ S ≤ j * 36) ∧ Hid (S = sI (fun j => yf j * V j) j)) (fun _ s19 => yn - (intOf s19).toNat)
      case atStart => exact ⟨0, 0, Nat.zero_le _, rfl, rfl, ⟨by omega, by omega⟩, Lib.hid rfl⟩
      case round =>
        obtain ⟨j, S, hj, rfl, rfl, hS, HS⟩ := hrel
        by_cases hlt2 : j < yn
        · obtain ⟨b2, o2, rfl, _, hcj⟩ := HRY.out.at_ hlt2
          obtain ⟨b3, o3, rfl, _, hcv⟩ := (HV.out.below HB.out).at_ hlt2
          have hm := mul36 (HY7.out j hlt2) (H7.out j hlt2)
          obtain ⟨x, hx⟩ : ∃ x, x = yf j := ⟨_, rfl⟩
          obtain ⟨z, hz⟩ : ∃ z, z = V j := ⟨_, rfl⟩
          rw [← hx] at hcj hm
          rw [← hz] at hcv hm
          have HX := Lib.hid hx
          have HZ := Lib.hid hz
          have w1 : IntKind.i64.wrap (x * z) = x * z := IntWalk.i64_in _ (by omega)
          have w2 : IntKind.i64.wrap (S + x * z) = S + x * z := IntWalk.i64_in _ (by omega)
          clear hx hz
          go_wp2_with fail
          go_round
          case rel => exact ⟨j + 1, S + x * z, by omega, by go_num, rfl, ⟨by omega, by omega⟩, Lib.hid (by simp only [sI]; rw [HS.out, HX.out, HZ.out])⟩
          case measure => simp [intOf]; omega
        · obtain rfl : j = yn := by omega
          have HT : Hid (S % 7 = tmF j (mE ⟨some ⟨b, off, none⟩, j, mc, mR⟩) V i) := Lib.hid (by
            unfold tmF
            rw [HS.out]
            congr 1
            exact sI_congr fun q _ => by unfold mE; show _ = (mR i).f q * V q; rw [← HY.out])
          have hS7 : 0 ≤ S % 7 ∧ S % 7 < 7 := ⟨Int.emod_nonneg _ (by decide), Int.emod_lt_of_pos _ (by decide)⟩
          obtain ⟨r, hr⟩ : ∃ r, r = S % 7 := ⟨_, rfl⟩
          have htm : S.tmod 7 = r := by rw [hr, Int.tmod_eq_emod_of_nonneg hS.1]
          rw [← hr] at HT hS7
          obtain ⟨W6, hW6⟩ : ∃ W, W = wo.alloc (.cells #[.int .i64 r] 3) := ⟨_, rfl⟩
          have hbA : Below wo.heap.size wo W6 := by rw [hW6]; exact (Below.refl _ _).alloc (Nat.le_refl _) _
          have HO6 := Lib.hid (HO.out.below hbA)
          have HB6 := Lib.hid (HB.out.trans (hbA.mono HB.out.size))
          have HR6 : Hid (Rd W6 (some ⟨wo.heap.size, 0, none⟩) 1 (fun _ => .int .i64 r)) := Lib.hid (by rw [hW6]; exact Rd.one wo _ _)
          have hsw : w.heap.size ≤ W6.heap.size := HB6.out.size
          have HW6 := Lib.hid hW6
          clear hbA hW6
          go_wp2_with (at_builtin; rw [← hr, ← HW6.out]; refine wpList_app _ rfl (.tmp 33) (.tmp 36) 41 rfl EIf rfl HO6.out rfl (l := 1) rfl HR6.out (fun _ _ => rfl) (by unfold maxLen; omega) (by omega) hsw (i + 1) (i + 1) rfl rfl ?_; intro A3 c3 w7 hown hgr hat hb7; have HO7 := Lib.hid hown; have HB7 := Lib.hid (HB6.out.trans hb7); clear hown hgr hat hb7)
          go_roundw
          case rel => exact ⟨i + 1, c3, A3, by omega, by go_num, rfl, Lib.hid (HO7.out.congr fun q hq => by
            by_cases e : q < i
            · rw [cat_lt e]
            · rw [cat_ge (by omega), show q = i by omega, HT.out]), HB7⟩
          case measure => simp [intOf]; omega
    · obtain rfl : i = mn := by omega
      go_wp2_with fail
      go_ret
      exact ⟨⟨A', c', rfl, HO.out.rd⟩, HB.out⟩
def eqI (f g : Nat → Int) (n : Nat) : Bool := decide (∀ i, i < n → f i = g i)
set_option maxRecDepth 100000 in
theorem equalI_any (A B : Option Addr) (n c d : Nat) (f g : Nat → Int) (w : World) (n4 : n ≤ 4) (hf : Rd w A n (fun i => .int .i64 (f i))) (hg : Rd w B n (fun i => .int .i64 (g i))) :
    Calls Try.prog 37 #[.slice A n c, .slice B n d] w fun e w' => e = .returned (.bool (eqI f g n)) ∧ Below w.heap.size w w' := by
  have HF := Lib.hid hf
  have HG := Lib.hid hg
  have q0 : ((n : Int) != (n : Int)) = false := by simp
  clear hf hg
  go_enter Try.func37, Try.ntmps37
  go_wp2_with fail
  go_loopw [13] (fun s13 wr => ∃ i : Nat, i ≤ n ∧ s13 = .int .i64 (i : Nat) ∧ Hid (∀ j, j < i → f j = g j) ∧ Hid (Below w.heap.size w wr)) (fun s13 _ => n - (intOf s13).toNat)
  case atStart => exact ⟨0, Nat.zero_le _, rfl, Lib.hid (fun j h => absurd h (Nat.not_lt_zero _)), Lib.hid (Below.refl _ _)⟩
  case round =>
    obtain ⟨wo, rfl⟩ : ∃ wo : World, wo = wr := ⟨_, rfl⟩
    obtain ⟨i, hi, rfl, HALL, HB⟩ := hrel
    by_cases hlt : i < n
    · obtain ⟨b1, o1, rfl, _, h1⟩ := (HF.out.below HB.out).at_ hlt
      obtain ⟨b2, o2, rfl, _, h2⟩ := (HG.out.below HB.out).at_ hlt
      obtain ⟨x, hx⟩ : ∃ x, x = f i := ⟨_, rfl⟩
      obtain ⟨z, hz⟩ : ∃ z, z = g i := ⟨_, rfl⟩
      rw [← hx] at h1
      rw [← hz] at h2
      have HX := Lib.hid hx
      have HZ := Lib.hid hz
      clear hx hz
      by_cases e : x = z
      · have q1 : (x != z) = false := by rw [e]; simp
        have HE := Lib.hid e
        clear e
        go_wp2_with fail
        go_quiet (fail)
        go_wp2_with fail
        go_roundw
        case rel => exact ⟨i + 1, by omega, by go_num, Lib.hid (fun j hj => by
          by_cases e : j = i
          · rw [e, ← HX.out, ← HZ.out]; exact HE.out
          · exact HALL.out j (by omega)), Lib.hid (below_drewN HB.out _)⟩
        case measure => simp [intOf]; omega
      · have q1 : (x != z) = true := by rw [bne_iff_ne]; exact e
        have HR : Hid (eqI f g n = false) := Lib.hid (decide_eq_false fun h => e (by rw [HX.out, HZ.out]; exact h i hlt))
        clear e
        go_wp2_with fail
        go_quiet (fail)
        go_wp2_with fail
        go_ret
        exact ⟨ret_bool HR.out.symm, below_drewN HB.out _⟩
    · obtain rfl : i = n := by omega
      have HR : Hid (eqI f g i = true) := Lib.hid (decide_eq_true HALL.out)
      go_wp2_with fail
      go_ret
      exact ⟨ret_bool HR.out.symm, HB.out⟩
set_option maxRecDepth 100000 in
theorem product_any (a b c : MX) (n : Nat) (VA : Option Addr) (vc : Nat) (V : Nat → Int) (w : World) (n4 : n ≤ 4) (ha : SqM w a n) (hb : SqM w b n) (hc : SqM w c n) (hv : Rd w VA n (fun j => .int .i64 (V j))) (hV : In7 V n) :
    Calls Try.prog 26 #[a.val, b.val, c.val, .slice VA n vc] w fun e w' => e = .returned (.bool (prd n (mE a) (mE b) (mE c) V)) ∧ Below w.heap.size w w' := by
  have HA := Lib.hid ha
  have HB := Lib.hid hb
  have HC := Lib.hid hc
  have HV := Lib.hid hv
  have H7 := Lib.hid hV
  clear ha hb hc hv hV
  have h1 := times_any b n VA vc V w n4 HB.out HV.out H7.out
  have h2 := fun (W : World) (hW : Below w.heap.size w W) (A' : Option Addr) (c' : Nat) (hr : Rd W A' n (fun i => .int .i64 (tmF n (mE b) V i))) => times_any a n A' c' (tmF n (mE b) V) W n4 (HA.out.below hW) hr (tm_7 _ _ _ _)
  have h3 := fun (W : World) (hW : Below w.heap.size w W) => times_any c n VA vc V W n4 (HC.out.below hW) (HV.out.below hW) H7.out
  obtain ⟨aA, an, ac, aR⟩ := a
  obtain ⟨bA, bn, bc, bR⟩ := b
  obtain ⟨cA, cn, cc, cR⟩ := c
  have P1 := Lib.hid h1
  have P2 := Lib.hid h2
  have P3 := Lib.hid h3
  clear h1 h2 h3
  show Calls Try.prog 26 #[.slice aA an ac, .slice bA bn bc, .slice cA cn cc, .slice VA n vc] w _
  go_enter Try.func26, Try.ntmps26
  go_wp2_with fail
  refine P1.out.mono ?_
  rintro e w1 ⟨⟨A1, c1, rfl, hr1⟩, hb1⟩
  have HB1 := Lib.hid hb1
  have HR1 := Lib.hid hr1
  clear hb1 hr1
  go_wp2_with fail
  refine (P2.out w1 HB1.out A1 c1 HR1.out).mono ?_
  rintro e w2 ⟨⟨A2, c2, rfl, hr2⟩, hb2⟩
  have HR2 := Lib.hid hr2
  have HB2 := Lib.hid (HB1.out.trans (hb2.mono HB1.out.size))
  clear hb2 hr2
  go_wp2_with fail
  refine (P3.out w2 HB2.out).mono ?_
  rintro e w3 ⟨⟨A3, c3, rfl, hr3⟩, hb3⟩
  have HR3 := Lib.hid hr3
  have HR23 := Lib.hid (HR2.out.below hb3)
  have HB3 := Lib.hid (HB2.out.trans (hb3.mono HB2.out.size))
  clear hb3 hr3
  go_wp2_with fail
  refine (equalI_any A2 A3 n c2 c3 _ _ w3 n4 HR23.out HR3.out).mono ?_
  rintro e w4 ⟨rfl, hb4⟩
  have HB4 := Lib.hid (HB3.out.trans (hb4.mono HB3.out.size))
  clear hb4
  go_wp2_with fail
  go_ret
  exact ⟨rfl, HB4.out⟩
end Go.Proofs.Ytoodmoliglhpiaa
