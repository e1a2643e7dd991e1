/- TalkRect: rects of yes and of no together are no more than words of that length; places that fool are no more than rects of their value. No condition. -/
import Derived.Test.YtnfibchffbdmpaaRectLaw2
import Derived.Test.YtnfibchffbdmpaaTalkFoolTop
import Derived.Test.YtnfibchffbdmpaaTalkChk
import Derived.Deep.RegionHeld3
import Derived.BigQuiet
import Derived.IntWalk
namespace Go.Proofs.Ytnfibchffbdmpaa.talkRect
open Go.ChangeShapes Go.WideShapes Go.ChangeAt Go.RowKit
set_option linter.unusedVariables false
set_option linter.unusedSimpArgs false
theorem in_one {n : Nat} {x : Nat} (W W2 : World) (e : TypeId) (h : x < n) (h2 : W2.heap = (W.alloc (.cells #[.int .i64 (x : Nat)] e)).heap) : Calls Try.prog 13 #[.int .i64 (n : Int), .slice (some ⟨W.heap.size, 0, none⟩) 1 1] W2 fun e' w' => e' = .returned (.bool true) ∧ W2 = w' := by
  have hr : Rd W2 (some ⟨W.heap.size, 0, none⟩) 1 (fun _ => .int .i64 ((x : Nat) : Int)) := fun h1 => by
    obtain ⟨b, o, e1, h3, h4⟩ := Rd.one W (.int .i64 ((x : Nat) : Int)) e h1
    refine ⟨b, o, e1, by rw [h2]; exact h3, fun i hi => ?_⟩
    rw [← h4 i hi]
    unfold World.cell?
    rw [h2]
  have := inside_any (n : Int) (some ⟨W.heap.size, 0, none⟩) 1 1 (fun _ => ((x : Nat) : Int)) W2 hr (by unfold maxLen; omega)
  rwa [insB_iff.2 fun i _ => ⟨Int.natCast_nonneg x, Int.ofNat_lt.2 h⟩] at this
set_option maxRecDepth 100000 in
set_option maxHeartbeats 8000000 in
theorem walk (w : World) (A : Option Addr) (n c : Nat) (R : Nat → SB) (h : Rd w A n (fun i => (R i).val)) (hg : ∀ i, (R i).good w) (hl : n ≤ c) (hm : c ≤ maxLen) (z : c * 24 ≤ 140737488351232) :
    Calls Try.prog 5 #[.slice A n c] w fun e w' => e = .returned (.bool true) ∧ Below w.heap.size w w' := by
  have H : Hid (GrT w A n R) := Lib.hid ⟨h, fun i _ => hg i⟩
  have HNM : Hid (n ≤ maxLen) := Lib.hid (by omega)
  have hnx : n ≤ 9223372036854775807 := by unfold maxLen at hm; omega
  obtain ⟨v, hv⟩ : ∃ v, v = tkE n R := ⟨_, rfl⟩
  have hcl : ∀ X, Below w.heap.size w X → GrT X A n R := fun X hX => H.out.below hX
  have HCL := Lib.hid hcl
  clear h hg hl hm z hcl
  have C1 := Lib.hid (leastT_any A n c R w H.out HNM.out)
  have C2 := Lib.hid fun X hX => rects_any A n c R true X (HCL.out X hX) HNM.out
  have C3 := Lib.hid fun X hX => rects_any A n c R false X (HCL.out X hX) HNM.out
  have C4 := Lib.hid fun X hX => talked_any A n c R X (HCL.out X hX) HNM.out
  rw [← hv] at C1 C2 C3 C4
  by_cases hv0 : v = 0
  · have hz0 : tkE n R = 0 := by rw [← hv]; exact hv0
    obtain ⟨hn4, hm4, hlen⟩ := tkE_zero hz0
    obtain ⟨m, hmm⟩ : ∃ m, m = (R 0).n := ⟨_, rfl⟩
    rw [← hmm] at hm4 hlen C1 C2 C3
    rw [if_pos hv0] at C1 C2 C3
    have C5 := Lib.hid fun X hX => foolT_ok A n m c R X (HCL.out X hX) hn4 hm4 hlen hz0
    obtain ⟨k, hk⟩ : ∃ k : Nat, k = LeT n m R := ⟨_, rfl⟩
    obtain ⟨a, ha⟩ : ∃ k : Nat, k = reQ (plQ (tbB R) true m n) m n := ⟨_, rfl⟩
    obtain ⟨b, hb⟩ : ∃ k : Nat, k = reQ (plQ (tbB R) false m n) m n := ⟨_, rfl⟩
    rw [← hk] at C1
    rw [← ha] at C2
    rw [← hb] at C3
    have hk9 : k ≤ 9 := by rw [hk]; exact SY_9
    have hsum : a + b ≤ 2 ^ k := by rw [ha, hb, hk]; exact rect_sum hn4 hm4
    have hpos : 1 ≤ a + b := by rw [ha, hb]; exact rect_pos hn4 hm4
    have HFL : Hid (∀ (v : Bool) (P : Nat → Nat × Nat) (len : Nat), FoolOk (tbB R) n m v P len → (v = true → len ≤ a) ∧ (v = false → len ≤ b)) := Lib.hid fun v P len h => ⟨fun e => by rw [ha]; exact fool_rects hn4 hm4 (e ▸ h), fun e => by rw [hb]; exact fool_rects hn4 hm4 (e ▸ h)⟩
    have hpk : 2 ^ k ≤ 512 := Nat.pow_le_pow_right (by decide) hk9
    have hshl : wrap64 ((2 : Int) ^ k) = ((2 ^ k : Nat) : Int) := by rw [show (2 : Int) ^ k = ((2 ^ k : Nat) : Int) from (Int.natCast_pow 2 k).symm]; exact IntWalk.wrap64_in _ (by omega)
    obtain ⟨K, hK⟩ : ∃ K, K = 2 ^ k := ⟨_, rfl⟩
    rw [← hK] at hsum hpk hshl
    have d5 : decide ((a : Int) + (b : Int) ≤ wrap64 ((2 : Int) ^ k)) = true := decide_eq_true (by rw [hshl]; omega)
    have D5 := Lib.hid d5
    have HLEN := Lib.hid hlen
    obtain ⟨n1, n4⟩ := hn4
    obtain ⟨m1, m4⟩ := hm4
    subst hv0
    clear hk ha hb hlen hmm hz0 hv hshl hK d5
    go_enter Try.func5, Try.ntmps5
    go_wp2_with fail
    refine C1.out.mono ?_
    rintro e w1 ⟨rfl, b1⟩
    go_wp2_with fail
    refine (C2.out w1 b1).mono ?_
    rintro e w2 ⟨rfl, b2⟩
    have b2' := b1.trans (b2.mono b1.size)
    clear b1 b2
    go_wp2_with fail
    refine (C3.out w2 b2').mono ?_
    rintro e w3 ⟨rfl, b3⟩
    have b3' := b2'.trans (b3.mono b2'.size)
    clear b2' b3
    go_wp2_with fail
    refine (C5.out w3 b3').mono ?_
    rintro e w4 ⟨fv, S, len, fc, P, rfl, hrd, hok, l1, l16, b4⟩
    have hfl := HFL.out fv P len hok
    have hok0 := hok.1 0 (by omega)
    have b4' := b3'.trans (b4.mono b3'.size)
    clear b3' b4 hok
    go_wp2_with fail
    refine (C4.out w4 b4').mono ?_
    rintro e w5 ⟨rfl, rfl⟩
    have HB := Lib.hid b4'
    obtain ⟨b0, o0, rfl, hbl0, c0, c1⟩ := cF_at hrd (show 0 < len by omega)
    obtain ⟨p0, hp0⟩ : ∃ x, x = (P 0).1 := ⟨_, rfl⟩
    obtain ⟨p1, hp1⟩ : ∃ x, x = (P 0).2 := ⟨_, rfl⟩
    rw [← hp0, ← hp1] at hok0
    rw [← hp0] at c0
    rw [← hp1] at c1
    obtain ⟨hp0n, hp1m, hval⟩ := hok0
    obtain ⟨rB, rO, rfl, hAlt, hr0⟩ := (HCL.out w4 b4').1.at_ (show 0 < n by omega)
    have hrow : ∀ X, Below w.heap.size w X → ∀ i, i < n → X.cell? ⟨rB, rO + i, none⟩ = some (.slice (R i).A m (R i).c) ∧ ∀ j, j < m → ∃ yb yo, (R i).A = some ⟨yb, yo, none⟩ ∧ X.cell? ⟨yb, yo + j, none⟩ = some (.bool (tbB R i j)) := fun X hX i hi => by
      have hGX := HCL.out X hX
      constructor
      · obtain ⟨b', o', e, _, hc⟩ := hGX.1.at_ hi
        cases e
        rw [hc]
        show some (Value.slice (R i).A (R i).n (R i).c) = _
        rw [HLEN.out i hi]
      · intro j hj
        obtain ⟨yb, yo, e, _, hc⟩ := (hGX.2 i hi).1.at_ (show j < (R i).n by rw [HLEN.out i hi]; exact hj)
        exact ⟨yb, yo, e, hc⟩
    have HROW := Lib.hid hrow
    have r0 : w4.cell? ⟨rB, rO, none⟩ = some (.slice (R 0).A m (R 0).c) := (hrow w4 b4' 0 (by omega)).1
    have c0' : w4.cell? ⟨b0, o0, none⟩ = some (.int .i64 (p0 : Nat)) := by have := c0; rw [Nat.zero_mul, Nat.add_zero] at this; exact this
    have c1' : w4.cell? ⟨b0, o0 + 1, none⟩ = some (.int .i64 (p1 : Nat)) := by have := c1; rw [Nat.zero_mul, Nat.add_zero] at this; exact this
    have hzt : zeroT 0 = true := rfl
    have d1 : ((len : Int) == 0) = false := by rw [beq_eq_false_iff_ne]; omega
    have d2 : decide ((k : Int) < 0) = false := decide_eq_false (by omega)
    have d3 : decide (10 < (k : Int)) = false := decide_eq_false (by omega)
    have cs4 : w4.cell? ⟨b0, o0, none⟩ = some (.int .i64 (p0 : Nat)) ∧ w4.cell? ⟨b0, o0 + 1, none⟩ = some (.int .i64 (p1 : Nat)) ∧ w4.cell? ⟨rB, rO, none⟩ = some (.slice (R 0).A m (R 0).c) := ⟨c0', c1', r0⟩
    obtain ⟨yA0, hyA0⟩ : ∃ y, y = (R 0).A := ⟨_, rfl⟩
    obtain ⟨yc0, hyc0⟩ : ∃ y, y = (R 0).c := ⟨_, rfl⟩
    rw [← hyA0, ← hyc0] at cs4 r0
    have HVAL : Hid (tbB R p0 p1 = fv) := Lib.hid (by rw [hp0, hp1]; rw [hp0, hp1] at hval; exact hval)
    have HFL2 := Lib.hid hfl
    clear hrd hfl hval hrow hr0 b4' c0 c1 hyA0 hyc0 hp0 hp1 HFL C1 C2 C3 C4 C5
    go_wp2_with fail
    have hl0 : (0 : Int) < (len : Int) := by omega
    have hl0' : 0 < len := by omega
    have hn0 : (0 : Int) < (n : Int) := by omega
    have hn0' : 0 < n := by omega
    have I1 := Lib.hid (in_one w4 (w4.alloc (.cells #[.int .i64 (p0 : Nat)] 3)).drew 3 hp0n rfl)
    have hd5 : Below w4.heap.size w4 (w4.alloc (.cells #[.int .i64 (p0 : Nat)] 3)).drew := ((Below.refl _ _).alloc (Nat.le_refl _) _).drew
    have HD5 := Lib.hid hd5
    have hbl : b0 < w4.heap.size := hbl0
    have S5 : Hid (∀ X, Below w4.heap.size w4 X → X.cell? ⟨b0, o0, none⟩ = some (.int .i64 (p0 : Nat)) ∧ X.cell? ⟨b0, o0 + 1, none⟩ = some (.int .i64 (p1 : Nat)) ∧ X.cell? ⟨rB, rO, none⟩ = some (.slice yA0 m yc0)) := Lib.hid fun X hX => ⟨(hX.cell (p := ⟨b0, o0, none⟩) hbl0).trans cs4.1, (hX.cell (p := ⟨b0, o0 + 1, none⟩) hbl0).trans cs4.2.1, (hX.cell (p := ⟨rB, rO, none⟩) hAlt).trans cs4.2.2⟩
    clear hd5 hbl
    go_region_held3 (fun X => X.cell? ⟨b0, o0, none⟩ = some (.int .i64 (p0 : Nat)) ∧ X.cell? ⟨b0, o0 + 1, none⟩ = some (.int .i64 (p1 : Nat)) ∧ X.cell? ⟨rB, rO, none⟩ = some (.slice yA0 m yc0)) (first | exact cs5 | exact cs4 | go_keep) (first
      | (go_at_call 13; (with_reducible refine I1.out.mono ?_); rintro e w5 ⟨rfl, hw5⟩; have hb5 := HD5.out; rw [hw5] at hb5; have cs5 := S5.out w5 hb5; clear hw5)
      | (go_at_call 13; (with_reducible refine (in_one w5 _ 3 hp1m rfl).mono ?_); rintro e w6 ⟨rfl, hw6⟩; have hb6 := hb5.trans ((Below.refl w5.heap.size w5).alloc (Nat.le_refl _) (.cells #[.int .i64 (p1 : Nat)] 3) |>.mono hb5.size); rw [hw6] at hb6; have cs6 := S5.out w6 hb6; clear hw6))
    have hbw6 := HB.out.trans (hb6.mono HB.out.size)
    obtain ⟨r1, hr2⟩ := HROW.out w6 hbw6 p0 hp0n
    obtain ⟨yb, yo, hyA, r2⟩ := hr2 p1 hp1m
    rw [hyA] at r1
    rw [HVAL.out] at r2
    obtain ⟨yc, hyc⟩ : ∃ y, y = (R p0).c := ⟨_, rfl⟩
    rw [← hyc] at r1
    obtain ⟨e0, e1, _⟩ := cs6
    have HBW := Lib.hid hbw6
    clear hr2 hyA hyc hbw6 hb6 hb5 cs5 cs4 c0' c1' r0 I1 HD5 S5
    cases fv with
    | true =>
      have hla := HFL2.out.1 rfl
      go_wp2_with fail
      go_quiet (fail)
      have d5 := D5.out
      clear r1 r2 e0 e1
      go_wp2_with fail
      go_ret
      exact ⟨ret_bool (decide_eq_true (by omega)), below_drewN HBW.out nq⟩
    | false =>
      have hlb := HFL2.out.2 rfl
      go_wp2_with fail
      go_quiet (fail)
      have d5 := D5.out
      clear r1 r2 e0 e1
      go_wp2_with fail
      go_ret
      exact ⟨ret_bool (decide_eq_true (by omega)), below_drewN HBW.out nq⟩
  · have hzt : zeroT v = false := beq_eq_false_iff_ne.2 hv0
    rw [hzt] at C4
    rw [if_neg hv0] at C1 C2 C3
    have q1 : (v != 0) = true := by rw [bne_iff_ne]; exact hv0
    have C5 := Lib.hid fun X hX => foolT_bad A n c R X (HCL.out X hX) HNM.out v hv hv0
    clear hv hv0 hzt
    go_enter Try.func5, Try.ntmps5
    go_wp2_with fail
    refine C1.out.mono ?_
    rintro e w1 ⟨rfl, b1⟩
    go_wp2_with fail
    refine (C2.out w1 b1).mono ?_
    rintro e w2 ⟨rfl, b2⟩
    have b2' := b1.trans (b2.mono b1.size)
    clear b2 b1
    go_wp2_with fail
    refine (C3.out w2 b2').mono ?_
    rintro e w3 ⟨rfl, b3⟩
    have b3' := b2'.trans (b3.mono b2'.size)
    clear b2' b3
    go_wp2_with fail
    refine (C5.out w3 b3').mono ?_
    rintro e w4 ⟨rfl, b4⟩
    have b4' := b3'.trans (b4.mono b3'.size)
    clear b3' b4
    go_wp2_with fail
    refine (C4.out w4 b4').mono ?_
    rintro e w5 ⟨rfl, rfl⟩
    go_wp2_with fail
    go_ret
    exact ⟨rfl, b4'⟩
end Go.Proofs.Ytnfibchffbdmpaa.talkRect
