/- An additional clause does not increase the number of satisfying assignments. No condition. -/
import Derived.Test.YtgbcdoonginodaaNameIs
namespace Go.Proofs.Ytgbcdoonginodaa.nameMore
open Go.ChangeShapes Go.WideShapes Go.ChangeAt Go.RowKit
set_option linter.unusedVariables false
theorem EC : Elem Try.prog 22 25 2 48 := Elem.of Try.underlying22 (by kernel_rfl : (Try.prog.info? 25).map (fun i => (i.zero, i.size, i.bytes)) = some (some (.agg #[.slice none 0 0, .slice none 0 0]), 2, 48)) rfl (by omega)
/-- one more -/
def snoc (Y : Nat → SI) (y : SI) (n : Nat) : Nat → SI := fun k => if k < n then Y k else y
theorem snoc_lt {Y : Nat → SI} {y : SI} {n k : Nat} (h : k < n) : snoc Y y n k = Y k := if_pos h
theorem snoc_eq {Y : Nat → SI} {y : SI} {n : Nat} : snoc Y y n n = y := if_neg (by omega)
theorem clE_lt {vars : Int} {Y N : Nat → SI} {y z : SI} {n k : Nat} (h : k < n) : clE vars (snoc Y y n) (snoc N z n) k = clE vars Y N k := by
  unfold clE; rw [snoc_lt h, snoc_lt h]
theorem wr_more {vars : Int} {Y N : Nat → SI} {y z : SI} {n : Nat} (h : wrC vars 8 (n + 1) (snoc Y y n) (snoc N z n) = 0) : wrC vars 8 n Y N = 0 := by
  unfold wrC at h ⊢
  by_cases e : vars < 0 ∨ 8 < vars ∨ 200 < n + 1
  · rw [if_pos e] at h; omega
  · rw [if_neg e] at h
    rw [if_neg (by omega)]
    exact fstE_zero.2 fun k hk => by rw [← clE_lt (Y := Y) (N := N) (y := y) (z := z) hk]; exact fstE_zero.1 h k (by omega)
theorem is_more {Y N : Nat → SI} {y z : SI} {n : Nat} {h : Nat → Bool} (e : isC (n + 1) (snoc Y y n) (snoc N z n) h = true) : isC n Y N h = true :=
  isC_iff.2 fun k hk => by
    have := isC_iff.1 e k (by omega)
    unfold holdsC at this ⊢
    rw [snoc_lt hk, snoc_lt hk] at this
    exact this
theorem cntB_mono {p q : Nat → Bool} (h : ∀ s, p s = true → q s = true) (k : Nat) : cntB p k ≤ cntB q k := by
  induction k with
  | zero => exact Nat.le_refl _
  | succ k ih =>
    simp only [cntB]
    cases e : p k with
    | false => simp only [Bool.toNat_false]; have := Nat.zero_le (q k).toNat; omega
    | true => rw [h k e]; omega
theorem cntB_all {p : Nat → Bool} (h : ∀ s, p s = true) (k : Nat) : cntB p k = k := by
  induction k with
  | zero => rfl
  | succ k ih => simp only [cntB]; rw [ih, h k]; rfl
theorem many_more (n : Nat) (Y N : Nat → SI) (y z : SI) (V : Nat) : manyC (n + 1) (snoc Y y n) (snoc N z n) V ≤ manyC n Y N V := cntB_mono (fun s h => is_more h) _
theorem many_none (Y N : Nat → SI) (V : Nat) : manyC 0 Y N V = 2 ^ V := cntB_all (fun s => isC_iff.2 fun k hk => absurd hk (Nat.not_lt_zero _)) _
theorem snoc_rd {w : World} {A : Option Addr} {Y N : Nat → SI} {y z : SI} {n : Nat} {C0 D : Nat → Value} (h : Rd w A ((n + 1) * 2) (cat (n * 2) (cat 0 C0 (clC Y N)) D)) (h0 : D 0 = y.val) (h1 : D 1 = z.val) : Rd w A ((n + 1) * 2) (clC (snoc Y y n) (snoc N z n)) :=
  h.congr fun q hq => by
    by_cases e : q < n * 2
    · rw [cat_lt e, cat_ge (Nat.zero_le _), Nat.sub_zero]
      unfold clC; rw [snoc_lt (by omega), snoc_lt (by omega)]
    · rw [cat_ge (by omega)]
      by_cases e0 : q = n * 2
      · subst e0; rw [clC_0, snoc_eq, Nat.sub_self, h0]
      · obtain rfl : q = n * 2 + 1 := by omega
        rw [clC_1, snoc_eq, Nat.add_sub_cancel_left, h1]
def pr (y z : SI) (q : Nat) : Value := if q = 0 then y.val else z.val
theorem pr_one (y z : SI) (q : Nat) : (pr y z q).oneCell' = true := by unfold pr; split <;> rfl
theorem rdp (W : World) (N : Nat) (hN : W.heap.size = N) (y z : SI) (e : TypeId) : Rd (W.alloc (.cells #[.slice y.A y.n y.c, .slice z.A z.n z.c] e)) (some ⟨N, 0, none⟩) 2 (pr y z) := by
  subst hN
  refine Rd.of_row (World.rowIs_alloc W _ e _ fun i hi => ?_) (Nat.le_refl 2)
  have : i < 2 := hi
  match i, this with
  | 0, _ => rfl
  | 1, _ => rfl
theorem Rd.grown {w w' : World} {row : Option Nat} {A : Option Addr} {n : Nat} {C : Nat → Value} (h : Rd w A n C) (hg : w.grownBy w' row) (hne : ∀ b off, A = some ⟨b, off, none⟩ → some b ≠ row) : Rd w' A n C := fun hn => by
  obtain ⟨b, off, e, hb, hc⟩ := h hn
  exact ⟨b, off, e, by have := hg.size; omega, fun i hi => (World.cell?_of_block (hg.block b hb (hne b off e))).trans (hc i hi)⟩
theorem snoc_cls {w w' : World} {A A' : Option Addr} {n : Nat} {Y N : Nat → SI} {y z : SI} (h : Cls w A n Y N) (hy : y.good w) (hz : z.good w) (hb : Below w.heap.size w w') (hr : Rd w' A' ((n + 1) * 2) (clC (snoc Y y n) (snoc N z n))) : Cls w' A' (n + 1) (snoc Y y n) (snoc N z n) :=
  ⟨hr, fun k hk => by
    unfold snoc
    split
    · exact (h.below hb).good k (by assumption)
    · exact ⟨hy.below hb, hz.below hb⟩⟩
theorem wrap8 {V : Nat} (h : V ≤ 8) : wrap64 ((2 : Int) ^ V) = 2 ^ V := by
  obtain ⟨p0, p1, _, _⟩ := pow8 h
  exact IntWalk.wrap64_in _ ⟨by omega, by omega⟩
theorem more1 {vars : Int} {n : Nat} {Y N : Nat → SI} {y z : SI} (h : wrC vars 8 n Y N ≠ 0) : mnC vars n Y N = 0 ∧ wrC vars 8 (n + 1) (snoc Y y n) (snoc N z n) ≠ 0 ∧ mnC vars (n + 1) (snoc Y y n) (snoc N z n) = 0 := by
  have h2 : wrC vars 8 (n + 1) (snoc Y y n) (snoc N z n) ≠ 0 := fun e => h (wr_more e)
  exact ⟨if_neg h, h2, if_neg h2⟩
theorem more3 {vars : Int} {n : Nat} {Y N : Nat → SI} {y z : SI} (h : wrC vars 8 (n + 1) (snoc Y y n) (snoc N z n) = 0) : (0 ≤ vars ∧ vars ≤ 8) ∧ 0 ≤ mnC vars (n + 1) (snoc Y y n) (snoc N z n) ∧ mnC vars (n + 1) (snoc Y y n) (snoc N z n) ≤ mnC vars n Y N ∧ (n = 0 → mnC vars n Y N = 2 ^ vars.toNat) := by
  have h1 := wr_more h
  obtain ⟨⟨v0, v8, _⟩, _⟩ := wrC_zero h1
  unfold mnC
  rw [if_pos h, if_pos h1]
  have := many_more n Y N y z vars.toNat
  refine ⟨⟨v0, v8⟩, by omega, by omega, fun e => ?_⟩
  subst e
  rw [many_none]; simp
set_option maxRecDepth 100000 in
set_option maxHeartbeats 4000000 in
theorem walk (w : World) (vars : Int) (A : Option Addr) (n c : Nat) (Y N : Nat → SI) (y z : SI) (wv : (Lit.int .i64 vars).wf = true) (h : Rd w A (n * 2) (clC Y N)) (hg : ∀ i, (Y i).good w ∧ (N i).good w) (hl : n ≤ c) (hm : c ≤ maxLen) (zc : c * 48 ≤ 140737488351232) (hy : y.good w) (hz : z.good w) :
    Calls Try.prog 3 #[.int .i64 vars, .slice A n c, .agg #[.slice y.A y.n y.c, .slice z.A z.n z.c]] w fun e w' => e = .returned (.bool true) ∧ Below w.heap.size w w' := by
  have H := Lib.hid (show Cls w A n Y N from ⟨h, fun k _ => hg k⟩)
  have hn48 : (n + 1) * 48 ≤ 140737488355328 := by omega
  have hnm : n + 1 ≤ 1000000000000000 := by omega
  have HY := Lib.hid hy
  have HZ := Lib.hid hz
  have h63 : n ≤ maxLen := by omega
  clear wv h hg hl hm zc hy hz
  go_enter Try.func3, Try.ntmps3
  go_wp2_with fail
  refine (many_any vars A n c Y N _ (H.out.below ((Below.refl w.heap.size w).alloc (Nat.le_refl _) _)) h63).mono ?_
  rintro e w1 ⟨rfl, hb1⟩
  have hB1 := ((Below.refl w.heap.size w).alloc (Nat.le_refl _) (.cells #[.slice y.A y.n y.c, .slice z.A z.n z.c] 25)).trans (hb1.mono (by simp))
  have sz1 : w.heap.size < w1.heap.size := by have := hb1.size; simp at this; omega
  have y0 : w1.cell? ⟨w.heap.size, 0, none⟩ = some (.slice y.A y.n y.c) := (hb1.cell (p := ⟨w.heap.size, 0, none⟩) (by simp)).trans (by simp [go_sem])
  have y1 : w1.cell? ⟨w.heap.size, 1, none⟩ = some (.slice z.A z.n z.c) := (hb1.cell (p := ⟨w.heap.size, 1, none⟩) (by simp)).trans (by simp [go_sem])
  have C1 := H.out.below hB1
  have HC1 := Lib.hid C1
  clear hb1 C1
  go_wp2_with fail
  have o1 := Own.empty w1 w1.heap.size 25 2 (fun _ => .int .i64 0) (Nat.le_refl _)
  have o2 := Own.empty (w1.alloc (.cells #[.slice y.A y.n y.c, .slice z.A z.n z.c] 25)) w1.heap.size 25 2 (fun _ => .int .i64 0) (by simp)
  rw [show (w1.alloc (.cells #[.slice y.A y.n y.c, .slice z.A z.n z.c] 25)).heap.size = w1.heap.size + 1 by simp] at o2
  have p1 := rdp w1 _ rfl y z 25
  have p2 := rdp (w1.alloc (.cells #[] 25)) (w1.heap.size + 1) (by simp) y z 25
  have B1 := hB1.alloc hB1.size (.cells #[] 25)
  have B2 := B1.alloc B1.size (.cells #[.slice y.A y.n y.c, .slice z.A z.n z.c] 25)
  have B3 := (hB1.alloc hB1.size (.cells #[.slice y.A y.n y.c, .slice z.A z.n z.c] 25))
  have B4 := B3.alloc B3.size (.cells #[] 25)
  have O1 := Lib.hid o1
  have O2 := Lib.hid o2
  have P1 := Lib.hid p1
  have P2 := Lib.hid p2
  have HB1 := Lib.hid B1
  have HB2 := Lib.hid B2
  have HB4 := Lib.hid B4
  have k1 := ((Below.refl w1.heap.size w1).alloc (Nat.le_refl _) (.cells #[] 25)).drew
  have k2 := (((Below.refl w1.heap.size w1).alloc (Nat.le_refl _) (.cells #[] 25)).alloc (by simp) (.cells #[.slice y.A y.n y.c, .slice z.A z.n z.c] 25)).drew
  have k4 := (((Below.refl w1.heap.size w1).alloc (Nat.le_refl _) (.cells #[.slice y.A y.n y.c, .slice z.A z.n z.c] 25)).alloc (by simp) (.cells #[] 25)).drew
  have K1 := Lib.hid k1
  have K2 := Lib.hid k2
  have K4 := Lib.hid k4
  clear o1 o2 p1 p2 B1 B2 B3 B4 k1 k2 k4
  go_region_law (first
    | (refine step_app _ rfl (.tmp 19) (.tmp 20) 22 rfl EC rfl O1.out.drew rfl (l := n * 2) rfl (H.out.below HB1.out.drew).rd (fun _ _ => clC_one _ _ _) (by unfold maxLen; omega) (by omega) (by simp <;> omega) n (n * 2) (by omega) (by omega) ?_; intro A2 c2 w2 hown2 hg2 hat2 hbl2; have bw2 := K1.out.trans hbl2; have q0 := (bw2.cell (p := ⟨w.heap.size, 0, none⟩) sz1).trans y0; have q1 := (bw2.cell (p := ⟨w.heap.size, 1, none⟩) sz1).trans y1; have sw2 := bw2.size)
    | (refine step_app _ rfl (.tmp 19) (.tmp 20) 22 rfl EC rfl (O1.out.alloc _).drew rfl (l := n * 2) rfl (H.out.below HB2.out.drew).rd (fun _ _ => clC_one _ _ _) (by unfold maxLen; omega) (by omega) (by simp <;> omega) n (n * 2) (by omega) (by omega) ?_; intro A2 c2 w2 hown2 hg2 hat2 hbl2; have bw2 := K2.out.trans hbl2; have q0 := (bw2.cell (p := ⟨w.heap.size, 0, none⟩) sz1).trans y0; have q1 := (bw2.cell (p := ⟨w.heap.size, 1, none⟩) sz1).trans y1; have sw2 := bw2.size; have rp2 := Rd.grown P2.out.drew hg2 (fun b off e => by injection e with e; injection e with e1 e2; subst e1; simp [Value.ownBlock]))
    | (refine step_app _ rfl (.tmp 19) (.tmp 20) 22 rfl EC rfl O2.out.drew rfl (l := n * 2) rfl (H.out.below HB4.out.drew).rd (fun _ _ => clC_one _ _ _) (by unfold maxLen; omega) (by omega) (by simp <;> omega) n (n * 2) (by omega) (by omega) ?_; intro A2 c2 w2 hown2 hg2 hat2 hbl2; have bw2 := K4.out.trans hbl2; have q0 := (bw2.cell (p := ⟨w.heap.size, 0, none⟩) sz1).trans y0; have q1 := (bw2.cell (p := ⟨w.heap.size, 1, none⟩) sz1).trans y1; have sw2 := bw2.size; have rp2 := Rd.grown (P1.out.alloc _).drew hg2 (fun b off e => by injection e with e; injection e with e1 e2; subst e1; simp [Value.ownBlock]))
    | (refine step_app _ rfl (.tmp 21) (.tmp 23) 22 rfl EC rfl hown2 rfl (l := 2) rfl rp2 (fun _ _ => pr_one _ _ _) (by unfold maxLen; omega) (by omega) (by omega) (n + 1) ((n + 1) * 2) (by omega) (by omega) ?_; intro A3 c3 w3 hown3 hg3 hat3 hbl3; have bw3 := hB1.trans ((bw2.trans hbl3).mono hB1.size))
    | (refine step_app _ rfl (.tmp 21) (.tmp 23) 22 rfl EC rfl (hown2.alloc _) rfl (l := 2) rfl (rdp w2 _ rfl y z _) (fun _ _ => pr_one _ _ _) (by unfold maxLen; omega) (by omega) (by simp; omega) (n + 1) ((n + 1) * 2) (by omega) (by omega) ?_; intro A3 c3 w3 hown3 hg3 hat3 hbl3; have bw3 := hB1.trans (((bw2.alloc bw2.size _).trans hbl3).mono hB1.size))
    | (go_simp; go_at_call 5; refine (many_any vars A3 (n + 1) c3 (snoc Y y n) (snoc N z n) w3 (snoc_cls H.out HY.out HZ.out bw3 (snoc_rd hown3.rd rfl rfl)) (by unfold maxLen; omega)).mono ?_; rintro e w4 ⟨rfl, hb4⟩; have bw4 := bw3.trans (hb4.mono bw3.size); clear hown3 hg3 hat3 hbl3 hown2 hg2 hat2 hbl2 bw3 hb4))
  all_goals
    obtain ⟨a, ha⟩ : ∃ a, a = mnC vars n Y N := ⟨_, rfl⟩
    obtain ⟨b, hb⟩ : ∃ b, b = mnC vars (n + 1) (snoc Y y n) (snoc N z n) := ⟨_, rfl⟩
    obtain ⟨e, he⟩ : ∃ e, e = wrC vars 8 n Y N := ⟨_, rfl⟩
    obtain ⟨f, hf⟩ : ∃ f, f = wrC vars 8 (n + 1) (snoc Y y n) (snoc N z n) := ⟨_, rfl⟩
    have m1 : e ≠ 0 → a = 0 ∧ f ≠ 0 ∧ b = 0 := by rw [he, hf, ha, hb]; exact more1
    have m2 : f ≠ 0 → b = 0 := by rw [hf, hb]; exact fun h => if_neg h
    have m3 : f = 0 → (0 ≤ vars ∧ vars ≤ 8) ∧ 0 ≤ b ∧ b ≤ a ∧ (n = 0 → a = 2 ^ vars.toNat) := by rw [hf, hb, ha]; exact more3
    rw [← ha, ← hb, ← he, ← hf]
    have M1 := Lib.hid m1
    have M2 := Lib.hid m2
    have M3 := Lib.hid m3
    clear ha hb he hf m1 m2 m3
    by_cases h1 : e = 0
    · subst h1
      by_cases h2 : f = 0
      · subst h2
        obtain ⟨⟨v0, v8⟩, b0, ba, hn0⟩ := M3.out rfl
        have HN0 := Lib.hid hn0
        clear hn0
        by_cases h3 : n = 0
        · have hq : (a == wrap64 (2 ^ vars.toNat)) = true := by rw [beq_iff_eq, wrap8 (by omega)]; exact HN0.out h3
          have HQ := Lib.hid hq
          clear hq
          subst h3
          go_wp2_with fail
          go_ret
          exact ⟨ret_true HQ.out, bw4⟩
        · have h4 : 0 < n := by omega
          clear h3
          go_wp2_with fail
          go_ret
          exact ⟨rfl, bw4⟩
      · have hq : (f != 0) = true := by rw [bne_iff_ne]; exact h2
        obtain rfl := M2.out h2
        clear h2
        go_wp2_with fail
        go_ret
        exact ⟨rfl, bw4⟩
    · obtain ⟨rfl, h2, rfl⟩ := M1.out h1
      have hq : (e != 0) = true := by rw [bne_iff_ne]; exact h1
      have hq2 : (f != 0) = true := by rw [bne_iff_ne]; exact h2
      clear h1 h2
      go_wp2_with fail
      go_ret
      exact ⟨rfl, bw4⟩
end Go.Proofs.Ytgbcdoonginodaa.nameMore
