/- talk.whole and talk.Least. Conditions: the rows read as told. -/
import Derived.Test.YtnfibchffbdmpaaTalkLeast
namespace Go.Proofs.Ytnfibchffbdmpaa
open Go.ChangeShapes Go.WideShapes Go.ChangeAt Go.RowKit Go.Maps
set_option linter.unusedVariables false
set_option linter.unusedSimpArgs false
theorem tkE_zero {n : Nat} {R : Nat → SB} (h : tkE n R = 0) : (1 ≤ n ∧ n ≤ 4) ∧ (1 ≤ (R 0).n ∧ (R 0).n ≤ 4) ∧ ∀ i, i < n → (R i).n = (R 0).n := by
  unfold tkE at h
  by_cases h1 : n < 1 ∨ 4 < n ∨ (R 0).n < 1 ∨ 4 < (R 0).n
  · rw [if_pos h1] at h; exact absurd h (by decide)
  · rw [if_neg h1] at h
    by_cases h2 : anyB (lnT R) n = true
    · rw [if_pos h2] at h; exact absurd h (by decide)
    · refine ⟨by omega, by omega, fun i hi => ?_⟩
      by_cases e : (R i).n = (R 0).n
      · exact e
      · exact absurd (anyB_yes hi (show lnT R i = true by unfold lnT; rw [bne_iff_ne]; omega)) h2
theorem shl_T : ∀ k : Nat, k ≤ 4 → IntKind.u64.wrap ((2 : Int) ^ k) = ((2 ^ k : Nat) : Int) ∧ 1 ≤ 2 ^ k ∧ 2 ^ k ≤ 16 ∧ (k ≠ 0 → 1 ≤ 2 ^ k - 1) := by decide +kernel
theorem results_c1 {fn : Func} {p : Tmp} {ty : TypeId} (h : fn.results = #[.cell p ty]) (tmps : Array Value) (P : Program) (w : World) :
    (results fn tmps).run P w = ((asAddr (tmps.getD p undef)).run P w).andThen fun a w₁ => (loadVar ty a).run P w₁ := by
  simp only [results, h]
  simp [Sem.run_bind, Result.andThen]
set_option maxRecDepth 100000 in
set_option maxHeartbeats 2000000 in
theorem whole_any (A : Option Addr) (n c m : Nat) (R : Nat → SB) (w : World) (h : GrT w A n R) (hn : 1 ≤ n ∧ n ≤ 4) (hm : 1 ≤ m ∧ m ≤ 4) (h0 : (R 0).n = m) :
    Calls Try.prog 16 #[.slice A n c] w fun e w' => e = .returned (.agg #[.int .u64 ((2 ^ n - 1 : Nat) : Int), .int .u64 ((2 ^ m - 1 : Nat) : Int)]) ∧ Below w.heap.size w w' := by
  obtain ⟨rB, rO, rfl, hAlt, hc⟩ := h.1.at_ (show 0 < n by omega)
  have hc2 : w.cell? ⟨rB, rO, none⟩ = some (.slice (R 0).A (R 0).n (R 0).c) := hc
  rw [h0] at hc2
  have hc3 : (w.alloc (.cells #[.int .u64 0, .int .u64 0] 43)).cell? ⟨rB, rO, none⟩ = some (.slice (R 0).A m (R 0).c) := (((Below.refl w.heap.size w).alloc (Nat.le_refl _) (.cells #[.int .u64 0, .int .u64 0] 43)).cell (p := ⟨rB, rO, none⟩) hAlt).trans hc2
  clear hc hc2 h h0
  obtain ⟨n1, n4⟩ := hn
  obtain ⟨m1, m4⟩ := hm
  have hn : n = 1 ∨ n = 2 ∨ n = 3 ∨ n = 4 := by omega
  have hm : m = 1 ∨ m = 2 ∨ m = 3 ∨ m = 4 := by omega
  clear n1 n4 m1 m4
  rcases hn with rfl | rfl | rfl | rfl <;> rcases hm with rfl | rfl | rfl | rfl
  all_goals
    go_enter Try.func16, Try.ntmps16
    go_wp2_with fail
    go_region
    all_goals
      go_wp2_with fail
      (try simp only [Exit.inBlock, Exit.then])
      exact bodyPost_ret (by rw [results_c1 rfl]; go_simp) rfl ⟨rfl, ((Below.refl w.heap.size w).alloc (Nat.le_refl _) _).drew⟩
/-- of a table: how much must be said -/
def LeT (n mm : Nat) (R : Nat → SB) : Nat := SY (alT R n mm) (2 ^ n - 1) (2 ^ mm - 1)
theorem bnd7 : bndT 8 ≤ 2 ^ 50 := by decide +kernel
theorem pc_full : ∀ k : Nat, k ≤ 4 → 1 ≤ k → 0 < 2 ^ k - 1 ∧ 2 ^ k - 1 < 16 := by decide +kernel
set_option maxRecDepth 100000 in
set_option maxHeartbeats 2000000 in
theorem leastT_any (A : Option Addr) (n c : Nat) (R : Nat → SB) (w : World) (h : GrT w A n R) (hn : n ≤ maxLen) :
    Calls Try.prog 6 #[.slice A n c] w fun e w' => e = .returned (.tuple #[.int .i64 (if tkE n R = 0 then (LeT n (R 0).n R : Nat) else 0), .int .i64 (tkE n R)]) ∧ Below w.heap.size w w' := by
  have H := Lib.hid h
  have HN := Lib.hid hn
  obtain ⟨x, hx⟩ : ∃ x, x = tkE n R := ⟨_, rfl⟩
  have HX := Lib.hid hx
  have hz := fun (h0 : x = 0) => tkE_zero (n := n) (R := R) (by rw [← hx]; exact h0)
  rw [← hx]
  have hnx := hn
  unfold maxLen at hnx
  clear h hn
  by_cases hx0 : x = 0
  · obtain ⟨hn4, hm4, hlen⟩ := hz hx0
    obtain ⟨mm, hmm⟩ : ∃ mm, mm = (R 0).n := ⟨_, rfl⟩
    rw [← hmm] at hm4 hlen
    have HM0 : Hid ((R 0).n = mm) := Lib.hid hmm.symm
    have HL := Lib.hid hlen
    have hf1 := pc_full n hn4.2 hn4.1
    have hf2 := pc_full mm hm4.2 hm4.1
    have hp1 := (pc_facts (2 ^ n - 1) hf1.2).1
    have hp2 := (pc_facts (2 ^ mm - 1) hf2.2).1
    obtain ⟨r, hr⟩ : ∃ r, r = 2 ^ n - 1 := ⟨_, rfl⟩
    obtain ⟨cl, hcl⟩ : ∃ r, r = 2 ^ mm - 1 := ⟨_, rfl⟩
    have hV : LeT n mm R = SY (alT R n mm) r cl := by rw [hr, hcl]; rfl
    have HWH := Lib.hid fun X (hX : Below w.heap.size w X) => whole_any A n c mm R X (H.out.below hX) hn4 hm4 hmm.symm
    rw [← hr, ← hcl] at HWH
    rw [← hr] at hf1 hp1
    rw [← hcl] at hf2 hp2
    have hcall : ∀ (X : World) (kb mb : Nat), TK w X kb mb 0 A n c (SY (alT R n mm)) → Calls Try.prog 15 #[.pointer (some ⟨kb, 0, none⟩), .agg #[.int .u64 (r : Nat), .int .u64 (cl : Nat)]] X (LeastP w X kb mb (0 + bndT 8) A n c (SY (alT R n mm)) (LeT n mm R)) := fun X kb mb hT => by
      rw [hV]
      exact least_any w kb mb n c mm A R H.out hn4.2 hm4.2 (fun i hi => by rw [hlen i hi]) 8 r cl 0 X hT hf1.1 hf1.2 hf2.1 hf2.2 (by omega) (by have := bnd7; omega)
    have HCALL := Lib.hid hcall
    obtain ⟨v, hv⟩ : ∃ v, v = LeT n mm R := ⟨_, rfl⟩
    rw [← hmm, ← hv]
    rw [← hv] at HCALL
    subst hx0
    clear hx hz hlen hcall hV hf1 hf2 hp1 hp2 hr hcl hmm hv hn4 hm4
    go_enter Try.func6, Try.ntmps6
    go_wp2_with fail
    refine (wrongT_any A n c R w H.out HN.out).mono ?_
    rintro e w1 ⟨rfl, hb1⟩
    rw [← HX.out]
    have HB1 := Lib.hid hb1
    clear hb1
    have hmk := fun W => run_makeMap (P := Try.prog) 38 W
    obtain ⟨mb, hmb⟩ : ∃ b, b = w1.heap.size := ⟨_, rfl⟩
    obtain ⟨W2, hW2⟩ : ∃ X, X = (w1.alloc (.map #[] 0)).alloc (.cells #[.slice A n c, .map (some mb)] 40) := ⟨_, rfl⟩
    have hT : TK w W2 (mb + 1) mb 0 A n c (SY (alT R n mm)) := by
      have hb2 : Below w1.heap.size w1 (w1.alloc (.map #[] 0)) := (Below.refl _ _).alloc (Nat.le_refl _) _
      have hsz : (w1.alloc (.map #[] 0)).heap.size = mb + 1 := by rw [hmb]; simp
      have hb3 : Below (w1.alloc (.map #[] 0)).heap.size (w1.alloc (.map #[] 0)) W2 := by rw [hW2]; exact (Below.refl _ _).alloc (Nat.le_refl _) _
      refine ⟨?_, by rw [hmb]; exact HB1.out.size, ?_, ?_⟩
      · have := World.rowIs_alloc (w1.alloc (.map #[] 0)) #[.slice A n c, .map (some mb)] 40 (t2f (.slice A n c) (.map (some mb))) (fun i hi => by
          have : i = 0 ∨ i = 1 := by simp at hi; omega
          rcases this with rfl | rfl <;> rfl)
        rw [hsz] at this
        rw [hW2]
        exact this
      · exact (HB1.out.trans (hb2.mono HB1.out.size)).trans (hb3.mono (Nat.le_trans HB1.out.size hb2.size))
      · have hm := MapP.made w1 (SY (alT R n mm))
        rw [← hmb] at hm
        exact hm.below hb3
    have HT := Lib.hid hT
    have HW2 := Lib.hid hW2
    have HMB := Lib.hid hmb
    clear hT hW2 hmb
    go_wp2_with fail
    rw [← HMB.out, ← HW2.out]
    refine (HWH.out W2 HT.out.bel).mono ?_
    rintro e w3 ⟨rfl, hb3⟩
    have HT3 := Lib.hid (HT.out.below hb3)
    clear hb3 hmk
    go_wp2_with fail
    refine (HCALL.out w3 _ _ HT3.out).mono ?_
    rintro e w4 hp
    obtain ⟨m', _, ht4⟩ := hp.2.1
    obtain rfl := hp.1
    have HBE := Lib.hid ht4.bel
    clear ht4 hp
    go_wp2_with fail
    go_ret2
    exact ⟨rfl, HBE.out⟩
  · go_enter Try.func6, Try.ntmps6
    go_wp2_with fail
    refine (wrongT_any A n c R w H.out HN.out).mono ?_
    rintro e w1 ⟨rfl, hb1⟩
    have HB1 := Lib.hid hb1
    rw [← HX.out]
    clear hb1 hx
    go_wp2_with fail
    go_ret2
    exact ⟨rfl, HB1.out⟩
end Go.Proofs.Ytnfibchffbdmpaa
