/- Appending a negation negates the value of a circuit. No condition. -/
import Derived.Test.YtcpcamblnkcefaaGateValue
namespace Go.Proofs.Ytcpcamblnkcefaa.gateNot
open Go.ChangeShapes Go.WideShapes Go.ChangeAt Go.RowKit
set_option linter.unusedVariables false
theorem EG : Elem Try.prog 22 28 3 24 := Elem.of Try.underlying22 (by kernel_rfl : (Try.prog.info? 28).map (fun i => (i.zero, i.size, i.bytes)) = some (some (.agg #[.int .i64 0, .int .i64 0, .int .i64 0]), 3, 24)) rfl (by omega)
/-- one gate more -/
def one (F : Nat → Int) (n : Nat) (q : Nat) : Int := if q < n * 3 then F q else if q = n * 3 then 2 else if q = n * 3 + 1 then (n : Int) - 1 else 0
theorem one_lt {F : Nat → Int} {n q : Nat} (h : q < n * 3) : one F n q = F q := by unfold one; rw [if_pos h]
theorem one_0 (F : Nat → Int) (n : Nat) : one F n (3 * n) = 2 := by unfold one; rw [if_neg (by omega), if_pos (by omega)]
theorem one_1 (F : Nat → Int) (n : Nat) : one F n (3 * n + 1) = (n : Int) - 1 := by unfold one; rw [if_neg (by omega), if_neg (by omega), if_pos (by omega)]
theorem gE_one (inn : Int) (F : Nat → Int) (n k : Nat) (h : k < n) : gE inn (one F n) k = gE inn F k := by
  unfold gE; rw [one_lt (show 3 * k < n * 3 by omega), one_lt (show 3 * k + 1 < n * 3 by omega), one_lt (show 3 * k + 2 < n * 3 by omega)]
theorem gw_one (inn : Int) (F : Nat → Int) (n : Nat) : ∀ k, k ≤ n → gw inn (one F n) k = gw inn F k := by
  intro k
  induction k with
  | zero => intro _; rfl
  | succ k ih => intro hk; simp only [gw]; rw [ih (by omega), gE_one inn F n k (by omega)]
theorem gE_new (inn : Int) (F : Nat → Int) (n : Nat) (h : 1 ≤ n) : gE inn (one F n) n = 0 := by
  unfold gE; rw [one_0, one_1, if_neg (by omega), if_neg (by omega), if_neg (by omega)]
theorem VA_one (F : Nat → Int) (g : Nat → Bool) (n : Nat) : ∀ k, k ≤ n → ∀ z, VA (one F n) g k z = VA F g k z := by
  intro k
  induction k with
  | zero => intro _ z; rfl
  | succ k ih =>
    intro hk z
    have ih := ih (by omega)
    simp only [VA]
    have e : VA (one F n) g k = VA F g k := funext ih
    rw [e]
    by_cases ez : z = k
    · rw [if_pos ez, if_pos ez]
      unfold gv; rw [one_lt (show 3 * k < n * 3 by omega), one_lt (show 3 * k + 1 < n * 3 by omega), one_lt (show 3 * k + 2 < n * 3 by omega)]
    · rw [if_neg ez, if_neg ez]
theorem VA_new (F : Nat → Int) (g : Nat → Bool) (n : Nat) (h : 1 ≤ n) : VA (one F n) g (n + 1) n = !(VA F g n (n - 1)) := by
  simp only [VA, if_pos]
  unfold gv
  rw [one_0, one_1, if_neg (by omega), if_pos rfl, VA_one F g n n (Nat.le_refl _), show ((n : Int) - 1).toNat = n - 1 by omega]
theorem v_full {inn : Int} {F : Nat → Int} {n p : Nat} (h : vE inn F n p = 0) (h40 : n = 40) : vE inn (one F n) (n + 1) p = 1 := by
  have hc : ckE inn (one F n) (n + 1) = 1 := by unfold ckE; exact if_pos (.inr (.inr (.inr (by omega))))
  unfold vE; rw [hc]; rfl
theorem v_more {inn : Int} {F : Nat → Int} {g : Nat → Bool} {n p : Nat} (h : vE inn F n p = 0) (h40 : n ≠ 40) : vE inn (one F n) (n + 1) p = 0 ∧ vB inn (one F n) g (n + 1) p = !(vB inn F g n p) := by
  have h' := h
  unfold vE at h'
  by_cases hc : ckE inn F n = 0
  · rw [if_pos hc] at h'
    obtain ⟨i0, i5, n1, n40, hw⟩ := ckE_zero hc
    have hp : (p : Int) = inn := by
      by_cases e : (p : Int) = inn
      · exact e
      · rw [if_neg e] at h'; omega
    have hc2 : ckE inn (one F n) (n + 1) = 0 := by
      unfold ckE; rw [if_neg (by omega)]
      show (if gw inn (one F n) n = 0 then gE inn (one F n) n else _) = 0
      rw [gw_one inn F n n (Nat.le_refl _), if_pos hw, gE_new inn F n n1]
    have hv : vE inn (one F n) (n + 1) p = 0 := by unfold vE; rw [if_pos hc2, if_pos hp]
    refine ⟨hv, ?_⟩
    unfold vB
    rw [if_pos hv, if_pos h, Nat.add_sub_cancel, VA_new F g n n1]
  · rw [if_neg hc] at h'; exact absurd h' hc
theorem v_le {inn : Int} {F : Nat → Int} {n p : Nat} (h : vE inn F n p = 0) : 1 ≤ n ∧ n ≤ 40 := by
  unfold vE at h
  by_cases hc : ckE inn F n = 0
  · obtain ⟨_, _, n1, n40, _⟩ := ckE_zero hc; exact ⟨n1, n40⟩
  · rw [if_neg hc] at h; exact absurd h hc
set_option maxRecDepth 100000 in
theorem walk (w : World) (inn : Int) (A : Option Addr) (n c : Nat) (F : Nat → Int) (B : Option Addr) (p d : Nat) (g : Nat → Bool) (wn : (Lit.int .i64 inn).wf = true) (h : Rd w A (n * 3) (fun q => .int .i64 (F q))) (wf : ∀ i, (Lit.int .i64 (F i)).wf = true) (hl : n ≤ c) (hm : c ≤ maxLen) (z : c * 24 ≤ 140737488351232) (h2 : Rd w B p (fun q => .bool (g q))) (hl2 : p ≤ d) (hm2 : d ≤ maxLen) (z2 : d * 1 ≤ 140737488351232) :
    Calls Try.prog 3 #[.int .i64 inn, .slice A n c, .slice B p d] w fun e w' => e = .returned (.bool true) ∧ Below w.heap.size w w' := by
  have hnl : n ≤ maxLen := by omega
  have hpl : p ≤ maxLen := by omega
  have H := Lib.hid h
  have G := Lib.hid h2
  clear wn wf hl hm z hl2 hm2 z2 h h2
  by_cases hv : vE inn F n p = 0
  · obtain ⟨n1, n40⟩ := v_le hv
    go_enter Try.func3, Try.ntmps3
    go_wp2_with fail
    refine (value_any inn A B n c p d F g w H.out G.out hnl hpl).mono ?_
    rintro e w1 ⟨rfl, hb1⟩
    rw [hv]
    have HV := Lib.hid hv
    clear hv
    have e1 : IntKind.i64.wrap ((n : Int) - 1) = n - 1 := IntWalk.i64_in _ (by omega)
    have hrd := H.out.below hb1
    have hr3 : ∀ W : World, Rd (W.alloc (.cells #[.int .i64 2, .int .i64 ((n : Int) - 1), .int .i64 0] 28)) (some ⟨W.heap.size, 0, none⟩) 3 (fun q => .int .i64 (if q = 0 then 2 else if q = 1 then (n : Int) - 1 else 0)) := fun W => by
      refine Rd.of_row (World.rowIs_alloc W #[.int .i64 2, .int .i64 ((n : Int) - 1), .int .i64 0] 28 _ fun i hi => ?_) (Nat.le_refl _)
      have : i < 3 := hi
      match i, this with
      | 0, _ => simp
      | 1, _ => simp
      | 2, _ => simp
    go_wp2_with (first
      | (at_builtin; refine wpList_app _ rfl (.tmp 24) (.tmp 25) 22 rfl EG rfl (Own.empty w1 w1.heap.size 28 3 (fun _ => .int .i64 0) (Nat.le_refl _)) rfl (l := n * 3) (by omega) (hrd.alloc _) (fun _ _ => rfl) (by unfold maxLen; omega) (by omega) (by simp) n (n * 3) (by omega) (by omega) ?_; intro A2 c2 w2 hown2 hg2 hat2 hbl2)
      | (at_builtin; refine wpList_app _ rfl (.tmp 26) (.tmp 31) 22 rfl EG rfl (hown2.alloc _) rfl (l := 3) (by omega) (hr3 _) (fun _ _ => rfl) (by unfold maxLen; omega) (by omega) (by have := hbl2.size; simp at this ⊢; omega) (n + 1) ((n + 1) * 3) (by omega) (by omega) ?_; intro A3 c3 w3 hown3 hg3 hat3 hbl3))
    have hb3 : Below w.heap.size w w3 := by
      have x1 := ((Below.refl w1.heap.size w1).alloc (Nat.le_refl _) (.cells #[] 28)).trans hbl2
      have x2 := (x1.alloc x1.size (.cells #[.int .i64 2, .int .i64 ((n : Int) - 1), .int .i64 0] 28)).trans hbl3
      exact hb1.trans (x2.mono hb1.size)
    have hrd3 : Rd w3 A3 ((n + 1) * 3) (fun q => .int .i64 (one F n q)) := hown3.rd.congr fun q hq => by
      by_cases e : q < n * 3
      · rw [cat_lt e, cat_ge (Nat.zero_le _), one_lt e, Nat.sub_zero]
      · rw [cat_ge (by omega)]
        unfold one
        rw [if_neg e]
        by_cases e0 : q = n * 3
        · rw [if_pos e0, if_pos (by omega)]
        · rw [if_neg e0, if_neg (by omega)]
          by_cases e1 : q = n * 3 + 1
          · rw [if_pos e1, if_pos (by omega)]
          · rw [if_neg e1, if_neg (by omega)]
    have HR3 := Lib.hid hrd3
    clear hrd3 hown3 hown2 hg2 hat2 hg3 hat3 hbl2 hbl3 hrd hr3
    refine (value_any inn A3 B (n + 1) c3 p d (one F n) g w3 HR3.out (G.out.below hb3) (by unfold maxLen; omega) hpl).mono ?_
    rintro e w4 ⟨rfl, hb4⟩
    by_cases h40 : n = 40
    · have hv := v_full (F := F) (p := p) HV.out h40
      rw [hv]
      clear hv
      go_wp2_with fail
      go_ret
      exact ⟨rfl, hb3.trans (hb4.mono hb3.size)⟩
    · obtain ⟨hv, hvb⟩ := v_more (g := g) HV.out h40
      rw [hv, hvb]
      have hne : ((n : Int) == 40) = false := by rw [beq_eq_false_iff_ne]; omega
      clear hv hvb
      cases hx : vB inn F g n p with
      | true =>
        clear hx
        go_wp2_with fail
        go_ret
        exact ⟨rfl, hb3.trans (hb4.mono hb3.size)⟩
      | false =>
        clear hx
        go_wp2_with fail
        go_ret
        exact ⟨rfl, hb3.trans (hb4.mono hb3.size)⟩
  · have hq : (vE inn F n p != 0) = true := by rw [bne_iff_ne]; exact hv
    have hb : vB inn F g n p = false := by unfold vB; rw [if_neg hv]
    clear hv
    go_enter Try.func3, Try.ntmps3
    go_wp2_with fail
    refine (value_any inn A B n c p d F g w H.out G.out hnl hpl).mono ?_
    rintro e w1 ⟨rfl, hb1⟩
    rw [hb]
    go_wp2_with fail
    go_ret
    exact ⟨rfl, hb1⟩
end Go.Proofs.Ytcpcamblnkcefaa.gateNot
