/- What gate.All, gate.Check and gate.Value compute. Conditions: as each theorem states. -/
import Derived.Test.YtkjppkghobdjoaaGateFns
namespace Go.Proofs.Ytkjppkghobdjoaa
open Go.ChangeShapes Go.WideShapes Go.ChangeAt Go.RowKit
set_option linter.unusedVariables false
theorem EB : Elem Try.prog 31 4 1 1 := Elem.of Try.underlying31 (by kernel_rfl : (Try.prog.info? 4).map (fun i => (i.zero, i.size, i.bytes)) = some (some (.bool false), 1, 1)) rfl (by omega)
/-- of one gate, from those ahead of it -/
def gv (F : Nat → Int) (g : Nat → Bool) (k : Nat) (V : Nat → Bool) : Bool :=
  if F (3 * k) = 1 then g (F (3 * k + 1)).toNat else if F (3 * k) = 2 then !(V (F (3 * k + 1)).toNat) else if F (3 * k) = 3 then V (F (3 * k + 1)).toNat && V (F (3 * k + 2)).toNat else V (F (3 * k + 1)).toNat || V (F (3 * k + 2)).toNat
def VA (F : Nat → Int) (g : Nat → Bool) : Nat → Nat → Bool
  | 0, _ => false
  | k + 1, z => if z = k then gv F g k (VA F g k) else VA F g k z
theorem gE_zero {inn : Int} {F : Nat → Int} {k : Nat} (h : gE inn F k = 0) : 1 ≤ F (3 * k) ∧ F (3 * k) ≤ 4 ∧ (F (3 * k) = 1 → 0 ≤ F (3 * k + 1) ∧ F (3 * k + 1) < inn) ∧ (1 < F (3 * k) → 0 ≤ F (3 * k + 1) ∧ F (3 * k + 1) < k) ∧ (2 < F (3 * k) → 0 ≤ F (3 * k + 2) ∧ F (3 * k + 2) < k) := by
  unfold gE at h
  by_cases h1 : F (3 * k) < 1 ∨ 4 < F (3 * k)
  · rw [if_pos h1] at h; omega
  · rw [if_neg h1] at h
    by_cases h2 : F (3 * k) = 1 ∧ (F (3 * k + 1) < 0 ∨ inn ≤ F (3 * k + 1))
    · rw [if_pos h2] at h; omega
    · rw [if_neg h2] at h
      by_cases h3 : (1 < F (3 * k) ∧ ¬ (0 ≤ F (3 * k + 1) ∧ F (3 * k + 1) < k)) ∨ (2 < F (3 * k) ∧ ¬ (0 ≤ F (3 * k + 2) ∧ F (3 * k + 2) < k))
      · rw [if_pos h3] at h; omega
      · omega
set_option maxRecDepth 100000 in
set_option maxHeartbeats 1000000 in
theorem all_any (A B : Option Addr) (n c p d : Nat) (F : Nat → Int) (g : Nat → Bool) (w : World) (h : Rd w A (n * 3) (fun q => .int .i64 (F q))) (hg : Rd w B p (fun q => .bool (g q))) (hn : n ≤ 1000000) (hp : p ≤ 1000000) (hok : ∀ k, k < n → gE (p : Int) F k = 0) :
    Calls Try.prog 15 #[.slice A n c, .slice B p d] w fun e w' => ∃ A' c', e = .returned (.slice A' n c') ∧ Own w' w.heap.size 4 1 A' n c' n (fun i => .bool (VA F g n i)) ∧ Below w.heap.size w w' := by
  have H := Lib.hid h
  have G := Lib.hid hg
  have OK := Lib.hid hok
  clear h hg hok
  go_enter Try.func15, Try.ntmps15
  go_wp2_with fail
  go_loopw [5, 11] (fun v i wr => ∃ (k : Nat) (A' : Option Addr) (c' : Nat), k ≤ n ∧ i = .int .i64 k ∧ v = .slice A' k c' ∧ Own wr w.heap.size 4 1 A' k c' k (fun i => .bool (VA F g k i)) ∧ Below w.heap.size w wr) (fun _ i _ => n - (intOf i).toNat)
  case atStart => exact ⟨0, none, 0, Nat.zero_le _, rfl, rfl, Own.nil _ _ _ _ _, Below.refl _ _⟩
  case round =>
    obtain ⟨wo, rfl⟩ : ∃ wo : World, wo = wr := ⟨_, rfl⟩
    obtain ⟨k, A', c', hk, rfl, rfl, hown, hbel⟩ := hrel
    by_cases hlt : k < n
    · obtain ⟨b, off, rfl, hc1, hc2, hc3⟩ := (H.out.below hbel).at3 hlt
      obtain ⟨z1, z2, z3, z4, z5⟩ := gE_zero (OK.out k hlt)
      have hgv : gv F g k (VA F g k) = (if F (3 * k) = 1 then g (F (3 * k + 1)).toNat else if F (3 * k) = 2 then !(VA F g k (F (3 * k + 1)).toNat) else if F (3 * k) = 3 then VA F g k (F (3 * k + 1)).toNat && VA F g k (F (3 * k + 2)).toNat else VA F g k (F (3 * k + 1)).toNat || VA F g k (F (3 * k + 2)).toNat) := rfl
      obtain ⟨kd, hkd⟩ : ∃ x, x = F (3 * k) := ⟨_, rfl⟩
      obtain ⟨ga, hga⟩ : ∃ x, x = F (3 * k + 1) := ⟨_, rfl⟩
      obtain ⟨gb, hgb⟩ : ∃ x, x = F (3 * k + 2) := ⟨_, rfl⟩
      rw [← hkd, ← hga, ← hgb] at hgv
      rw [← hkd, ← hga] at z3 z4
      rw [← hkd, ← hgb] at z5
      rw [← hkd] at hc1 z1 z2
      rw [← hga] at hc2
      rw [← hgb] at hc3
      have hsz := hbel.size
      have hce : ∀ (x : Bool), gv F g k (VA F g k) = x → ∀ i, i < k + 1 → cat k (fun i => .bool (VA F g k i)) (fun _ => .bool x) i = (.bool (VA F g (k + 1) i) : Value) := fun x hx i hi => by
        show _ = Value.bool (if i = k then gv F g k (VA F g k) else VA F g k i)
        by_cases e : i = k
        · subst e; rw [cat_ge (Nat.le_refl _), if_pos rfl, hx]
        · rw [cat_lt (by omega), if_neg e]
      have HCE := Lib.hid hce
      have hb2 := hbel.alloc hbel.size (.cells #[.int .i64 kd, .int .i64 ga, .int .i64 gb] 46)
      have hone : ∀ v : Value, Rd ((wo.alloc (.cells #[.int .i64 kd, .int .i64 ga, .int .i64 gb] 46)).alloc (.cells #[v] 4)) (some ⟨wo.heap.size + 1, 0, none⟩) 1 (fun _ => v) := fun v => by
        have := Rd.one (wo.alloc (.cells #[.int .i64 kd, .int .i64 ga, .int .i64 gb] 46)) v 4
        rw [show (wo.alloc (.cells #[.int .i64 kd, .int .i64 ga, .int .i64 gb] 46)).heap.size = wo.heap.size + 1 by simp] at this
        exact this
      have hcase : kd = 1 ∨ kd = 2 ∨ kd = 3 ∨ kd = 4 := by omega
      clear hkd hga hgb hce z1 z2
      rcases hcase with hkd | hkd | hkd | hkd
      · subst hkd
        obtain ⟨a0, a1⟩ := z3 rfl
        obtain ⟨a, rfl⟩ := Int.eq_ofNat_of_zero_le a0
        obtain ⟨b1, o1, rfl, _, cc1⟩ := (G.out.below hbel).at_ (show a < p by omega)
        rw [if_pos rfl, Int.toNat_natCast] at hgv
        obtain ⟨x, hx⟩ : ∃ x, x = g a := ⟨_, rfl⟩
        rw [← hx] at hgv cc1
        have HGV := Lib.hid hgv
        clear hgv hx z3 z4 z5
        go_wp2_with (at_builtin; refine wpList_app _ rfl (.tmp 60) (.tmp 62) 31 rfl EB rfl ((hown.alloc _).alloc _) rfl (l := 1) (by omega) (hone _) (fun _ _ => rfl) (by unfold maxLen; omega) (by omega) (by simp; omega) (k + 1) (k + 1) rfl rfl ?_; intro A2 c2 w3 hown2 hg2 hat2 hbl2)
        go_roundw
        case rel => exact ⟨k + 1, A2, c2, by omega, by go_num, rfl, hown2.congr (HCE.out _ HGV.out), (hb2.alloc hb2.size _).trans hbl2⟩
        case measure => simp [intOf]; omega
      · subst hkd
        obtain ⟨a0, a1⟩ := z4 (by omega)
        obtain ⟨a, rfl⟩ := Int.eq_ofNat_of_zero_le a0
        obtain ⟨b1, o1, rfl, _, cc1⟩ := hown.rd.at_ (show a < k by omega)
        rw [if_neg (by omega), if_pos rfl, Int.toNat_natCast] at hgv
        obtain ⟨x, hx⟩ : ∃ x, x = VA F g k a := ⟨_, rfl⟩
        rw [← hx] at hgv cc1
        have HGV := Lib.hid hgv
        clear hgv hx z3 z4 z5
        go_wp2_with (at_builtin; refine wpList_app _ rfl (.tmp 60) (.tmp 62) 31 rfl EB rfl ((hown.alloc _).alloc _) rfl (l := 1) (by omega) (hone _) (fun _ _ => rfl) (by unfold maxLen; omega) (by omega) (by simp; omega) (k + 1) (k + 1) rfl rfl ?_; intro A2 c2 w3 hown2 hg2 hat2 hbl2)
        go_roundw
        case rel => exact ⟨k + 1, A2, c2, by omega, by go_num, rfl, hown2.congr (HCE.out _ HGV.out), (hb2.alloc hb2.size _).trans hbl2⟩
        case measure => simp [intOf]; omega
      · subst hkd
        obtain ⟨a0, a1⟩ := z4 (by omega)
        obtain ⟨b0, b1'⟩ := z5 (by omega)
        obtain ⟨a, rfl⟩ := Int.eq_ofNat_of_zero_le a0
        obtain ⟨b', rfl⟩ := Int.eq_ofNat_of_zero_le b0
        obtain ⟨b1, o1, rfl, _, cc1⟩ := hown.rd.at_ (show a < k by omega)
        obtain ⟨b2, o2, e2, _, cc2⟩ := hown.rd.at_ (show b' < k by omega)
        injection e2 with e2; injection e2 with eb eo; subst eb; subst eo
        rw [if_neg (by omega), if_neg (by omega), if_pos rfl, Int.toNat_natCast, Int.toNat_natCast] at hgv
        obtain ⟨x, hx⟩ : ∃ x, x = VA F g k a := ⟨_, rfl⟩
        obtain ⟨y, hy⟩ : ∃ y, y = VA F g k b' := ⟨_, rfl⟩
        rw [← hx] at cc1
        rw [← hy] at cc2
        rw [← hx, ← hy] at hgv
        clear hx hy z3 z4 z5
        cases x with
        | true =>
          have HGV := Lib.hid hgv
          clear hgv
          go_wp2_with (at_builtin; refine wpList_app _ rfl (.tmp 60) (.tmp 62) 31 rfl EB rfl ((hown.alloc _).alloc _) rfl (l := 1) (by omega) (hone _) (fun _ _ => rfl) (by unfold maxLen; omega) (by omega) (by simp; omega) (k + 1) (k + 1) rfl rfl ?_; intro A2 c2 w3 hown2 hg2 hat2 hbl2)
          go_roundw
          case rel => exact ⟨k + 1, A2, c2, by omega, by go_num, rfl, hown2.congr (HCE.out _ HGV.out), (hb2.alloc hb2.size _).trans hbl2⟩
          case measure => simp [intOf]; omega
        | false =>
          have HGV := Lib.hid hgv
          clear hgv
          go_wp2_with (at_builtin; refine wpList_app _ rfl (.tmp 60) (.tmp 62) 31 rfl EB rfl ((hown.alloc _).alloc _) rfl (l := 1) (by omega) (hone _) (fun _ _ => rfl) (by unfold maxLen; omega) (by omega) (by simp; omega) (k + 1) (k + 1) rfl rfl ?_; intro A2 c2 w3 hown2 hg2 hat2 hbl2)
          go_roundw
          case rel => exact ⟨k + 1, A2, c2, by omega, by go_num, rfl, hown2.congr (HCE.out _ HGV.out), (hb2.alloc hb2.size _).trans hbl2⟩
          case measure => simp [intOf]; omega
      · subst hkd
        obtain ⟨a0, a1⟩ := z4 (by omega)
        obtain ⟨b0, b1'⟩ := z5 (by omega)
        obtain ⟨a, rfl⟩ := Int.eq_ofNat_of_zero_le a0
        obtain ⟨b', rfl⟩ := Int.eq_ofNat_of_zero_le b0
        obtain ⟨b1, o1, rfl, _, cc1⟩ := hown.rd.at_ (show a < k by omega)
        obtain ⟨b2, o2, e2, _, cc2⟩ := hown.rd.at_ (show b' < k by omega)
        injection e2 with e2; injection e2 with eb eo; subst eb; subst eo
        rw [if_neg (by omega), if_neg (by omega), if_neg (by omega), Int.toNat_natCast, Int.toNat_natCast] at hgv
        obtain ⟨x, hx⟩ : ∃ x, x = VA F g k a := ⟨_, rfl⟩
        obtain ⟨y, hy⟩ : ∃ y, y = VA F g k b' := ⟨_, rfl⟩
        rw [← hx] at cc1
        rw [← hy] at cc2
        rw [← hx, ← hy] at hgv
        clear hx hy z3 z4 z5
        cases x with
        | true =>
          have HGV := Lib.hid hgv
          clear hgv
          go_wp2_with (at_builtin; refine wpList_app _ rfl (.tmp 60) (.tmp 62) 31 rfl EB rfl ((hown.alloc _).alloc _) rfl (l := 1) (by omega) (hone _) (fun _ _ => rfl) (by unfold maxLen; omega) (by omega) (by simp; omega) (k + 1) (k + 1) rfl rfl ?_; intro A2 c2 w3 hown2 hg2 hat2 hbl2)
          go_roundw
          case rel => exact ⟨k + 1, A2, c2, by omega, by go_num, rfl, hown2.congr (HCE.out _ HGV.out), (hb2.alloc hb2.size _).trans hbl2⟩
          case measure => simp [intOf]; omega
        | false =>
          have HGV := Lib.hid hgv
          clear hgv
          go_wp2_with (at_builtin; refine wpList_app _ rfl (.tmp 60) (.tmp 62) 31 rfl EB rfl ((hown.alloc _).alloc _) rfl (l := 1) (by omega) (hone _) (fun _ _ => rfl) (by unfold maxLen; omega) (by omega) (by simp; omega) (k + 1) (k + 1) rfl rfl ?_; intro A2 c2 w3 hown2 hg2 hat2 hbl2)
          go_roundw
          case rel => exact ⟨k + 1, A2, c2, by omega, by go_num, rfl, hown2.congr (HCE.out _ HGV.out), (hb2.alloc hb2.size _).trans hbl2⟩
          case measure => simp [intOf]; omega
    · obtain rfl : k = n := by omega
      go_wp2_with fail
      go_ret
      exact ⟨_, _, rfl, hown, hbel⟩
end Go.Proofs.Ytkjppkghobdjoaa
