/- The references' part, Stepped and Stands. Condition: the tree lies as told. -/
import Derived.Test.YtmbemikhbcjfmaaCombStep
namespace Go.Proofs.Ytmbemikhbcjfmaa
open Go.ChangeShapes Go.WideShapes Go.ChangeAt Go.RowKit
set_option linter.unusedVariables false
set_option linter.unusedSimpArgs false
set_option maxRecDepth 100000 in
theorem rput_any (p q : Option Addr) (w : World) : Calls Try.prog 26 #[.pointer p, .pointer q] w fun e w' => (∃ r : Option Addr, e = .returned (.pointer r)) ∧ Below w.heap.size w w' := by
  go_enter Try.func26, Try.ntmps26
  go_wp2_with fail
  go_ret
  exact ⟨⟨_, rfl⟩, (Below.refl _ _).alloc (Nat.le_refl _) _⟩
def PtP (b : Bool) (e : Ending) : Prop := ∃ r : Option Addr, e = .returned (.tuple #[.pointer r, .bool b])
theorem rdx_some (t : Tm) : (rdx t).isSome = (decide (isK t) || decide (isS t)) := by
  unfold rdx
  by_cases h : isK t
  · rw [if_pos h]; simp [h]
  · rw [if_neg h]
    by_cases h2 : isS t
    · rw [if_pos h2]; simp [h2]
    · rw [if_neg h2]; simp [h, h2]
theorem rdx_val (t : Tm) {b : Bool} (hk : isK t ∨ isS t ↔ b = true) : (rdx t).isSome = b := by
  rw [rdx_some]
  cases b with
  | true => rcases hk.2 rfl with h | h <;> simp [h]
  | false =>
    have h1 : ¬ isK t := fun h => by have := hk.1 (.inl h); cases this
    have h2 : ¬ isS t := fun h => by have := hk.1 (.inr h); cases this
    simp [h1, h2]
set_option maxRecDepth 100000 in
set_option maxHeartbeats 4000000 in
theorem part_any (t : Tm) (g : Nat) (w : World) (h : TAt 43 w t g) : Calls Try.prog 25 #[.pointer (some ⟨g, 0, none⟩)] w fun e w' => PtP (rdx t).isSome e ∧ Below w.heap.size w w' := by
  cases t with
  | lf k v =>
    rw [rdx_val (b := false) (.lf k v) ⟨fun h => (h.elim (fun h => absurd h (lf_noK k v)) (fun h => absurd h (lf_noS k v))), fun h => by cases h⟩]
    have c0 : w.cell? ⟨g, 0, none⟩ = some (.int .i64 k) := kd_cell h
    have q : (k != 4) = true := by rw [bne_iff_ne]; exact h.1
    clear h
    go_enter Try.func25, Try.ntmps25
    go_wp2_with fail
    go_ret2
    exact ⟨⟨_, rfl⟩, Below.refl _ _⟩
  | ap f q =>
    obtain ⟨gf, gq, hr, hf, hq⟩ := h
    have c0 : w.cell? ⟨g, 0, none⟩ = some (.int .i64 4) := hr.cell (i := 0) (by omega)
    have c2 : w.cell? ⟨g, 2, none⟩ = some (.pointer (some ⟨gf, 0, none⟩)) := hr.cell (i := 2) (by omega)
    have c3 : w.cell? ⟨g, 3, none⟩ = some (.pointer (some ⟨gq, 0, none⟩)) := hr.cell (i := 3) (by omega)
    clear hr
    cases f with
    | lf k v =>
      have hno : (isK (.ap (.lf k v) q) ∨ isS (.ap (.lf k v) q)) → False := fun h => by
        rcases h with h | h
        · have := h.1 1 (by omega); cases this
        · have := h.1 1 (by omega); cases this
      rw [rdx_val (b := false) (.ap (.lf k v) q) ⟨fun h => (hno h).elim, fun h => by cases h⟩]
      have d0 : w.cell? ⟨gf, 0, none⟩ = some (.int .i64 k) := kd_cell hf
      have qk : (k != 4) = true := by rw [bne_iff_ne]; exact hf.1
      clear hf hq
      go_enter Try.func25, Try.ntmps25
      go_wp2_with fail
      go_ret2
      exact ⟨⟨_, rfl⟩, Below.refl _ _⟩
    | ap hd p =>
      obtain ⟨gh, gp, hr, hh, hp⟩ := hf
      have d0 : w.cell? ⟨gf, 0, none⟩ = some (.int .i64 4) := hr.cell (i := 0) (by omega)
      have d2 : w.cell? ⟨gf, 2, none⟩ = some (.pointer (some ⟨gh, 0, none⟩)) := hr.cell (i := 2) (by omega)
      have d3 : w.cell? ⟨gf, 3, none⟩ = some (.pointer (some ⟨gp, 0, none⟩)) := hr.cell (i := 3) (by omega)
      clear hr
      cases hd with
      | lf k v =>
        have e0 : w.cell? ⟨gh, 0, none⟩ = some (.int .i64 k) := kd_cell hh
        have hk4 := hh.1
        clear hh hp hq
        by_cases hk2 : k = 2
        · subst hk2
          have hyes : isK (.ap (.ap (.lf 2 v) p) q) := ⟨fun j hj => (by
            match j, hj with
            | 0, _ => rfl
            | 1, _ => rfl), rfl⟩
          rw [rdx_val (b := true) (.ap (.ap (.lf 2 v) p) q) ⟨fun _ => rfl, fun _ => .inl hyes⟩]
          go_enter Try.func25, Try.ntmps25
          go_wp2_with fail
          go_ret2
          exact ⟨⟨_, rfl⟩, Below.refl _ _⟩
        · have hno : (isK (.ap (.ap (.lf k v) p) q) ∨ isS (.ap (.ap (.lf k v) p) q)) → False := fun h => by
            rcases h with h | h
            · exact absurd (show k = 2 from h.2) hk2
            · have := h.1 2 (by omega); cases this
          rw [rdx_val (b := false) (.ap (.ap (.lf k v) p) q) ⟨fun h => (hno h).elim, fun h => by cases h⟩]
          have q2 : (k == 2) = false := by rw [beq_eq_false_iff_ne]; exact hk2
          have q4 : (k == 4) = false := by rw [beq_eq_false_iff_ne]; exact hk4
          go_enter Try.func25, Try.ntmps25
          go_wp2_with fail
          go_ret2
          exact ⟨⟨_, rfl⟩, Below.refl _ _⟩
      | ap s x =>
        obtain ⟨gs, gx, hr, hs, hx⟩ := hh
        have e0 : w.cell? ⟨gh, 0, none⟩ = some (.int .i64 4) := hr.cell (i := 0) (by omega)
        have e2 : w.cell? ⟨gh, 2, none⟩ = some (.pointer (some ⟨gs, 0, none⟩)) := hr.cell (i := 2) (by omega)
        have e3 : w.cell? ⟨gh, 3, none⟩ = some (.pointer (some ⟨gx, 0, none⟩)) := hr.cell (i := 3) (by omega)
        have f0 : w.cell? ⟨gs, 0, none⟩ = some (.int .i64 (kdT s)) := kd_cell hs
        have hiff : isS (.ap (.ap (.ap s x) p) q) ↔ kdT s = 1 := ⟨fun h => h.2, fun h => ⟨fun j hj => (by
          match j, hj with
          | 0, _ => rfl
          | 1, _ => rfl
          | 2, _ => rfl), h⟩⟩
        have hnk : ¬ isK (.ap (.ap (.ap s x) p) q) := fun h => by
          have : (4 : Int) = 2 := h.2
          omega
        clear hr hs hx hp hq
        obtain ⟨ks, hks⟩ : ∃ k, k = kdT s := ⟨_, rfl⟩
        rw [← hks] at f0 hiff
        clear hks
        by_cases hk1 : ks = 1
        · rw [rdx_val (b := true) (.ap (.ap (.ap s x) p) q) ⟨fun _ => rfl, fun _ => .inr (hiff.2 hk1)⟩]
          subst hk1
          clear hiff hnk
          go_enter Try.func25, Try.ntmps25
          go_wp2_with fail
          refine (rput_any _ _ w).mono ?_
          rintro e w2 ⟨⟨r2, rfl⟩, hb2⟩
          go_wp2_with fail
          refine (rput_any _ _ w2).mono ?_
          rintro e w3 ⟨⟨r3, rfl⟩, hb3⟩
          go_wp2_with fail
          refine (rput_any _ _ w3).mono ?_
          rintro e w4 ⟨⟨r4, rfl⟩, hb4⟩
          go_wp2_with fail
          go_ret2
          exact ⟨⟨_, rfl⟩, (hb2.trans (hb3.mono hb2.size)).trans (hb4.mono (hb2.trans (hb3.mono hb2.size)).size)⟩
        · have hno : (isK (.ap (.ap (.ap s x) p) q) ∨ isS (.ap (.ap (.ap s x) p) q)) → False := fun h => by
            rcases h with h | h
            · exact absurd h hnk
            · exact absurd (hiff.1 h) hk1
          rw [rdx_val (b := false) (.ap (.ap (.ap s x) p) q) ⟨fun h => (hno h).elim, fun h => by cases h⟩]
          have q1 : (ks == 1) = false := by rw [beq_eq_false_iff_ne]; exact hk1
          clear hiff hnk
          go_enter Try.func25, Try.ntmps25
          go_wp2_with fail
          go_ret2
          exact ⟨⟨_, rfl⟩, Below.refl _ _⟩
theorem stp_some (a b : Tm) : (stp (.ap a b)).isSome = ((rdx (.ap a b)).isSome || (stp a).isSome || (stp b).isSome) := by
  show (match rdx (.ap a b) with
    | some r => some r
    | none => match stp a with
      | some a' => some (.ap a' b)
      | none => match stp b with
        | some b' => some (.ap a b')
        | none => none).isSome = _
  cases rdx (.ap a b) <;> cases stp a <;> cases stp b <;> rfl
set_option maxRecDepth 100000 in
set_option maxHeartbeats 4000000 in
theorem stepped_any : ∀ (t : Tm) (g : Nat) (w : World), TAt 43 w t g → Calls Try.prog 11 #[.pointer (some ⟨g, 0, none⟩)] w fun e w' => PtP (stp t).isSome e ∧ Below w.heap.size w w'
  | .lf k v, g, w, h => by
    have HP := Lib.hid (part_any (.lf k v) g w h)
    rw [show (rdx (.lf k v)).isSome = false from rdx_val (b := false) (.lf k v) ⟨fun h => (h.elim (fun h => absurd h (lf_noK k v)) (fun h => absurd h (lf_noS k v))), fun h => by cases h⟩] at HP
    rw [show (stp (.lf k v)).isSome = false from rfl]
    have hcl : ∀ X : World, Below w.heap.size w X → X.cell? ⟨g, 0, none⟩ = some (.int .i64 k) := fun X hX => kd_cell (h.below hX)
    have HCL := Lib.hid hcl
    have q : (k != 4) = true := by rw [bne_iff_ne]; exact h.1
    clear h hcl
    go_enter Try.func11, Try.ntmps11
    go_wp2_with fail
    refine HP.out.mono ?_
    rintro e w2 ⟨⟨r, rfl⟩, hb⟩
    have c0 := HCL.out _ hb
    go_wp2_with fail
    go_ret2
    exact ⟨⟨_, rfl⟩, hb⟩
  | .ap a b, g, w, h => by
    have HP := Lib.hid (part_any (.ap a b) g w h)
    obtain ⟨ga, gb, hrow, hta, htb⟩ := h
    have HSA := Lib.hid (fun X (hX : Below w.heap.size w X) => stepped_any a ga X (hta.below hX))
    have HSB := Lib.hid (fun X (hX : Below w.heap.size w X) => stepped_any b gb X (htb.below hX))
    have hcl : ∀ X : World, Below w.heap.size w X → X.cell? ⟨g, 0, none⟩ = some (.int .i64 4) ∧ X.cell? ⟨g, 2, none⟩ = some (.pointer (some ⟨ga, 0, none⟩)) ∧ X.cell? ⟨g, 3, none⟩ = some (.pointer (some ⟨gb, 0, none⟩)) := fun X hX => by
      have hr := row_below hrow hX hrow.lt
      exact ⟨hr.cell (i := 0) (by omega), hr.cell (i := 2) (by omega), hr.cell (i := 3) (by omega)⟩
    have HCL := Lib.hid hcl
    rw [stp_some]
    clear hcl hrow hta htb
    go_enter Try.func11, Try.ntmps11
    go_wp2_with fail
    refine HP.out.mono ?_
    rintro e w2 ⟨⟨r, rfl⟩, hb⟩
    have HB := Lib.hid hb
    obtain ⟨c0, c2, c3⟩ := HCL.out _ hb
    clear hb HP
    cases hr : (rdx (.ap a b)).isSome with
    | true =>
      have HRX := Lib.hid hr
      clear hr
      go_wp2_with fail
      go_ret2
      exact ⟨⟨r, by rw [HRX.out]; rfl⟩, HB.out⟩
    | false =>
      have HRX := Lib.hid hr
      clear hr
      go_wp2_with fail
      refine (HSA.out _ HB.out).mono ?_
      rintro e w3 ⟨⟨r3, rfl⟩, hb3⟩
      have HB3 := Lib.hid (HB.out.trans (hb3.mono HB.out.size))
      obtain ⟨d0, d2, d3⟩ := HCL.out _ HB3.out
      clear hb3 c0 c2 c3
      cases hsa : (stp a).isSome with
      | true =>
        have HSX := Lib.hid hsa
        clear hsa
        go_wp2_with fail
        refine (rput_any _ _ w3).mono ?_
        rintro e w4 ⟨⟨r4, rfl⟩, hb4⟩
        have HB4 := Lib.hid (HB3.out.trans (hb4.mono HB3.out.size))
        clear hb4
        go_wp2_with fail
        go_ret2
        exact ⟨⟨r4, by rw [HRX.out, HSX.out]; rfl⟩, HB4.out⟩
      | false =>
        have HSX := Lib.hid hsa
        clear hsa
        go_wp2_with fail
        refine (HSB.out _ HB3.out).mono ?_
        rintro e w4 ⟨⟨r4, rfl⟩, hb4⟩
        have HB4 := Lib.hid (HB3.out.trans (hb4.mono HB3.out.size))
        obtain ⟨f0, f2, f3⟩ := HCL.out _ HB4.out
        clear hb4 d0 d2 d3
        cases hsb : (stp b).isSome with
        | true =>
          have HSY := Lib.hid hsb
          clear hsb
          go_wp2_with fail
          refine (rput_any _ _ w4).mono ?_
          rintro e w5 ⟨⟨r5, rfl⟩, hb5⟩
          have HB5 := Lib.hid (HB4.out.trans (hb5.mono HB4.out.size))
          clear hb5
          go_wp2_with fail
          go_ret2
          exact ⟨⟨r5, by rw [HRX.out, HSX.out, HSY.out]; rfl⟩, HB5.out⟩
        | false =>
          have HSY := Lib.hid hsb
          clear hsb
          go_wp2_with fail
          go_ret2
          exact ⟨⟨none, by rw [HRX.out, HSX.out, HSY.out]; rfl⟩, HB4.out⟩
/-- does a variable stand in a term? -/
def stT (v : Int) : Tm → Bool
  | .lf k x => k == 3 && x == v
  | .ap a b => stT v a || stT v b
set_option maxRecDepth 100000 in
set_option maxHeartbeats 2000000 in
theorem stands_any (v : Int) : ∀ (t : Tm) (g : Nat) (w : World), TAt 43 w t g → Calls Try.prog 12 #[.pointer (some ⟨g, 0, none⟩), .int .i64 v] w fun e w' => e = .returned (.bool (stT v t)) ∧ w = w'
  | .lf k x, g, w, h => by
    have c0 : w.cell? ⟨g, 0, none⟩ = some (.int .i64 k) := h.2.2.2.cell (i := 0) (by omega)
    have c1 : w.cell? ⟨g, 1, none⟩ = some (.int .i64 x) := h.2.2.2.cell (i := 1) (by omega)
    have q4 : (k == 4) = false := by rw [beq_eq_false_iff_ne]; exact h.1
    rw [show stT v (.lf k x) = (k == 3 && x == v) from rfl]
    clear h
    by_cases h3 : k = 3
    · subst h3
      go_enter Try.func12, Try.ntmps12
      go_wp2_with fail
      go_ret
      exact ⟨ret_bool (by simp), rfl⟩
    · have q3 : (k == 3) = false := by rw [beq_eq_false_iff_ne]; exact h3
      go_enter Try.func12, Try.ntmps12
      go_wp2_with fail
      go_ret
      exact ⟨ret_bool (by rw [q3]; rfl), rfl⟩
  | .ap a b, g, w, h => by
    obtain ⟨ga, gb, hr, ha, hb⟩ := h
    have c0 : w.cell? ⟨g, 0, none⟩ = some (.int .i64 4) := hr.cell (i := 0) (by omega)
    have c2 : w.cell? ⟨g, 2, none⟩ = some (.pointer (some ⟨ga, 0, none⟩)) := hr.cell (i := 2) (by omega)
    have c3 : w.cell? ⟨g, 3, none⟩ = some (.pointer (some ⟨gb, 0, none⟩)) := hr.cell (i := 3) (by omega)
    have HA := Lib.hid (stands_any v a ga w ha)
    have HB := Lib.hid (stands_any v b gb w hb)
    rw [show stT v (.ap a b) = (stT v a || stT v b) from rfl]
    clear hr ha hb
    cases hsa : stT v a with
    | true =>
      rw [hsa] at HA
      have HSX := Lib.hid hsa
      clear hsa
      go_enter Try.func12, Try.ntmps12
      go_wp2_with fail
      refine HA.out.mono ?_
      rintro e w2 ⟨rfl, rfl⟩
      go_wp2_with fail
      go_ret
      exact ⟨rfl, rfl⟩
    | false =>
      rw [hsa] at HA
      have HSX := Lib.hid hsa
      clear hsa
      go_enter Try.func12, Try.ntmps12
      go_wp2_with fail
      refine HA.out.mono ?_
      rintro e w2 ⟨rfl, rfl⟩
      go_wp2_with fail
      refine HB.out.mono ?_
      rintro e w2 ⟨rfl, rfl⟩
      go_wp2_with fail
      go_ret
      exact ⟨rfl, rfl⟩
end Go.Proofs.Ytmbemikhbcjfmaa
