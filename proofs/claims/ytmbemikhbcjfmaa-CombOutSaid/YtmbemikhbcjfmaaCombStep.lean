/- comb's step. Condition: the tree lies as told. -/
import Derived.Test.YtmbemikhbcjfmaaCombLetter
import Derived.Test.YtmbemikhbcjfmaaCombWrite
namespace Go.Proofs.Ytmbemikhbcjfmaa
open Go.ChangeShapes Go.WideShapes Go.ChangeAt Go.RowKit
set_option linter.unusedVariables false
set_option linter.unusedSimpArgs false
def isK (t : Tm) : Prop := (∀ j, j < 2 → apT (hdT j t) = true) ∧ kdT (hdT 2 t) = 2
def isS (t : Tm) : Prop := (∀ j, j < 3 → apT (hdT j t) = true) ∧ kdT (hdT 3 t) = 1
instance (t : Tm) : Decidable (isK t) := by unfold isK; infer_instance
instance (t : Tm) : Decidable (isS t) := by unfold isS; infer_instance
def rdx (t : Tm) : Option Tm := if isK t then some (agT 1 t) else if isS t then some (.ap (.ap (agT 2 t) (agT 0 t)) (.ap (agT 1 t) (agT 0 t))) else none
def stp : Tm → Option Tm
  | .lf _ _ => none
  | .ap a b => match rdx (.ap a b) with
    | some r => some r
    | none => match stp a with
      | some a' => some (.ap a' b)
      | none => match stp b with
        | some b' => some (.ap a b')
        | none => none
def StP (r : Option Tm) (e : Ending) (w' : World) : Prop := match r with
  | none => e = .returned (.pointer none)
  | some t => ∃ g, e = .returned (.pointer (some ⟨g, 0, none⟩)) ∧ TAt 58 w' t g
theorem lf_noK (k v : Int) : ¬ isK (.lf k v) := fun h => by have := h.1 0 (by omega); cases this
theorem lf_noS (k v : Int) : ¬ isS (.lf k v) := fun h => by have := h.1 0 (by omega); cases this
/-- what letter tells, as one bool -/
theorem let_no {w : World} {t : Tm} {m : Nat} {k : Int} {e : Ending} {w' : World} (h : LetP w t m k e w') (hn : ¬ ((∀ j, j < m → apT (hdT j t) = true) ∧ kdT (hdT m t) = k)) : ∃ v, e = .returned (.tuple #[v, .bool false]) := by
  rcases h with ⟨_, rfl⟩ | ⟨ha, A, c, gs, rfl, _, _⟩
  · exact ⟨_, rfl⟩
  · have : (kdT (hdT m t) == k) = false := by rw [beq_eq_false_iff_ne]; exact fun e => hn ⟨ha, e⟩
    rw [this]
    exact ⟨_, rfl⟩
theorem let_yes {w : World} {t : Tm} {m : Nat} {k : Int} {e : Ending} {w' : World} (h : LetP w t m k e w') (hy : (∀ j, j < m → apT (hdT j t) = true) ∧ kdT (hdT m t) = k) : ∃ (A : Option Addr) (c : Nat) (gs : Nat → Nat), e = .returned (.tuple #[.slice A m c, .bool true]) ∧ Rd w' A m (fun q => ptrV (gs q)) ∧ ∀ q, q < m → TAt 58 w (agT (m - 1 - q) t) (gs q) := by
  rcases h with ⟨hn, _⟩ | ⟨ha, A, c, gs, rfl, h1, h2⟩
  · exact absurd hy.1 hn
  · rw [hy.2, beq_self_eq_true]
    exact ⟨A, c, gs, rfl, h1, h2⟩
set_option maxRecDepth 100000 in
set_option maxHeartbeats 4000000 in
theorem step_any : ∀ (t : Tm) (g : Nat) (w : World), TAt 58 w t g → Calls Try.prog 20 #[.pointer (some ⟨g, 0, none⟩)] w fun e w' => StP (stp t) e w' ∧ Below w.heap.size w w'
  | .lf kd v, g, w, h => by
    have HL2 := Lib.hid (letter_any (.lf kd v) g 2 2 w h (.inl rfl))
    have HL3 := Lib.hid (fun X (hX : Below w.heap.size w X) => letter_any (.lf kd v) g 3 1 X (h.below hX) (.inr rfl))
    have hcl : ∀ X : World, Below w.heap.size w X → X.cell? ⟨g, 0, none⟩ = some (.int .i64 kd) := fun X hX => kd_cell (h.below hX)
    have HCL := Lib.hid hcl
    have q : (kd != 4) = true := by rw [bne_iff_ne]; exact h.1
    clear h hcl
    go_enter Try.func20, Try.ntmps20
    go_wp2_with fail
    refine HL2.out.mono ?_
    rintro e w2 ⟨hp, hb⟩
    obtain ⟨v2, rfl⟩ := let_no hp (lf_noK kd v)
    have HB := Lib.hid hb
    clear hp hb
    go_wp2_with fail
    refine (HL3.out _ HB.out).mono ?_
    rintro e w3 ⟨hp, hb⟩
    obtain ⟨v3, rfl⟩ := let_no hp (lf_noS kd v)
    have HB3 := Lib.hid (HB.out.trans (hb.mono HB.out.size))
    have c0 := HCL.out _ HB3.out
    clear hp hb
    go_wp2_with fail
    go_ret
    exact ⟨rfl, HB3.out⟩
  | .ap a b, g, w, h => by
    have HL2 := Lib.hid (letter_any (.ap a b) g 2 2 w h (.inl rfl))
    have HL3 := Lib.hid (fun X (hX : Below w.heap.size w X) => letter_any (.ap a b) g 3 1 X (h.below hX) (.inr rfl))
    have hst : stp (.ap a b) = match rdx (.ap a b) with
      | some r => some r
      | none => match stp a with
        | some a' => some (.ap a' b)
        | none => match stp b with
          | some b' => some (.ap a b')
          | none => none := rfl
    by_cases hK : isK (.ap a b)
    · rw [show rdx (.ap a b) = some (agT 1 (.ap a b)) from if_pos hK] at hst
      have HK := Lib.hid hK
      have HST := Lib.hid hst
      clear hK hst h HL3
      go_enter Try.func20, Try.ntmps20
      go_wp2_with fail
      refine HL2.out.mono ?_
      rintro e w2 ⟨hp, hb⟩
      obtain ⟨A, c, gs, rfl, hrd, hts⟩ := let_yes hp HK.out
      obtain ⟨G, o, rfl, _, hc0⟩ := hrd.at_ (show 0 < 2 by omega)
      have hc0' : w2.cell? ⟨G, o, none⟩ = some (.pointer (some ⟨gs 0, 0, none⟩)) := hc0
      have HB := Lib.hid hb
      have HTS := Lib.hid (hts 0 (by omega))
      clear hp hb hrd hts hc0
      go_wp2_with fail
      go_ret
      rw [HST.out]
      exact ⟨⟨gs 0, rfl, HTS.out.below HB.out⟩, HB.out⟩
    · by_cases hS : isS (.ap a b)
      · rw [show rdx (.ap a b) = some (.ap (.ap (agT 2 (.ap a b)) (agT 0 (.ap a b))) (.ap (agT 1 (.ap a b)) (agT 0 (.ap a b)))) by unfold rdx; rw [if_neg hK, if_pos hS]] at hst
        have HK := Lib.hid hK
        have HS := Lib.hid hS
        have HST := Lib.hid hst
        clear hK hst h hS
        go_enter Try.func20, Try.ntmps20
        go_wp2_with fail
        refine HL2.out.mono ?_
        rintro e w2 ⟨hp, hb⟩
        obtain ⟨v2, rfl⟩ := let_no hp HK.out
        have HB := Lib.hid hb
        clear hp hb
        go_wp2_with fail
        refine (HL3.out _ HB.out).mono ?_
        rintro e w3 ⟨hp, hb⟩
        obtain ⟨A, c, gs, rfl, hrd, hts⟩ := let_yes hp HS.out
        have hB3 := HB.out.trans (hb.mono HB.out.size)
        have HB3 := Lib.hid hB3
        obtain ⟨G, o, rfl, hG, _⟩ := hrd.at_ (show 0 < 3 by omega)
        have hcs : ∀ X : World, Below w3.heap.size w3 X → X.cell? ⟨G, o, none⟩ = some (.pointer (some ⟨gs 0, 0, none⟩)) ∧ X.cell? ⟨G, o + 1, none⟩ = some (.pointer (some ⟨gs 1, 0, none⟩)) ∧ X.cell? ⟨G, o + 2, none⟩ = some (.pointer (some ⟨gs 2, 0, none⟩)) := fun X hX => by
          have g2 : ∀ i, i < 3 → X.cell? ⟨G, o + i, none⟩ = some (ptrV (gs i)) := fun i hi => by
            obtain ⟨b', o', e, _, hc⟩ := (hrd.below hX).at_ hi
            cases e; exact hc
          exact ⟨g2 0 (by omega), g2 1 (by omega), g2 2 (by omega)⟩
        have ht0 : TAt 58 w3 (agT 2 (.ap a b)) (gs 0) := (hts 0 (by omega)).below hb
        have ht1 : TAt 58 w3 (agT 1 (.ap a b)) (gs 1) := (hts 1 (by omega)).below hb
        have ht2 : TAt 58 w3 (agT 0 (.ap a b)) (gs 2) := (hts 2 (by omega)).below hb
        have HP := Lib.hid (fun X (hX : Below w3.heap.size w3 X) => put_any w3 X _ _ _ _ (ht0.below hX) (ht2.below hX))
        have HQ := Lib.hid (fun X (hX : Below w3.heap.size w3 X) => put_any w3 X _ _ _ _ (ht1.below hX) (ht2.below hX))
        have HCS := Lib.hid hcs
        obtain ⟨x0, hx0⟩ : ∃ x, x = gs 0 := ⟨_, rfl⟩
        obtain ⟨x1, hx1⟩ : ∃ x, x = gs 1 := ⟨_, rfl⟩
        obtain ⟨x2, hx2⟩ : ∃ x, x = gs 2 := ⟨_, rfl⟩
        rw [← hx0, ← hx1, ← hx2] at HCS
        rw [← hx0, ← hx2] at HP
        rw [← hx1, ← hx2] at HQ
        obtain ⟨d0, d1, d2⟩ := HCS.out _ (Below.refl _ _)
        have hr3 := Below.refl w3.heap.size w3
        have hr3d := (Below.refl w3.heap.size w3).drew
        clear hp hb hrd hts hcs ht0 ht1 ht2 hB3 hx0 hx1 hx2
        go_wp2_with fail
        go_region_held3 (fun W => W.cell? ⟨G, o, none⟩ = some (.pointer (some ⟨x0, 0, none⟩)) ∧ W.cell? ⟨G, o + 1, none⟩ = some (.pointer (some ⟨x1, 0, none⟩)) ∧ W.cell? ⟨G, o + 2, none⟩ = some (.pointer (some ⟨x2, 0, none⟩))) (first | exact cs6 | exact cs5 | exact cs4 | go_keep) (first
          | (go_at_call 31; (with_reducible refine (put_any w3 _ _ _ _ _ (ht4.below hb5) ht5).mono ?_); rintro e w6 ⟨⟨p6, rfl, ht6⟩, hb6⟩; have hbe6 := hbe5.trans (hb6.mono hbe5.size); have cs6 := HCS.out _ hbe6)
          | (go_at_call 31; (with_reducible refine (HQ.out _ hbe4).mono ?_); rintro e w5 ⟨⟨p5, rfl, ht5⟩, hb5⟩; have hbe5 := hbe4.trans (hb5.mono hbe4.size); have cs5 := HCS.out _ hbe5)
          | (go_at_call 31; (with_reducible refine (HP.out _ hr3).mono ?_); rintro e w4 ⟨⟨p4, rfl, ht4⟩, hb4⟩; have hbe4 := hr3.trans (hb4.mono hr3.size); have cs4 := HCS.out _ hbe4)
          | (go_at_call 31; (with_reducible refine (HP.out _ hr3d).mono ?_); rintro e w4 ⟨⟨p4, rfl, ht4⟩, hb4⟩; have hbe4 := hr3d.trans (hb4.mono hr3d.size); have cs4 := HCS.out _ hbe4))
        all_goals
          go_wp2_with fail
          go_ret
          rw [HST.out]
          exact ⟨⟨p6, rfl, ht6⟩, HB3.out.trans (hbe6.mono HB3.out.size)⟩
      · have hr0 : rdx (.ap a b) = none := by unfold rdx; rw [if_neg hK, if_neg hS]
        rw [hr0] at hst
        obtain ⟨ga, gb, hrow, hta, htb⟩ := h
        have HSA := Lib.hid (fun X (hX : Below w.heap.size w X) => step_any a ga X (hta.below hX))
        have HSB := Lib.hid (fun X (hX : Below w.heap.size w X) => step_any b gb X (htb.below hX))
        have hcl : ∀ X : World, Below w.heap.size w X → X.cell? ⟨g, 0, none⟩ = some (.int .i64 4) ∧ X.cell? ⟨g, 2, none⟩ = some (.pointer (some ⟨ga, 0, none⟩)) ∧ X.cell? ⟨g, 3, none⟩ = some (.pointer (some ⟨gb, 0, none⟩)) := fun X hX => by
          have hr := row_below hrow hX hrow.lt
          exact ⟨hr.cell (i := 0) (by omega), hr.cell (i := 2) (by omega), hr.cell (i := 3) (by omega)⟩
        have HCL := Lib.hid hcl
        have HTA := Lib.hid hta
        have HTB := Lib.hid htb
        have HK := Lib.hid hK
        have HS := Lib.hid hS
        have HST := Lib.hid hst
        clear hcl hta htb hrow hK hS hst hr0
        go_enter Try.func20, Try.ntmps20
        go_wp2_with fail
        refine HL2.out.mono ?_
        rintro e w2 ⟨hp, hb⟩
        obtain ⟨v2, rfl⟩ := let_no hp HK.out
        have HB := Lib.hid hb
        clear hp hb
        go_wp2_with fail
        refine (HL3.out _ HB.out).mono ?_
        rintro e w3 ⟨hp, hb⟩
        obtain ⟨v3, rfl⟩ := let_no hp HS.out
        have HB3 := Lib.hid (HB.out.trans (hb.mono HB.out.size))
        obtain ⟨c0, c2, c3⟩ := HCL.out _ HB3.out
        clear hp hb
        go_wp2_with fail
        refine (HSA.out _ HB3.out).mono ?_
        rintro e w4 ⟨hp, hb⟩
        have HB4 := Lib.hid (HB3.out.trans (hb.mono HB3.out.size))
        obtain ⟨d0, d2, d3⟩ := HCL.out _ HB4.out
        clear hb c0 c2 c3
        cases hsa : stp a with
        | some a' =>
          rw [hsa] at hp
          obtain ⟨g4, rfl, ht4⟩ := hp
          have HT4 := Lib.hid ht4
          have HSE := Lib.hid hsa
          clear ht4 hsa
          go_wp2_with fail
          refine (put_any w w4 _ _ _ _ HT4.out (HTB.out.below HB4.out)).mono ?_
          rintro e w5 ⟨⟨g5, rfl, ht5⟩, hb5⟩
          have HT5 := Lib.hid ht5
          have HB5 := Lib.hid (HB4.out.trans (hb5.mono HB4.out.size))
          clear ht5 hb5
          go_wp2_with fail
          go_ret
          rw [HST.out, HSE.out]
          exact ⟨⟨g5, rfl, HT5.out⟩, HB5.out⟩
        | none =>
          rw [hsa] at hp
          obtain rfl : e = .returned (.pointer none) := hp
          have HSE := Lib.hid hsa
          clear hsa
          go_wp2_with fail
          refine (HSB.out _ HB4.out).mono ?_
          rintro e w5 ⟨hp, hb⟩
          have HB5 := Lib.hid (HB4.out.trans (hb.mono HB4.out.size))
          obtain ⟨d0, d2, d3⟩ := HCL.out _ HB5.out
          clear hb
          cases hsb : stp b with
          | some b' =>
            rw [hsb] at hp
            obtain ⟨g5, rfl, ht5⟩ := hp
            have HT5 := Lib.hid ht5
            have HSF := Lib.hid hsb
            clear ht5 hsb
            go_wp2_with fail
            refine (put_any w w5 _ _ _ _ (HTA.out.below HB5.out) HT5.out).mono ?_
            rintro e w6 ⟨⟨g6, rfl, ht6⟩, hb6⟩
            have HT6 := Lib.hid ht6
            have HB6 := Lib.hid (HB5.out.trans (hb6.mono HB5.out.size))
            clear ht6 hb6
            go_wp2_with fail
            go_ret
            rw [HST.out, HSE.out, HSF.out]
            exact ⟨⟨g6, rfl, HT6.out⟩, HB6.out⟩
          | none =>
            rw [hsb] at hp
            obtain rfl : e = .returned (.pointer none) := hp
            have HSF := Lib.hid hsb
            clear hsb
            go_wp2_with fail
            go_ret
            rw [HST.out, HSE.out, HSF.out]
            exact ⟨rfl, HB5.out⟩
end Go.Proofs.Ytmbemikhbcjfmaa
