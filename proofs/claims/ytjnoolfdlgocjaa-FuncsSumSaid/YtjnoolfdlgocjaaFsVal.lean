/- funcs.Value and funcs.Rank at the functions that FuncsSum makes. Condition: they lie in the world. -/
import Derived.Test.YtjnoolfdlgocjaaFsAsk4
import Derived.Test.YtjnoolfdlgocjaaPred
namespace Go.Proofs.Ytjnoolfdlgocjaa
open Go.ChangeShapes Go.WideShapes Go.ChangeAt Go.RowKit
set_option linter.unusedVariables false
set_option linter.unusedSimpArgs false
set_option maxRecDepth 100000 in
theorem out_any (x : Int) (W : World) (h : 0 ≤ x ∧ x ≤ 20) : Calls Try.prog 14 (#[.int .i64 x] ++ #[]) W fun e w' => e = .returned (.bool false) ∧ W = w' := by
  have h0 : ¬ x < 0 := by omega
  have h1 : ¬ x > 20 := by omega
  have h2 : ¬ 20 < x := by omega
  show Calls Try.prog 14 #[.int .i64 x] W _
  go_enter Try.func14, Try.ntmps14
  go_wp2_with fail
  go_ret
  exact ⟨rfl, rfl⟩
set_option maxRecDepth 100000 in
set_option maxHeartbeats 1000000 in
theorem value_any (b ib : Nat) (W : World) (h : FL W b ib) (A : Option Addr) (c V0 V1 : Nat) (hA : Rd W A 2 (fun q => .int .i64 (if q = 0 then (V0 : Int) else (V1 : Int)))) (b0 : V0 ≤ 20) (b1 : V1 ≤ 20) (hc : 2 ≤ c ∧ c ≤ 1000) :
    Calls Try.prog 8 #[.slice (some ⟨b, 0, none⟩) 5 5, .slice A 2 c] W fun e w' => e = .returned (.tuple #[.int .i64 ((V0 + V1 : Nat) : Int), .int .i64 0]) ∧ Below W.heap.size W w' := by
  have HF := Lib.hid h
  have HA := Lib.hid hA
  have hnz : ¬ ((V0 + V1 : Nat) : Int) < 0 := by omega
  clear h hA
  go_enter Try.func8, Try.ntmps8
  go_wp2_with fail
  refine (fcheck_any b ib W HF.out).mono ?_
  rintro e w2 ⟨rfl, hb2⟩
  have HB2 := Lib.hid hb2
  have HF2 := Lib.hid (HF.out.below hb2)
  clear hb2
  have c1 : w2.cell? ⟨b, 25, none⟩ = some (.int .i64 2) := HF2.out.at_ 25 (by omega)
  go_wp2_with fail
  refine (containsP_any 14 #[] A 2 c _ (fun _ => false) w2 (HA.out.below HB2.out) (by unfold maxLen; omega) (fun _ _ => rfl) (fun i hi => out_any _ _ (by split <;> omega))).mono ?_
  rintro e w3 ⟨rfl, rfl⟩
  rw [show anyB (fun _ => false) 2 = false from anyB_no fun _ _ => rfl]
  go_wp2_with fail
  obtain ⟨a, ha⟩ : ∃ a, a = w2.heap.size := ⟨_, rfl⟩
  obtain ⟨W3, hW3⟩ : ∃ W3, W3 = w2.alloc (.cells #[.slice (some ⟨b, 0, none⟩) 5 5, .int .i64 20000] 42) := ⟨_, rfl⟩
  have hb3 : Below w2.heap.size w2 W3 := by rw [hW3]; exact (Below.refl _ _).alloc (Nat.le_refl _) _
  have hrow : W3.rowIs a 42 2 (b2f (.slice (some ⟨b, 0, none⟩) 5 5) (.int .i64 20000)) := by
    rw [hW3, ha]
    exact World.rowIs_alloc w2 #[.slice (some ⟨b, 0, none⟩) 5 5, .int .i64 20000] _ _ fun i hi => by
      have : i < 2 := hi
      match i, this with
      | 0, _ => rfl
      | 1, _ => rfl
  have hak : AkS w2 W3 a b ib 20000 := ⟨hrow, by omega, hb3, HF2.out⟩
  have HAK := Lib.hid hak
  have HR := Lib.hid ((HA.out.below HB2.out).below hb3)
  have hoff : Off A a := fun g o e => by
    obtain ⟨g', o', e', hl, _⟩ := (HA.out.below HB2.out).at_ (show 0 < 2 by omega)
    rw [e] at e'
    injection e' with e'
    injection e' with e1 e2
    omega
  have HO := Lib.hid hoff
  rw [← ha, ← hW3]
  clear ha hW3 hb3 hrow hak hoff
  refine (ask4_any w2 W3 a b ib 20000 A c V0 V1 _ rfl rfl b0 b1 hc HAK.out ⟨by omega, by omega⟩ HR.out HO.out).mono ?_
  rintro e w4 ⟨rfl, hs4, hk4⟩
  have HS4 := Lib.hid hs4
  clear hs4 hk4
  go_wp2_with fail
  go_ret2
  exact ⟨rfl, HB2.out.trans (HS4.out.bel.mono HB2.out.size)⟩
theorem Rd.oneV (W : World) (v : Value) (e : TypeId) (K : Nat) (hK : W.heap.size = K) : Rd (W.alloc (.cells #[v] e)) (some ⟨K, 0, none⟩) 1 (fun _ => v) := by
  subst hK; exact Rd.one W v e
def rkF (q : Nat) : Int := if q < 3 then 1 else if q = 3 then 3 else 6
theorem Own.fit {w : World} {base : Nat} {A : Option Addr} {n c : Nat} {C D : Nat → Value} (h : Own w base 3 1 A n c n C) (e : ∀ i, i < n → C i = D i) : Own w base 3 1 A n c n D := h.congr e
set_option maxRecDepth 100000 in
set_option maxHeartbeats 2000000 in
theorem rank_any (b ib : Nat) (W : World) (h : FL W b ib) :
    Calls Try.prog 9 #[.slice (some ⟨b, 0, none⟩) 5 5] W fun e w' => e = .returned (.tuple #[.int .i64 6, .int .i64 0]) ∧ Below W.heap.size W w' := by
  have HF := Lib.hid h
  clear h
  go_enter Try.func9, Try.ntmps9
  go_wp2_with fail
  refine (fcheck_any b ib W HF.out).mono ?_
  rintro e w2 ⟨rfl, hb2⟩
  have HB2 := Lib.hid hb2
  clear hb2
  go_wp2_with fail
  go_loopw [5, 18] (fun s5 s18 wr => ∃ (k : Nat) (kz : Int) (S : Option Addr) (sc : Nat), k ≤ 5 ∧ kz = (k : Int) ∧ s18 = .int .i64 kz ∧ s5 = .slice S k sc ∧ Hid (Own wr w2.heap.size 3 1 S k sc k (fun q => .int .i64 (rkF q))) ∧ Hid (Below w2.heap.size w2 wr)) (fun _ s18 _ => 5 - (intOf s18).toNat)
  case atStart => exact ⟨0, 0, none, 0, by omega, rfl, rfl, rfl, Lib.hid (Own.nil _ _ _ _ _), Lib.hid (Below.refl _ _)⟩
  case round =>
    obtain ⟨wo, rfl⟩ : ∃ wo : World, wo = wr := ⟨_, rfl⟩
    obtain ⟨k, kz, S, sc, hk, hkz, rfl, rfl, HO, HB⟩ := hrel
    have HFo := Lib.hid (HF.out.below (HB2.out.trans (HB.out.mono HB2.out.size)))
    have hzo := HB.out.size
    have h5 : k = 0 ∨ k = 1 ∨ k = 2 ∨ k = 3 ∨ k = 4 ∨ k = 5 := by omega
    rcases h5 with rfl | rfl | rfl | rfl | rfl | rfl
    · obtain rfl : kz = 0 := by omega
      clear hkz
      have c0 : wo.cell? ⟨b, 0, none⟩ = some (.int .i64 3) := HFo.out.at_ 0 (by omega)
      have c1 : wo.cell? ⟨b, 1, none⟩ = some (.int .i64 1) := HFo.out.at_ 1 (by omega)
      have c2 : wo.cell? ⟨b, 2, none⟩ = some (.int .i64 0) := HFo.out.at_ 2 (by omega)
      have c3 : wo.cell? ⟨b, 3, none⟩ = some (.int .i64 0) := HFo.out.at_ 3 (by omega)
      have c4 : wo.cell? ⟨b, 4, none⟩ = some (.int .i64 0) := HFo.out.at_ 4 (by omega)
      have c5 : wo.cell? ⟨b, 5, none⟩ = some (.slice none 0 0) := HFo.out.at_ 5 (by omega)
      have HO1 := Lib.hid (HO.out.alloc (.cells #[.int .i64 3, .int .i64 1, .int .i64 0, .int .i64 0, .int .i64 0, .slice none 0 0] 29))
      have HBa := Lib.hid (HB.out.alloc hzo (.cells #[.int .i64 3, .int .i64 1, .int .i64 0, .int .i64 0, .int .i64 0, .slice none 0 0] 29))
      go_wp2_with (at_builtin; go_loud ( refine wpList_app _ rfl (.tmp 61) (.tmp 63) 27 rfl EIc rfl ((HO1.out.alloc _)) rfl (l := 1) (by omega) ((Rd.oneV (wo.alloc (.cells #[.int .i64 3, .int .i64 1, .int .i64 0, .int .i64 0, .int .i64 0, .slice none 0 0] 29)) (.int .i64 1) 3 (wo.heap.size + 1) (by simp))) (fun _ _ => rfl) (by unfold maxLen; omega) (by omega) ((HBa.out.alloc HBa.out.size (.cells #[.int .i64 1] 3)).size) 1 1 rfl rfl ?_; intro A2 c2 w3 hown2 hg2 hat2 hbl2; have HOW := Lib.hid hown2; have HB3 := Lib.hid ((HBa.out.alloc HBa.out.size (.cells #[.int .i64 1] 3)).trans hbl2); clear hown2 hg2 hat2 hbl2))
      go_roundw
      case rel => exact ⟨1, 1, _, _, by omega, rfl, rfl, rfl, Lib.hid (HOW.out.fit fun q hq => by
        rcases Nat.lt_or_ge q 0 with hq' | hq'
        · rw [cat_lt hq']
        · obtain rfl : q = 0 := by omega
          rw [cat_ge (Nat.le_refl _)]; rfl), HB3⟩
      case measure => simp [intOf]
    · obtain rfl : kz = 1 := by omega
      clear hkz
      have c0 : wo.cell? ⟨b, 6, none⟩ = some (.int .i64 2) := HFo.out.at_ 6 (by omega)
      have c1 : wo.cell? ⟨b, 7, none⟩ = some (.int .i64 1) := HFo.out.at_ 7 (by omega)
      have c2 : wo.cell? ⟨b, 8, none⟩ = some (.int .i64 0) := HFo.out.at_ 8 (by omega)
      have c3 : wo.cell? ⟨b, 9, none⟩ = some (.int .i64 0) := HFo.out.at_ 9 (by omega)
      have c4 : wo.cell? ⟨b, 10, none⟩ = some (.int .i64 0) := HFo.out.at_ 10 (by omega)
      have c5 : wo.cell? ⟨b, 11, none⟩ = some (.slice none 0 0) := HFo.out.at_ 11 (by omega)
      have HO1 := Lib.hid (HO.out.alloc (.cells #[.int .i64 2, .int .i64 1, .int .i64 0, .int .i64 0, .int .i64 0, .slice none 0 0] 29))
      have HBa := Lib.hid (HB.out.alloc hzo (.cells #[.int .i64 2, .int .i64 1, .int .i64 0, .int .i64 0, .int .i64 0, .slice none 0 0] 29))
      go_wp2_with (at_builtin; go_loud ( refine wpList_app _ rfl (.tmp 61) (.tmp 63) 27 rfl EIc rfl ((HO1.out.alloc _)) rfl (l := 1) (by omega) ((Rd.oneV (wo.alloc (.cells #[.int .i64 2, .int .i64 1, .int .i64 0, .int .i64 0, .int .i64 0, .slice none 0 0] 29)) (.int .i64 1) 3 (wo.heap.size + 1) (by simp))) (fun _ _ => rfl) (by unfold maxLen; omega) (by omega) ((HBa.out.alloc HBa.out.size (.cells #[.int .i64 1] 3)).size) 2 2 rfl rfl ?_; intro A2 c2 w3 hown2 hg2 hat2 hbl2; have HOW := Lib.hid hown2; have HB3 := Lib.hid ((HBa.out.alloc HBa.out.size (.cells #[.int .i64 1] 3)).trans hbl2); clear hown2 hg2 hat2 hbl2))
      go_roundw
      case rel => exact ⟨2, 2, _, _, by omega, rfl, rfl, rfl, Lib.hid (HOW.out.fit fun q hq => by
        rcases Nat.lt_or_ge q 1 with hq' | hq'
        · rw [cat_lt hq']
        · obtain rfl : q = 1 := by omega
          rw [cat_ge (Nat.le_refl _)]; rfl), HB3⟩
      case measure => simp [intOf]
    · obtain rfl : kz = 2 := by omega
      clear hkz
      have c0 : wo.cell? ⟨b, 12, none⟩ = some (.int .i64 3) := HFo.out.at_ 12 (by omega)
      have c1 : wo.cell? ⟨b, 13, none⟩ = some (.int .i64 3) := HFo.out.at_ 13 (by omega)
      have c2 : wo.cell? ⟨b, 14, none⟩ = some (.int .i64 2) := HFo.out.at_ 14 (by omega)
      have c3 : wo.cell? ⟨b, 15, none⟩ = some (.int .i64 0) := HFo.out.at_ 15 (by omega)
      have c4 : wo.cell? ⟨b, 16, none⟩ = some (.int .i64 0) := HFo.out.at_ 16 (by omega)
      have c5 : wo.cell? ⟨b, 17, none⟩ = some (.slice none 0 0) := HFo.out.at_ 17 (by omega)
      have HO1 := Lib.hid (HO.out.alloc (.cells #[.int .i64 3, .int .i64 3, .int .i64 2, .int .i64 0, .int .i64 0, .slice none 0 0] 29))
      have HBa := Lib.hid (HB.out.alloc hzo (.cells #[.int .i64 3, .int .i64 3, .int .i64 2, .int .i64 0, .int .i64 0, .slice none 0 0] 29))
      go_wp2_with (at_builtin; go_loud ( refine wpList_app _ rfl (.tmp 61) (.tmp 63) 27 rfl EIc rfl ((HO1.out.alloc _)) rfl (l := 1) (by omega) ((Rd.oneV (wo.alloc (.cells #[.int .i64 3, .int .i64 3, .int .i64 2, .int .i64 0, .int .i64 0, .slice none 0 0] 29)) (.int .i64 1) 3 (wo.heap.size + 1) (by simp))) (fun _ _ => rfl) (by unfold maxLen; omega) (by omega) ((HBa.out.alloc HBa.out.size (.cells #[.int .i64 1] 3)).size) 3 3 rfl rfl ?_; intro A2 c2 w3 hown2 hg2 hat2 hbl2; have HOW := Lib.hid hown2; have HB3 := Lib.hid ((HBa.out.alloc HBa.out.size (.cells #[.int .i64 1] 3)).trans hbl2); clear hown2 hg2 hat2 hbl2))
      go_roundw
      case rel => exact ⟨3, 3, _, _, by omega, rfl, rfl, rfl, Lib.hid (HOW.out.fit fun q hq => by
        rcases Nat.lt_or_ge q 2 with hq' | hq'
        · rw [cat_lt hq']
        · obtain rfl : q = 2 := by omega
          rw [cat_ge (Nat.le_refl _)]; rfl), HB3⟩
      case measure => simp [intOf]
    · obtain rfl : kz = 3 := by omega
      clear hkz
      have c0 : wo.cell? ⟨b, 18, none⟩ = some (.int .i64 4) := HFo.out.at_ 18 (by omega)
      have c1 : wo.cell? ⟨b, 19, none⟩ = some (.int .i64 3) := HFo.out.at_ 19 (by omega)
      have c2 : wo.cell? ⟨b, 20, none⟩ = some (.int .i64 0) := HFo.out.at_ 20 (by omega)
      have c3 : wo.cell? ⟨b, 21, none⟩ = some (.int .i64 1) := HFo.out.at_ 21 (by omega)
      have c4 : wo.cell? ⟨b, 22, none⟩ = some (.int .i64 0) := HFo.out.at_ 22 (by omega)
      have c5 : wo.cell? ⟨b, 23, none⟩ = some (.slice (some ⟨ib, 0, none⟩) 1 1) := HFo.out.at_ 23 (by omega)
      have HO1 := Lib.hid (HO.out.alloc (.cells #[.int .i64 4, .int .i64 3, .int .i64 0, .int .i64 1, .int .i64 0, .slice (some ⟨ib, 0, none⟩) 1 1] 29))
      have HBa := Lib.hid (HB.out.alloc hzo (.cells #[.int .i64 4, .int .i64 3, .int .i64 0, .int .i64 1, .int .i64 0, .slice (some ⟨ib, 0, none⟩) 1 1] 29))
      obtain ⟨g, F, rfl, hg, hrow, hcc, hFF⟩ := HO1.out.row (by omega)
      have hib : (wo.alloc (.cells #[.int .i64 4, .int .i64 3, .int .i64 0, .int .i64 1, .int .i64 0, .slice (some ⟨ib, 0, none⟩) 1 1] 29)).cell? ⟨ib, 0, none⟩ = some (.int .i64 2) := (HFo.out.into.alloc _).cell (i := 0) (by omega)
      have m0 : wo.heap.size < (wo.alloc (.cells #[.int .i64 4, .int .i64 3, .int .i64 0, .int .i64 1, .int .i64 0, .slice (some ⟨ib, 0, none⟩) 1 1] 29)).heap.size := by simp
      have r1 : (wo.alloc (.cells #[.int .i64 4, .int .i64 3, .int .i64 0, .int .i64 1, .int .i64 0, .slice (some ⟨ib, 0, none⟩) 1 1] 29)).cell? ⟨g, 1, none⟩ = some (.int .i64 1) := by have := hrow.cell (i := 1) (by omega); rw [hFF 1 (by omega)] at this; exact this
      have r2 : (wo.alloc (.cells #[.int .i64 4, .int .i64 3, .int .i64 0, .int .i64 1, .int .i64 0, .slice (some ⟨ib, 0, none⟩) 1 1] 29)).cell? ⟨g, 2, none⟩ = some (.int .i64 1) := by have := hrow.cell (i := 2) (by omega); rw [hFF 2 (by omega)] at this; exact this
      clear hrow hFF
      go_wp2_with fail
      go_loop [8, 35] (fun s8 s35 => ∃ kz : Int, (kz = 0 ∨ kz = 1) ∧ s8 = .int .i64 3 ∧ s35 = .int .i64 kz) (fun _ s35 => 1 - (intOf s35).toNat)
      case atStart => exact ⟨0, .inl rfl, rfl, rfl⟩
      case round =>
        obtain ⟨kz, rfl | rfl, rfl, rfl⟩ := hrel
        · go_wp2_with fail
          go_round
          case rel => exact ⟨1, .inr rfl, rfl, rfl⟩
          case measure => simp [intOf]
        · skip
          go_wp2_with (at_builtin; go_loud ( refine wpList_app _ rfl (.tmp 61) (.tmp 63) 27 rfl EIc rfl ((HO1.out.alloc _)) rfl (l := 1) (by omega) ((Rd.oneV (wo.alloc (.cells #[.int .i64 4, .int .i64 3, .int .i64 0, .int .i64 1, .int .i64 0, .slice (some ⟨ib, 0, none⟩) 1 1] 29)) (.int .i64 3) 3 (wo.heap.size + 1) (by simp))) (fun _ _ => rfl) (by unfold maxLen; omega) (by omega) ((HBa.out.alloc HBa.out.size (.cells #[.int .i64 3] 3)).size) 4 4 rfl rfl ?_; intro A2 c2 w3 hown2 hg2 hat2 hbl2; have HOW := Lib.hid hown2; have HB3 := Lib.hid ((HBa.out.alloc HBa.out.size (.cells #[.int .i64 3] 3)).trans hbl2); clear hown2 hg2 hat2 hbl2))
          go_roundw
          case rel => exact ⟨4, 4, _, _, by omega, rfl, rfl, rfl, Lib.hid (HOW.out.fit fun q hq => by
            rcases Nat.lt_or_ge q 3 with hq' | hq'
            · rw [cat_lt hq']
            · obtain rfl : q = 3 := by omega
              rw [cat_ge (Nat.le_refl _)]; rfl), HB3⟩
          case measure => simp [intOf]
    · obtain rfl : kz = 4 := by omega
      clear hkz
      have c0 : wo.cell? ⟨b, 24, none⟩ = some (.int .i64 5) := HFo.out.at_ 24 (by omega)
      have c1 : wo.cell? ⟨b, 25, none⟩ = some (.int .i64 2) := HFo.out.at_ 25 (by omega)
      have c2 : wo.cell? ⟨b, 26, none⟩ = some (.int .i64 0) := HFo.out.at_ 26 (by omega)
      have c3 : wo.cell? ⟨b, 27, none⟩ = some (.int .i64 0) := HFo.out.at_ 27 (by omega)
      have c4 : wo.cell? ⟨b, 28, none⟩ = some (.int .i64 3) := HFo.out.at_ 28 (by omega)
      have c5 : wo.cell? ⟨b, 29, none⟩ = some (.slice none 0 0) := HFo.out.at_ 29 (by omega)
      have HO1 := Lib.hid (HO.out.alloc (.cells #[.int .i64 5, .int .i64 2, .int .i64 0, .int .i64 0, .int .i64 3, .slice none 0 0] 29))
      have HBa := Lib.hid (HB.out.alloc hzo (.cells #[.int .i64 5, .int .i64 2, .int .i64 0, .int .i64 0, .int .i64 3, .slice none 0 0] 29))
      obtain ⟨g, F, rfl, hg, hrow, hcc, hFF⟩ := HO1.out.row (by omega)
      have r0 : (wo.alloc (.cells #[.int .i64 5, .int .i64 2, .int .i64 0, .int .i64 0, .int .i64 3, .slice none 0 0] 29)).cell? ⟨g, 0, none⟩ = some (.int .i64 1) := by have := hrow.cell (i := 0) (by omega); rw [hFF 0 (by omega)] at this; exact this
      have r3 : (wo.alloc (.cells #[.int .i64 5, .int .i64 2, .int .i64 0, .int .i64 0, .int .i64 3, .slice none 0 0] 29)).cell? ⟨g, 3, none⟩ = some (.int .i64 3) := by have := hrow.cell (i := 3) (by omega); rw [hFF 3 (by omega)] at this; exact this
      clear hrow hFF
      go_wp2_with fail
      go_region
      go_wp2_with (at_builtin; go_loud ( refine wpList_app _ rfl (.tmp 61) (.tmp 63) 27 rfl EIc rfl ((HO1.out.alloc _).drew) rfl (l := 1) (by omega) ((Rd.oneV (wo.alloc (.cells #[.int .i64 5, .int .i64 2, .int .i64 0, .int .i64 0, .int .i64 3, .slice none 0 0] 29)) (.int .i64 6) 3 (wo.heap.size + 1) (by simp)).drew) (fun _ _ => rfl) (by unfold maxLen; omega) (by omega) ((HBa.out.alloc HBa.out.size (.cells #[.int .i64 6] 3)).size) 5 5 rfl rfl ?_; intro A2 c2 w3 hown2 hg2 hat2 hbl2; have HOW := Lib.hid hown2; have HB3 := Lib.hid ((HBa.out.alloc HBa.out.size (.cells #[.int .i64 6] 3)).drew.trans hbl2); clear hown2 hg2 hat2 hbl2))
      go_roundw
      case rel => exact ⟨5, 5, _, _, by omega, rfl, rfl, rfl, Lib.hid (HOW.out.fit fun q hq => by
        rcases Nat.lt_or_ge q 4 with hq' | hq'
        · rw [cat_lt hq']
        · obtain rfl : q = 4 := by omega
          rw [cat_ge (Nat.le_refl _)]; rfl), HB3⟩
      case measure => simp [intOf]
    · obtain rfl : kz = 5 := by omega
      clear hkz
      obtain ⟨g, F, rfl, hg, hrow, hcc, hFF⟩ := HO.out.row (by omega)
      have r4 : wo.cell? ⟨g, 4, none⟩ = some (.int .i64 6) := by have := hrow.cell (i := 4) (by omega); rw [hFF 4 (by omega)] at this; exact this
      clear hrow hFF
      go_wp2_with fail
      go_ret2
      exact ⟨rfl, HB2.out.trans (HB.out.mono HB2.out.size)⟩
end Go.Proofs.Ytjnoolfdlgocjaa
