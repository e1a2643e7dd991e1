/- hard.Sum's search: is there a way to make what is left. Conditions: the boxes hold the weights and the search itself. -/
import Derived.Test.YtkedkgmcdhmjiaaHardSumLaw
import Derived.Test.YtkedkgmcdhmjiaaHardSrch
import Derived.Test.YtkedkgmcdhmjiaaHeldMore
import Derived.Deep.RegionLaw
import Derived.IntWalk
namespace Go.Proofs.Ytkedkgmcdhmjiaa
open Go.ChangeShapes Go.WideShapes Go.ChangeAt Go.RowKit
set_option linter.unusedVariables false
set_option linter.unusedSimpArgs false
def FindP (Wt : Nat → Nat) (J fr left : Nat) (e : Ending) : Prop :=
  (SSum Wt J fr left ∧ ∃ v, e = .returned (.tuple #[v, .bool true])) ∨ (¬ SSum Wt J fr left ∧ ∃ v, e = .returned (.tuple #[v, .bool false]))
def Bx2 (W : World) (x y : Nat) (A : Option Addr) (J c : Nat) : Prop :=
  (W.cell? ⟨x, 0, none⟩ = some (.slice A J c) ∧ x < W.heap.size) ∧ (W.cell? ⟨y, 0, none⟩ = some (.func (.func 32) #[] #[.pointer (some ⟨x, 0, none⟩), .pointer (some ⟨y, 0, none⟩)]) ∧ y < W.heap.size)
theorem Bx2.below {W W' : World} {x y : Nat} {A : Option Addr} {J c : Nat} (h : Bx2 W x y A J c) (hb : Below W.heap.size W W') : Bx2 W' x y A J c := by
  obtain ⟨⟨h1, h2⟩, h3, h4⟩ := h
  have := hb.size
  exact ⟨⟨(hb.cell (p := ⟨x, 0, none⟩) h2).trans h1, by omega⟩, (hb.cell (p := ⟨y, 0, none⟩) h4).trans h3, by omega⟩
set_option maxRecDepth 100000 in
set_option maxHeartbeats 4000000 in
theorem find_any (J : Nat) (hJ : J ≤ 16) (A : Option Addr) (c : Nat) (Wt : Nat → Nat) (hW : ∀ j, j < J → Wt j ≤ 1000000000) (x y : Nat) :
    ∀ (d fr left m k : Nat) (L : Option Addr) (C : Nat → Value) (w : World), J - fr ≤ d → fr ≤ J → left ≤ 1000000000000 → m ≤ fr → m ≤ k → k ≤ maxLen → (L = none → m = 0 ∧ k = 0) → Bx2 w x y A J c → Rd w A J (fun j => .int .i64 ((Wt j : Nat) : Int)) → Rd w L m C →
      Calls Try.prog 32 #[.int .i64 (fr : Nat), .int .i64 (left : Nat), .slice L m k, .pointer (some ⟨x, 0, none⟩), .pointer (some ⟨y, 0, none⟩)] w fun e w' => FindP Wt J fr left e ∧ Below w.heap.size w w' := by
  intro d
  induction d with
  | zero =>
    intro fr left m k L C w hd hfr hlb hm hmk hkm hL hB hA hR
    have HB := Lib.hid hB
    obtain ⟨⟨s0, _⟩, s1, _⟩ := hB
    clear hA hR
    by_cases hz : left = 0
    · subst hz
      go_enter Try.func32, Try.ntmps32
      go_wp2_with fail
      go_ret2
      exact ⟨.inl ⟨(ssum_iff 0 fr 0 hd).2 (.inl rfl), _, rfl⟩, Below.refl _ _⟩
    · have hz' : ((left : Int) == 0) = false := by rw [beq_eq_false_iff_ne]; omega
      obtain rfl : fr = J := by omega
      go_enter Try.func32, Try.ntmps32
      go_wp2_with fail
      go_loopw [10] (fun s10 wr => s10 = .int .i64 (fr : Nat) ∧ wr = w) (fun _ _ => 0)
      case atStart => exact ⟨rfl, rfl⟩
      case round =>
        obtain ⟨rfl, rfl⟩ := hrel
        go_wp2_with fail
        go_ret2
        refine ⟨.inr ⟨fun h => ?_, _, rfl⟩, Below.refl _ _⟩
        rcases (ssum_iff 0 fr left hd).1 h with h | ⟨j, h1, h2, _⟩
        · exact hz h
        · omega
  | succ d ih =>
    intro fr left m k L C w hd hfr hlb hm hmk hkm hL hB hA hR
    have IH := Lib.hid ih
    have HB := Lib.hid hB
    have HA := Lib.hid hA
    have HR := Lib.hid hR
    have HL := Lib.hid hL
    have HW := Lib.hid hW
    obtain ⟨⟨s0, _⟩, s1, _⟩ := hB
    clear hA hR ih hL hW hkm
    by_cases hz : left = 0
    · subst hz
      go_enter Try.func32, Try.ntmps32
      go_wp2_with fail
      go_ret2
      exact ⟨.inl ⟨(ssum_iff (d + 1) fr 0 hd).2 (.inl rfl), _, rfl⟩, Below.refl _ _⟩
    · have hz' : ((left : Int) == 0) = false := by rw [beq_eq_false_iff_ne]; omega
      go_enter Try.func32, Try.ntmps32
      go_wp2_with fail
      clear s0 s1
      go_loopw [10] (fun s10 wr => ∃ i : Nat, fr ≤ i ∧ i ≤ J ∧ s10 = .int .i64 (i : Nat) ∧ Hid (∀ j, fr ≤ j → j < i → ¬ (Wt j ≤ left ∧ SSum Wt J (j + 1) (left - Wt j))) ∧ Hid (Below w.heap.size w wr)) (fun s10 _ => J - (intOf s10).toNat)
      case atStart => exact ⟨fr, Nat.le_refl _, hfr, rfl, Lib.hid (fun j h1 h2 => absurd h2 (by omega)), Lib.hid (Below.refl _ _)⟩
      case round =>
        obtain ⟨wo, rfl⟩ : ∃ wo : World, wo = wr := ⟨_, rfl⟩
        obtain ⟨i, hfi, hi, rfl, HNO, HBW⟩ := hrel
        have hb1 := HB.out.below HBW.out
        have HB1 := Lib.hid hb1
        obtain ⟨⟨s0, lx⟩, s1, ly⟩ := hb1
        by_cases hlt : i < J
        · obtain ⟨b, off, rfl, hbl, hc⟩ := (HA.out.below HBW.out).at_ hlt
          obtain ⟨u, hu⟩ : ∃ u, u = Wt i := ⟨_, rfl⟩
          rw [← hu] at hc
          have hu9 : u ≤ 1000000000 := by rw [hu]; exact HW.out i hlt
          have HU := Lib.hid hu
          clear hu
          by_cases hgt : left < u
          · go_wp2_with fail
            go_roundw
            case rel => exact ⟨i + 1, by omega, by omega, by go_num, Lib.hid (fun j h1 h2 => by
              by_cases e : j = i
              · subst e; exact fun h => by have := h.1; rw [← HU.out] at this; omega
              · exact HNO.out j h1 (by omega)), HBW⟩
            case measure => simp [intOf]; omega
          · have HR1 := Lib.hid (HR.out.below HBW.out)
            have HA1 := Lib.hid (HA.out.below HBW.out)
            have wsub : IntKind.i64.wrap ((left : Int) - (u : Int)) = ((left - u : Nat) : Int) := by rw [show (left : Int) - (u : Int) = ((left - u : Nat) : Int) by omega]; exact IntWalk.i64_in _ (by omega)
            have wadd : IntKind.i64.wrap ((i : Int) + 1) = ((i + 1 : Nat) : Int) := by rw [show (i : Int) + 1 = ((i + 1 : Nat) : Int) by omega]; exact IntWalk.i64_in _ (by omega)
            have HS0 : Hid ((wo.drew.cell? ⟨x, 0, none⟩ = some (.slice (some ⟨b, off, none⟩) J c)) ∧ (wo.drew.cell? ⟨y, 0, none⟩ = some (.func (.func 32) #[] #[.pointer (some ⟨x, 0, none⟩), .pointer (some ⟨y, 0, none⟩)])) ∧ (wo.drew.cell? ⟨b, off + i, none⟩ = some (.int .i64 (u : Nat)))) := Lib.hid ⟨s0, s1, hc⟩
            go_wp2_with fail
            refine wp_region_any (by kernel_rfl) ?_
            change wpAny _ _ _ _ _ _ _ (World.drew _)
            refine any_of_T (S := fun W => (W.cell? ⟨x, 0, none⟩ = some (.slice (some ⟨b, off, none⟩) J c)) ∧ (W.cell? ⟨y, 0, none⟩ = some (.func (.func 32) #[] #[.pointer (some ⟨x, 0, none⟩), .pointer (some ⟨y, 0, none⟩)])) ∧ (W.cell? ⟨b, off + i, none⟩ = some (.int .i64 (u : Nat)))) (c := 18) _ _ _ _ ?_
            refine anyT_takeL [18] (i := 0) (v := ?_) rfl (by decide +kernel) (by decide +kernel) (by decide +kernel) (by decide +kernel) (by decide +kernel) (by decide +kernel) (fun _ _ _ h => h) (Or.inl ⟨by rfl, ?_⟩) HS0.out ?_
            rotate_left 1
            · intro w hS; obtain ⟨s0, s1, s2⟩ := hS; go_simp; with_reducible rfl
            simp only [Act.put, List.getElem_toArray, List.getElem_cons_zero, List.getElem_cons_succ, List.setIfInBounds_toArray, List.set_cons_zero, List.set_cons_succ]
            refine anyT_takeY (i := 1) (v := ?_) rfl (by decide +kernel) (by decide +kernel) (by decide +kernel) (by decide +kernel) (fun _ _ _ h => h) (Or.inl ⟨by rfl, ?_⟩) HS0.out ?_
            rotate_left 1
            · intro w _; go_simp; with_reducible rfl
            simp only [Act.put, List.getElem_toArray, List.getElem_cons_zero, List.getElem_cons_succ, List.setIfInBounds_toArray, List.set_cons_zero, List.set_cons_succ]
            refine anyT_takeY (i := 2) (v := ?_) rfl (by decide +kernel) (by decide +kernel) (by decide +kernel) (by decide +kernel) (fun _ _ _ h => h) (Or.inl ⟨by rfl, ?_⟩) HS0.out ?_
            rotate_left 1
            · intro w _; go_simp; with_reducible rfl
            simp only [Act.put, List.getElem_toArray, List.getElem_cons_zero, List.getElem_cons_succ, List.setIfInBounds_toArray, List.set_cons_zero, List.set_cons_succ]
            refine anyT_takeY (i := 3) (v := ?_) rfl (by decide +kernel) (by decide +kernel) (by decide +kernel) (by decide +kernel) (fun _ _ _ h => h) (Or.inl ⟨by rfl, ?_⟩) HS0.out ?_
            rotate_left 1
            · intro w _; go_simp; with_reducible rfl
            simp only [Act.put, List.getElem_toArray, List.getElem_cons_zero, List.getElem_cons_succ, List.setIfInBounds_toArray, List.set_cons_zero, List.set_cons_succ]
            refine anyT_takeL [6, 7, 8, 18] (i := 4) (v := ?_) rfl (by decide +kernel) (by decide +kernel) (by decide +kernel) (by decide +kernel) (by decide +kernel) (by decide +kernel) (fun _ _ _ h => h) (Or.inl ⟨by rfl, ?_⟩) HS0.out ?_
            rotate_left 1
            · intro w hS; obtain ⟨s0, s1, s2⟩ := hS; go_simp; with_reducible rfl
            simp only [Act.put, List.getElem_toArray, List.getElem_cons_zero, List.getElem_cons_succ, List.setIfInBounds_toArray, List.set_cons_zero, List.set_cons_succ]
            refine anyT_takeY (i := 5) (v := ?_) rfl (by decide +kernel) (by decide +kernel) (by decide +kernel) (by decide +kernel) (fun _ _ _ h => h) (Or.inl ⟨by rfl, ?_⟩) HS0.out ?_
            rotate_left 1
            · intro w _; go_simp; with_reducible rfl
            simp only [Act.put, List.getElem_toArray, List.getElem_cons_zero, List.getElem_cons_succ, List.setIfInBounds_toArray, List.set_cons_zero, List.set_cons_succ]
            refine anyT_takeY (i := 6) (v := ?_) rfl (by decide +kernel) (by decide +kernel) (by decide +kernel) (by decide +kernel) (fun _ _ _ h => h) (Or.inl ⟨by rfl, ?_⟩) HS0.out ?_
            rotate_left 1
            · intro w _; go_simp; with_reducible rfl
            simp only [Act.put, List.getElem_toArray, List.getElem_cons_zero, List.getElem_cons_succ, List.setIfInBounds_toArray, List.set_cons_zero, List.set_cons_succ]
            refine anyT_takeL [8, 18] (i := 7) (v := ?_) rfl (by decide +kernel) (by decide +kernel) (by decide +kernel) (by decide +kernel) (by decide +kernel) (by decide +kernel) (fun _ _ _ h => h) (Or.inl ⟨by rfl, ?_⟩) HS0.out ?_
            rotate_left 1
            · intro w hS; obtain ⟨s0, s1, s2⟩ := hS; go_simp; with_reducible rfl
            simp only [Act.put, List.getElem_toArray, List.getElem_cons_zero, List.getElem_cons_succ, List.setIfInBounds_toArray, List.set_cons_zero, List.set_cons_succ]
            refine anyT_takeY (i := 8) (v := ?_) rfl (by decide +kernel) (by decide +kernel) (by decide +kernel) (by decide +kernel) (fun _ _ _ h => h) (Or.inl ⟨by rfl, ?_⟩) HS0.out ?_
            rotate_left 1
            · intro w _; go_simp; with_reducible rfl
            simp only [Act.put, List.getElem_toArray, List.getElem_cons_zero, List.getElem_cons_succ, List.setIfInBounds_toArray, List.set_cons_zero, List.set_cons_succ]
            refine anyT_takeY (i := 9) (v := ?_) rfl (by decide +kernel) (by decide +kernel) (by decide +kernel) (by decide +kernel) (fun _ _ _ h => h) (Or.inl ⟨by rfl, ?_⟩) HS0.out ?_
            rotate_left 1
            · intro w _; go_simp; with_reducible rfl
            simp only [Act.put, List.getElem_toArray, List.getElem_cons_zero, List.getElem_cons_succ, List.setIfInBounds_toArray, List.set_cons_zero, List.set_cons_succ]
            refine anyT_takeY (i := 10) (v := ?_) rfl (by decide +kernel) (by decide +kernel) (by decide +kernel) (by decide +kernel) (fun _ _ _ h => h) (Or.inl ⟨by rfl, ?_⟩) HS0.out ?_
            rotate_left 1
            · intro w _; go_simp; with_reducible rfl
            simp only [Act.put, List.getElem_toArray, List.getElem_cons_zero, List.getElem_cons_succ, List.setIfInBounds_toArray, List.set_cons_zero, List.set_cons_succ]
            refine anyT_takeY (i := 11) (v := ?_) rfl (by decide +kernel) (by decide +kernel) (by decide +kernel) (by decide +kernel) (fun _ _ _ h => h) (Or.inl ⟨by rfl, ?_⟩) HS0.out ?_
            rotate_left 1
            · intro w _; go_simp; with_reducible rfl
            simp only [Act.put, List.getElem_toArray, List.getElem_cons_zero, List.getElem_cons_succ, List.setIfInBounds_toArray, List.set_cons_zero, List.set_cons_succ]
            refine anyT_takeY (i := 12) (v := ?_) rfl (by decide +kernel) (by decide +kernel) (by decide +kernel) (by decide +kernel) (fun _ _ _ h => h) (Or.inl ⟨by rfl, ?_⟩) HS0.out ?_
            rotate_left 1
            · intro w _; go_simp; with_reducible rfl
            simp only [Act.put, List.getElem_toArray, List.getElem_cons_zero, List.getElem_cons_succ, List.setIfInBounds_toArray, List.set_cons_zero, List.set_cons_succ]
            refine anyT_takeY (i := 13) (v := ?_) rfl (by decide +kernel) (by decide +kernel) (by decide +kernel) (by decide +kernel) (fun _ _ _ h => h) (Or.inl ⟨by rfl, ?_⟩) HS0.out ?_
            rotate_left 1
            · intro w _; go_simp; with_reducible rfl
            simp only [Act.put, List.getElem_toArray, List.getElem_cons_zero, List.getElem_cons_succ, List.setIfInBounds_toArray, List.set_cons_zero, List.set_cons_succ]
            refine anyT_takeY (i := 14) (v := ?_) rfl (by decide +kernel) (by decide +kernel) (by decide +kernel) (by decide +kernel) (fun _ _ _ h => h) (Or.inl ⟨by rfl, ?_⟩) HS0.out ?_
            rotate_left 1
            · intro w _; go_simp; with_reducible rfl
            simp only [Act.put, List.getElem_toArray, List.getElem_cons_zero, List.getElem_cons_succ, List.setIfInBounds_toArray, List.set_cons_zero, List.set_cons_succ]
            refine anyT_takeY (i := 15) (v := ?_) rfl (by decide +kernel) (by decide +kernel) (by decide +kernel) (by decide +kernel) (fun _ _ _ h => h) (Or.inl ⟨by rfl, ?_⟩) HS0.out ?_
            rotate_left 1
            · intro w _; go_simp; with_reducible rfl
            simp only [Act.put, List.getElem_toArray, List.getElem_cons_zero, List.getElem_cons_succ, List.setIfInBounds_toArray, List.set_cons_zero, List.set_cons_succ]
            refine anyT_one (i := 16) (by decide +kernel) rfl (fun KK hK => ?_)
            go_simp
            obtain ⟨W2, hW2⟩ : ∃ W2, W2 = (wo.alloc (.cells #[.int .i64 (i : Nat)] 3)).drew := ⟨_, rfl⟩
            have hba : Below wo.heap.size wo W2 := by rw [hW2]; exact ((Below.refl wo.heap.size wo).alloc (Nat.le_refl _) _).drew
            have hz2 : W2.heap.size = wo.heap.size + 1 := by rw [hW2]; simp
            have hr2 : Rd W2 (some ⟨wo.heap.size, 0, none⟩) 1 (fun _ => .int .i64 ((i : Nat) : Int)) := by rw [hW2]; exact (Rd.oneK wo _ _ _ rfl).drew
            have hk : ∀ W, Below wo.heap.size wo W → (W.cell? ⟨x, 0, none⟩ = some (.slice (some ⟨b, off, none⟩) J c)) ∧ (W.cell? ⟨y, 0, none⟩ = some (.func (.func 32) #[] #[.pointer (some ⟨x, 0, none⟩), .pointer (some ⟨y, 0, none⟩)])) ∧ (W.cell? ⟨b, off + i, none⟩ = some (.int .i64 (u : Nat))) := fun W hb => ⟨(hb.cell (p := ⟨x, 0, none⟩) lx).trans s0, (hb.cell (p := ⟨y, 0, none⟩) ly).trans s1, (hb.cell (p := ⟨b, off + i, none⟩) hbl).trans hc⟩
            have HK := Lib.hid hk
            have HBA := Lib.hid hba
            have HR2 := Lib.hid hr2
            have HL2 := Lib.hid (HR1.out.below hba)
            rw [← hW2]
            refine hK.out _ _ (fun _ => HK.out _ HBA.out) ?_
            clear hK KK hk hba hr2 hW2
            try simp only [Act.put, List.getElem_toArray, List.getElem_cons_zero, List.getElem_cons_succ, List.setIfInBounds_toArray, List.set_cons_zero, List.set_cons_succ]
            refine anyT_one (i := 17) (by decide +kernel) rfl (fun KK hK => ?_)
            refine step_grow W2 rfl (.tmp 44) (.tmp 46) 23 rfl EIs rfl (k := m) (by omega) (fun e => ⟨(HL.out e).1, (HL.out e).1⟩) HL2.out rfl (l := 1) rfl HR2.out (fun _ _ => rfl) (by omega) (by omega) (by unfold maxLen; omega) (by omega) (m + 1) (m + 1) rfl rfl ?_
            intro A3 c3 w3 hown hb3
            have HO3 := Lib.hid hown
            have HB3 := Lib.hid (HBA.out.trans (hb3.mono (by rw [hz2]; omega)))
            refine hK.out _ _ (fun _ => HK.out _ HB3.out) ?_
            clear hK KK hown hb3
            try simp only [Act.put, List.getElem_toArray, List.getElem_cons_zero, List.getElem_cons_succ, List.setIfInBounds_toArray, List.set_cons_zero, List.set_cons_succ]
            refine anyT_one (i := 18) (by decide +kernel) rfl (fun KK hK => ?_)
            go_simp
            have hA3 : A3 = none → m + 1 = 0 ∧ c3 = 0 := fun e => by
              obtain ⟨b, off, e', _⟩ := HO3.out.rd.at_ (show 0 < m + 1 by omega)
              rw [e] at e'; cases e'
            rw [show (i : Int) + 1 = ((i + 1 : Nat) : Int) by omega]
            refine (IH.out (i + 1) (left - u) (m + 1) c3 A3 _ w3 (by omega) (by omega) (by omega) (by omega) HO3.out.le.1 HO3.out.le.2 hA3 (HB1.out.below HB3.out) (HA1.out.below HB3.out) HO3.out.rd).mono ?_
            rintro e w4 ⟨hs, hb4⟩
            have HB4 := Lib.hid (HBW.out.trans ((HB3.out.trans (hb4.mono HB3.out.size)).mono HBW.out.size))
            have HS4 := Lib.hid hs
            clear hb4 hA3 hs
            rcases HS4.out with ⟨hf, v, rfl⟩ | ⟨hf, v, rfl⟩
            · have HF := Lib.hid hf
              clear hf HS4
              try go_simp
              refine hK.out _ _ (fun h => absurd h (by decide +kernel)) ?_
              clear hK KK
              try simp only [Act.put, List.getElem_toArray, List.getElem_cons_zero, List.getElem_cons_succ, List.setIfInBounds_toArray, List.set_cons_zero, List.set_cons_succ]
              refine T_of_any _ _ _ _ (by decide +kernel) ?_
              refine wpAny_take (i := 19) (v := ?_) rfl (by kernel_rfl) (by kernel_rfl) (by kernel_rfl) (fun _ _ _ h => h) (Or.inl ⟨by rfl, ?_⟩) ?_
              rotate_left 1
              · intro w; go_simp; with_reducible rfl
              simp only [Act.put, List.getElem_toArray, List.getElem_cons_zero, List.getElem_cons_succ, List.setIfInBounds_toArray, List.set_cons_zero, List.set_cons_succ]
              refine wpAny_take (i := 20) (v := ?_) rfl (by kernel_rfl) (by kernel_rfl) (by kernel_rfl) (fun _ _ _ h => h) (Or.inl ⟨by rfl, ?_⟩) ?_
              rotate_left 1
              · intro w; go_simp; with_reducible rfl
              simp only [Act.put, List.getElem_toArray, List.getElem_cons_zero, List.getElem_cons_succ, List.setIfInBounds_toArray, List.set_cons_zero, List.set_cons_succ]
              refine wpAny_take (i := 21) (v := ?_) rfl (by kernel_rfl) (by kernel_rfl) (by kernel_rfl) (fun _ _ _ h => h) (Or.inl ⟨by rfl, ?_⟩) ?_
              rotate_left 1
              · intro w; go_simp; with_reducible rfl
              simp only [Act.put, List.getElem_toArray, List.getElem_cons_zero, List.getElem_cons_succ, List.setIfInBounds_toArray, List.set_cons_zero, List.set_cons_succ]
              refine wpAny_take (i := 22) (v := ?_) rfl (by kernel_rfl) (by kernel_rfl) (by kernel_rfl) (fun _ _ _ h => h) (Or.inl ⟨by rfl, ?_⟩) ?_
              rotate_left 1
              · intro w; go_simp; with_reducible rfl
              simp only [Act.put, List.getElem_toArray, List.getElem_cons_zero, List.getElem_cons_succ, List.setIfInBounds_toArray, List.set_cons_zero, List.set_cons_succ]
              refine wpAny_take (i := 23) (v := ?_) rfl (by kernel_rfl) (by kernel_rfl) (by kernel_rfl) (fun _ _ _ h => h) (Or.inl ⟨by rfl, ?_⟩) ?_
              rotate_left 1
              · intro w; go_simp; with_reducible rfl
              simp only [Act.put, List.getElem_toArray, List.getElem_cons_zero, List.getElem_cons_succ, List.setIfInBounds_toArray, List.set_cons_zero, List.set_cons_succ]
              refine wpAny_done (by decide +kernel) ?_ _

              go_wp2_with fail
              go_ret2
              exact ⟨.inl ⟨(ssum_iff (d + 1) fr left hd).2 (.inr ⟨i, hfi, hlt, by rw [← HU.out]; omega, by rw [← HU.out]; exact HF.out⟩), _, rfl⟩, HB4.out⟩
            · have HF := Lib.hid hf
              clear hf HS4
              try go_simp
              refine hK.out _ _ (fun h => absurd h (by decide +kernel)) ?_
              clear hK KK
              try simp only [Act.put, List.getElem_toArray, List.getElem_cons_zero, List.getElem_cons_succ, List.setIfInBounds_toArray, List.set_cons_zero, List.set_cons_succ]
              refine T_of_any _ _ _ _ (by decide +kernel) ?_
              refine wpAny_take (i := 19) (v := ?_) rfl (by kernel_rfl) (by kernel_rfl) (by kernel_rfl) (fun _ _ _ h => h) (Or.inl ⟨by rfl, ?_⟩) ?_
              rotate_left 1
              · intro w; go_simp; with_reducible rfl
              simp only [Act.put, List.getElem_toArray, List.getElem_cons_zero, List.getElem_cons_succ, List.setIfInBounds_toArray, List.set_cons_zero, List.set_cons_succ]
              refine wpAny_take (i := 20) (v := ?_) rfl (by kernel_rfl) (by kernel_rfl) (by kernel_rfl) (fun _ _ _ h => h) (Or.inl ⟨by rfl, ?_⟩) ?_
              rotate_left 1
              · intro w; go_simp; with_reducible rfl
              simp only [Act.put, List.getElem_toArray, List.getElem_cons_zero, List.getElem_cons_succ, List.setIfInBounds_toArray, List.set_cons_zero, List.set_cons_succ]
              refine wpAny_take (i := 21) (v := ?_) rfl (by kernel_rfl) (by kernel_rfl) (by kernel_rfl) (fun _ _ _ h => h) (Or.inl ⟨by rfl, ?_⟩) ?_
              rotate_left 1
              · intro w; go_simp; with_reducible rfl
              simp only [Act.put, List.getElem_toArray, List.getElem_cons_zero, List.getElem_cons_succ, List.setIfInBounds_toArray, List.set_cons_zero, List.set_cons_succ]
              refine wpAny_take (i := 22) (v := ?_) rfl (by kernel_rfl) (by kernel_rfl) (by kernel_rfl) (fun _ _ _ h => h) (Or.inl ⟨by rfl, ?_⟩) ?_
              rotate_left 1
              · intro w; go_simp; with_reducible rfl
              simp only [Act.put, List.getElem_toArray, List.getElem_cons_zero, List.getElem_cons_succ, List.setIfInBounds_toArray, List.set_cons_zero, List.set_cons_succ]
              refine wpAny_take (i := 23) (v := ?_) rfl (by kernel_rfl) (by kernel_rfl) (by kernel_rfl) (fun _ _ _ h => h) (Or.inl ⟨by rfl, ?_⟩) ?_
              rotate_left 1
              · intro w; go_simp; with_reducible rfl
              simp only [Act.put, List.getElem_toArray, List.getElem_cons_zero, List.getElem_cons_succ, List.setIfInBounds_toArray, List.set_cons_zero, List.set_cons_succ]
              refine wpAny_done (by decide +kernel) ?_ _

              go_wp2_with fail
              go_roundw
              case rel => exact ⟨i + 1, by omega, by omega, by go_num, Lib.hid (fun j h1 h2 => by
                by_cases e : j = i
                · subst e; exact fun h => HF.out (by rw [HU.out]; exact h.2)
                · exact HNO.out j h1 (by omega)), HB4⟩
              case measure => simp [intOf]; omega
        · obtain rfl : i = J := by omega
          go_wp2_with fail
          go_ret2
          refine ⟨.inr ⟨fun h => ?_, _, rfl⟩, HBW.out⟩
          rcases (ssum_iff (d + 1) fr left hd).1 h with h | ⟨j, h1, h2, h3, h4⟩
          · exact hz h
          · exact HNO.out j h1 h2 ⟨h3, h4⟩
end Go.Proofs.Ytkedkgmcdhmjiaa
