/- The walk of lone.sieve. Conditions: sets and checks are below 32. -/
import Derived.Test.YtmnleblbandghaaLoneSieve1
namespace Go.Proofs.Ytmnleblbandghaa
open Go.ChangeShapes Go.WideShapes Go.ChangeAt Go.RowKit
set_option linter.unusedVariables false
set_option maxRecDepth 100000 in
theorem sieve_any (A QA : Option Addr) (m c q cq : Nat) (S Q : Nat → Nat) (w : World) (h : Rd w A m (fun i => .int .u32 (S i : Nat))) (hm : m ≤ 200) (hS : ∀ i, i < m → S i < 32)
    (hq : Rd w QA q (fun i => .int .u32 (Q i : Nat))) (hqm : q ≤ 12) (hQ : ∀ i, i < q → Q i < 32) :
    Calls Try.prog 20 #[.slice A m c, .slice QA q cq] w fun e w' => ∃ (A' : Option Addr) (cn cc : Nat) (G : Nat → Nat), e = .returned (.slice A' cn cc) ∧ Rd w' A' cn (fun i => .int .u32 (G i : Nat)) ∧ cn ≤ m ∧ Svd (okS S Q q) S m cn G ∧ Below w.heap.size w w' := by
  have H := Lib.hid h
  have HQ := Lib.hid hq
  have HS := Lib.hid hS
  have HQB := Lib.hid hQ
  clear h hq hS hQ
  go_enter Try.func20, Try.ntmps20
  go_wp2_with fail
  go_loopw [5, 10] (fun s5 s10 wr => ∃ (k : Nat) (A' : Option Addr) (cn cc : Nat) (G : Nat → Nat), k ≤ m ∧ s10 = .int .i64 (k : Nat) ∧ s5 = .slice A' cn cc ∧ cn ≤ k ∧ Hid (Svd (okS S Q q) S k cn G) ∧ Own wr w.heap.size 27 1 A' cn cc cn (fun i => .int .u32 (G i : Nat)) ∧ Below w.heap.size w wr) (fun _ s10 _ => m - (intOf s10).toNat)
  case atStart => exact ⟨0, none, 0, 0, fun _ => 0, by omega, rfl, rfl, by omega, Lib.hid ⟨rfl, fun i h => absurd h (Nat.not_lt_zero _), fun i h => absurd h (Nat.not_lt_zero _)⟩, Own.nil _ _ _ _ _, Below.refl _ _⟩
  case round =>
    obtain ⟨wo, rfl⟩ : ∃ wo : World, wo = wr := ⟨_, rfl⟩
    obtain ⟨k, A', cn, cc, G, hk, rfl, rfl, hcn, HL, hown, hbel⟩ := hrel
    by_cases hlt : k < m
    · obtain ⟨b, off, rfl, hbb, hc0⟩ := H.out.at_ hlt
      have hc := (hbel.cell (p := ⟨b, off + k, none⟩) hbb).trans hc0
      have hsk := HS.out k hlt
      have hB1 : Below w.heap.size w (wo.alloc (.cells #[.int .u32 (S k : Nat)] 27)) := hbel.alloc hbel.size _
      have hx1 : (wo.alloc (.cells #[.int .u32 (S k : Nat)] 27)).cell? ⟨wo.heap.size, 0, none⟩ = some (.int .u32 (S k : Nat)) := by
        rw [cell_of_row _ wo.heap.size 0 _ _ (0, 0) (heap_alloc_new wo _)]; rfl
      have ho1 := hown.alloc (.cells #[.int .u32 (S k : Nat)] 27)
      obtain ⟨Bx, hBx⟩ : ∃ Bx, Bx = wo.heap.size := ⟨_, rfl⟩
      obtain ⟨wb, hwb⟩ : ∃ wb, wb = wo.alloc (.cells #[.int .u32 (S k : Nat)] 27) := ⟨_, rfl⟩
      have hBl : Bx < wb.heap.size := by rw [hwb, hBx]; simp
      have HO1 := Lib.hid ho1
      clear hc0 ho1 hown
      go_wp2_with fail
      rw [← hwb, ← hBx]
      rw [← hwb] at hB1 hx1 HO1
      rw [← hBx] at hx1
      clear hwb hBx hbel
      have hcp := containsUB_any 29 #[.pointer (some ⟨Bx, 0, none⟩)] QA q cq (fun i => (Q i : Nat)) (fun j => notP (S k) (Q j)) wb (HQ.out.below hB1) (by unfold maxLen; omega) (fun _ _ => rfl) (fun i hi W hW => sieveC_any (S k) (Q i) Bx W hsk (HQB.out i hi) ((hW.cell (p := ⟨Bx, 0, none⟩) hBl).trans hx1))
      have HCP := Lib.hid hcp
      clear hcp
      go_wp2_with fail
      refine HCP.out.mono ?_
      rintro e w1 ⟨rfl, hb1⟩
      have hbad : okS S Q q k = !anyB (fun j => notP (S k) (Q j)) q := rfl
      obtain ⟨bd, hbd⟩ : ∃ bd, bd = anyB (fun j => notP (S k) (Q j)) q := ⟨_, rfl⟩
      rw [← hbd] at hbad ⊢
      have HBAD := Lib.hid hbad
      have hx2 := (hb1.cell (p := ⟨Bx, 0, none⟩) hBl).trans hx1
      have hO2 := HO1.out.below hb1
      have hB2 := hB1.trans (hb1.mono hB1.size)
      have HO2 := Lib.hid hO2
      clear hbad hbd HCP hx1 hc hO2 hb1 HO1
      cases bd
      · have HL2 := Lib.hid (HL.out.yes HBAD.out)
        go_wp2_with (at_builtin; refine wpList_app _ rfl (.tmp 18) (.tmp 20) 22 rfl EW rfl (HO2.out.alloc _) rfl (l := 1) (by omega) (Rd.one _ _ _) (fun _ _ => rfl) (by unfold maxLen; omega) (by omega) (by have := hB2.size; simp <;> omega) (cn + 1) (cn + 1) (by omega) (by omega) ?_; intro A2 c2 w2 hown2 hg2 hat2 hbl2)
        go_roundw
        case rel => exact ⟨k + 1, A2, cn + 1, c2, _, by omega, by go_num, rfl, by omega, HL2, hown2.congr (fun i hi => by
          by_cases e : i < cn
          · rw [cat_lt e]; show _ = Value.int IntKind.u32 ((if i < cn then _ else _ : Nat) : Int); rw [if_pos e]
          · rw [cat_ge (by omega)]; show Value.int IntKind.u32 _ = Value.int IntKind.u32 ((if i < cn then _ else _ : Nat) : Int); rw [if_neg e]), (hB2.alloc hB2.size _).trans (hbl2.mono (by have := hB2.size; simp <;> omega))⟩
        case measure => simp [intOf]; omega
      · have HL2 := Lib.hid (HL.out.no HBAD.out)
        go_wp2_with fail
        go_roundw
        case rel => exact ⟨k + 1, A', cn, cc, G, by omega, by go_num, rfl, by omega, HL2, HO2.out, hB2⟩
        case measure => simp [intOf]; omega
    · obtain rfl : k = m := by omega
      go_wp2_with fail
      go_ret
      exact ⟨A', cn, cc, G, rfl, hown.rd, by omega, HL.out, hbel⟩
end Go.Proofs.Ytmnleblbandghaa
