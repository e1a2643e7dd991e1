/- What lone.Sieve computes. Conditions: sets and checks are words. -/
import Derived.Test.YtmnleblbandghaaLoneSieve2
namespace Go.Proofs.Ytmnleblbandghaa
open Go.ChangeShapes Go.WideShapes Go.ChangeAt Go.RowKit
set_option linter.unusedVariables false
theorem loneS_any (n x : Int) (Bx : Nat) (w : World) (n0 : 0 ≤ n) (n5 : n ≤ 5) (hx : w.cell? ⟨Bx, 0, none⟩ = some (.int .i64 n)) :
    Calls Try.prog 19 #[.int .u32 x, .pointer (some ⟨Bx, 0, none⟩)] w fun e w' => e = .returned (.bool (x / 2 ^ n.toNat != 0)) ∧ w = w' := by
  go_enter Try.func19, Try.ntmps19
  go_wp2_with fail
  go_ret
  exact ⟨rfl, rfl⟩
def QOk (n : Int) (q : Nat) (Q : Nat → Int) : Prop := q ≤ 5 ∧ ∀ i, i < q → Q i < 2 ^ n.toNat
theorem pow32 {n : Int} (h1 : 1 ≤ n) (h5 : n ≤ 5) : (2 : Int) ^ n.toNat ≤ 32 := by
  have : n = 1 ∨ n = 2 ∨ n = 3 ∨ n = 4 ∨ n = 5 := by omega
  rcases this with rfl | rfl | rfl | rfl | rfl <;> decide
def tN (S : Nat → Int) (i : Nat) : Nat := (S i).toNat
theorem rd_tN {w : World} {A : Option Addr} {m : Nat} {S : Nat → Int} (h : Rd w A m (fun i => .int .u32 (S i))) (hS : ∀ i, i < m → (Lit.int .u32 (S i)).wf = true) : Rd w A m (fun i => .int .u32 (tN S i : Nat)) :=
  h.congr fun i hi => by
    have := wf_u32 (hS i hi)
    show Value.int IntKind.u32 (S i) = Value.int IntKind.u32 (((S i).toNat : Nat) : Int)
    rw [Int.toNat_of_nonneg this.1]
set_option maxRecDepth 100000 in
theorem sieveL_any (n : Int) (A QA : Option Addr) (m c q cq : Nat) (S Q : Nat → Int) (w : World) (wn : (Lit.int .i64 n).wf = true) (h : Rd w A m (fun i => .int .u32 (S i))) (hm : m ≤ maxLen) (hS : ∀ i, i < m → (Lit.int .u32 (S i)).wf = true)
    (hq : Rd w QA q (fun i => .int .u32 (Q i))) (hqm : q ≤ maxLen) (hQ : ∀ i, i < q → (Lit.int .u32 (Q i)).wf = true) :
    Calls Try.prog 7 #[.int .i64 n, .slice A m c, .slice QA q cq] w fun e w' => ∃ (A' : Option Addr) (cn cc : Nat) (G : Nat → Nat) (x : Int), e = .returned (.tuple #[.slice A' cn cc, .int .i64 x]) ∧ Below w.heap.size w w' ∧
      ((x = 0 ∧ LOk n m S ∧ QOk n q Q ∧ Rd w' A' cn (fun i => .int .u32 (G i : Nat)) ∧ cn ≤ m ∧ Svd (okS (tN S) (tN Q) q) (tN S) m cn G) ∨ (x ≠ 0 ∧ A' = none ∧ cn = 0 ∧ cc = 0 ∧ ¬ (LOk n m S ∧ QOk n q Q))) := by
  have hB0 := (Below.refl w.heap.size w).alloc (Nat.le_refl _) (.cells #[.int .i64 n] 3)
  have hx0 : (w.alloc (.cells #[.int .i64 n] 3)).cell? ⟨w.heap.size, 0, none⟩ = some (.int .i64 n) := by
    rw [cell_of_row (w.alloc (.cells #[.int .i64 n] 3)) w.heap.size 0 _ _ (0, 0) (heap_alloc_new w _)]; rfl
  obtain ⟨Bx, hBx⟩ : ∃ Bx, Bx = w.heap.size := ⟨_, rfl⟩
  obtain ⟨wb, hwb⟩ : ∃ wb, wb = w.alloc (.cells #[.int .i64 n] 3) := ⟨_, rfl⟩
  have hBl : Bx < wb.heap.size := by rw [hwb, hBx]; simp
  have hws : w.heap.size ≤ wb.heap.size := by rw [hwb]; simp
  have hmm := hm
  have hqq := hqm
  unfold maxLen at hmm hqq
  have H := Lib.hid h
  have HS := Lib.hid hS
  have HQ := Lib.hid hq
  have HQW := Lib.hid hQ
  have HM := Lib.hid hm
  have HQM := Lib.hid hqm
  clear h hS hq hQ hm hqm
  go_enter Try.func7, Try.ntmps7
  go_wp2_with fail
  rw [← hwb, ← hBx]
  rw [← hwb] at hB0 hx0
  rw [← hBx] at hx0
  clear hwb hBx
  have HB0 := Lib.hid hB0
  clear hB0
  go_wp2_with fail
  refine (loneW_any n A m c S wb wn (H.out.below HB0.out) HM.out HS.out).mono ?_
  rintro e w1 ⟨⟨x, rfl, hx⟩, hb1⟩
  have HX := Lib.hid hx
  have hx1 := (hb1.cell (p := ⟨Bx, 0, none⟩) hBl).trans hx0
  have HB1 := Lib.hid (HB0.out.trans (hb1.mono HB0.out.size))
  clear hx hx0 hb1
  by_cases hz : x = 0
  · subst hz
    have hok := HX.out.1 rfl
    have hn := hok.1
    have hm2 := hok.2.1
    have HOK := Lib.hid hok
    have hp32 := pow32 hn.1 hn.2
    clear hok
    by_cases hq5 : q ≤ 5
    · have hcp := containsU_any 19 #[.pointer (some ⟨Bx, 0, none⟩)] QA q cq Q (fun i => Q i / 2 ^ n.toNat != 0) w1 (HQ.out.below HB1.out) HQM.out (fun _ _ => rfl) (fun i hi => loneS_any n (Q i) Bx w1 (by omega) (by omega) hx1)
      have hbad : anyB (fun i => Q i / 2 ^ n.toNat != 0) q = false ↔ ∀ i, i < q → Q i < 2 ^ n.toNat := by
        rw [anyB_false]
        constructor
        · exact fun h i hi => (big_iff (wf_u32 (HQW.out i hi)).1).1 (h i hi)
        · exact fun h i hi => (big_iff (wf_u32 (HQW.out i hi)).1).2 (h i hi)
      obtain ⟨bd, hbd⟩ : ∃ bd, bd = anyB (fun i => Q i / 2 ^ n.toNat != 0) q := ⟨_, rfl⟩
      rw [← hbd] at hbad hcp
      have HCP := Lib.hid hcp
      have HBD := Lib.hid hbad
      clear hcp hbad hbd
      go_wp2_with fail
      refine HCP.out.mono ?_
      rintro e w' ⟨rfl, rfl⟩
      clear HCP
      cases bd
      · have hqb : ∀ i, i < q → Q i < 2 ^ n.toNat := by simpa using HBD.out
        have HQB := Lib.hid hqb
        clear hqb HBD
        go_wp2_with fail
        refine (sieve_any A QA m c q cq (tN S) (tN Q) w1 (rd_tN (H.out.below HB1.out) HS.out) (by omega) (fun i hi => by
          have h1 := HOK.out.2.2.1 i hi
          have h2 := wf_u32 (HS.out i hi)
          show (S i).toNat < 32; omega) (rd_tN (HQ.out.below HB1.out) HQW.out) (by omega) (fun i hi => by
          have h1 := HQB.out i hi
          have h2 := wf_u32 (HQW.out i hi)
          show (Q i).toNat < 32; omega)).mono ?_
        rintro e w2 ⟨A', cn, cc, G, rfl, hrd, hcn, hsv, hb2⟩
        have HRD := Lib.hid hrd
        have HSV := Lib.hid hsv
        have HB2 := Lib.hid hb2
        clear hrd hsv hb2
        go_wp2_with fail
        refine bodyPost_ret (v := .tuple #[.slice A' cn cc, .int .i64 0]) (by simp [results, Try.results7, go_sem]) rfl ?_
        exact ⟨A', cn, cc, G, 0, rfl, HB1.out.trans (HB2.out.mono HB1.out.size), .inl ⟨rfl, HOK.out, ⟨hq5, HQB.out⟩, HRD.out, hcn, HSV.out⟩⟩
      · go_wp2_with fail
        refine bodyPost_ret (v := .tuple #[.slice none 0 0, .int .i64 2]) (by simp [results, Try.results7, go_sem]) rfl ?_
        refine ⟨none, 0, 0, fun _ => 0, 2, rfl, HB1.out, .inr ⟨by omega, rfl, rfl, rfl, fun h => ?_⟩⟩
        have h1 := HBD.out.2 h.2.2
        cases h1
    · go_wp2_with fail
      refine bodyPost_ret (v := .tuple #[.slice none 0 0, .int .i64 2]) (by simp [results, Try.results7, go_sem]) rfl ?_
      exact ⟨none, 0, 0, fun _ => 0, 2, rfl, HB1.out, .inr ⟨by omega, rfl, rfl, rfl, fun h h2 => hq5 h2.1⟩⟩
  · have hne : (x != 0) = true := by simp [hz]
    have HZ := Lib.hid hz
    clear hz
    go_wp2_with fail
    refine bodyPost_ret (v := .tuple #[.slice none 0 0, .int .i64 x]) (by simp [results, Try.results7, go_sem]) rfl ?_
    exact ⟨none, 0, 0, fun _ => 0, x, rfl, HB1.out, .inr ⟨HZ.out, rfl, rfl, rfl, fun h => HZ.out (HX.out.2 h.1)⟩⟩
end Go.Proofs.Ytmnleblbandghaa
