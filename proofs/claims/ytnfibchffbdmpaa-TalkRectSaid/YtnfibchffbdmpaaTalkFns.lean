/- What talk.wrong and the references' TalkCheck compute. Condition: the rows read as told. -/
import Derived.Test.YtnfibchffbdmpaaPredWB
import Derived.Test.YtnfibchffbdmpaaRowsOf
import Derived.Test.YtnfibchffbdmpaaInside
namespace Go.Proofs.Ytnfibchffbdmpaa
open Go.ChangeShapes Go.WideShapes Go.ChangeAt Go.RowKit
set_option linter.unusedVariables false
set_option linter.unusedSimpArgs false
/-- the table's rows -/
def GrT (w : World) (A : Option Addr) (n : Nat) (R : Nat → SB) : Prop := Rd w A n (fun i => (R i).val) ∧ ∀ i, i < n → (R i).good w
theorem GrT.below {w w' : World} {A : Option Addr} {n : Nat} {R : Nat → SB} (h : GrT w A n R) (hb : Below w.heap.size w w') : GrT w' A n R := ⟨h.1.below hb, fun i hi => (h.2 i hi).below hb⟩
def lnT (R : Nat → SB) (i : Nat) : Bool := ((R i).n : Int) != ((R 0).n : Int)
def tkE (n : Nat) (R : Nat → SB) : Int := if n < 1 ∨ 4 < n ∨ (R 0).n < 1 ∨ 4 < (R 0).n then 1 else if anyB (lnT R) n = true then 3 else 0
set_option maxRecDepth 100000 in
theorem lenT_any (A B : Option Addr) (m c n d g b o k kc : Nat) (K : Option Addr) (w : World) (h : w.cell? ⟨g, 0, none⟩ = some (.slice (some ⟨b, o, none⟩) n d)) (hn : 1 ≤ n) (h2 : w.cell? ⟨b, o, none⟩ = some (.slice K k kc)) : Calls Try.prog 28 #[.slice A m c, .pointer (some ⟨g, 0, none⟩)] w fun e w' => e = .returned (.bool ((m : Int) != (k : Int))) ∧ w = w' := by
  go_enter Try.func28, Try.ntmps28
  go_wp2_with fail
  go_ret
  exact ⟨rfl, rfl⟩
set_option maxRecDepth 100000 in
set_option maxHeartbeats 2000000 in
theorem wrongT_any (A : Option Addr) (n c : Nat) (R : Nat → SB) (w : World) (h : GrT w A n R) (hn : n ≤ maxLen) :
    Calls Try.prog 14 #[.slice A n c] w fun e w' => e = .returned (.int .i64 (tkE n R)) ∧ Below w.heap.size w w' := by
  have H := Lib.hid h
  have HN := Lib.hid hn
  have hnx := hn
  unfold maxLen at hnx
  have HB1 : Hid (Below w.heap.size w (w.alloc (.cells #[.slice A n c] 22))) := Lib.hid ((Below.refl w.heap.size w).alloc (Nat.le_refl _) (.cells #[.slice A n c] 22))
  by_cases h1 : n < 1
  · have HE : Hid (tkE n R = 1) := Lib.hid (if_pos (.inl h1))
    clear h hn
    go_enter Try.func14, Try.ntmps14
    go_wp2_with fail
    go_ret
    exact ⟨ret_int HE.out.symm, HB1.out⟩
  by_cases h2 : 4 < n
  · have HE : Hid (tkE n R = 1) := Lib.hid (if_pos (.inr (.inl h2)))
    clear h hn
    go_enter Try.func14, Try.ntmps14
    go_wp2_with fail
    go_ret
    exact ⟨ret_int HE.out.symm, HB1.out⟩
  obtain ⟨b, o, rfl, hb, hc0⟩ := h.1.at_ (show 0 < n by omega)
  have hR0 : (R 0).val = .slice (R 0).A (R 0).n (R 0).c := rfl
  have hg0 := h.2 0 (by omega)
  obtain ⟨K, hK⟩ : ∃ K, K = (R 0).A := ⟨_, rfl⟩
  obtain ⟨k, hk⟩ : ∃ k, k = (R 0).n := ⟨_, rfl⟩
  obtain ⟨kc, hkc⟩ : ∃ k, k = (R 0).c := ⟨_, rfl⟩
  rw [hR0, ← hK, ← hk, ← hkc] at hc0
  have hc0' : w.cell? ⟨b, o, none⟩ = some (.slice K k kc) := hc0
  have hkm : k ≤ maxLen := by rw [hk]; exact Nat.le_trans hg0.2.1 hg0.2.2
  unfold maxLen at hkm
  have HK := Lib.hid hk
  clear hR0 hg0 hK hkc hc0
  by_cases h3 : k < 1
  · have HE : Hid (tkE n R = 1) := Lib.hid (if_pos (.inr (.inr (.inl (by rw [← HK.out]; exact h3)))))
    clear h hn hk
    go_enter Try.func14, Try.ntmps14
    go_wp2_with fail
    go_ret
    exact ⟨ret_int HE.out.symm, HB1.out⟩
  by_cases h4 : 4 < k
  · have HE : Hid (tkE n R = 1) := Lib.hid (if_pos (.inr (.inr (.inr (by rw [← HK.out]; exact h4)))))
    clear h hn hk
    go_enter Try.func14, Try.ntmps14
    go_wp2_with fail
    go_ret
    exact ⟨ret_int HE.out.symm, HB1.out⟩
  obtain ⟨W1, hW1⟩ : ∃ W, W = w.alloc (.cells #[.slice (some ⟨b, o, none⟩) n c] 22) := ⟨_, rfl⟩
  have hcell : W1.cell? ⟨w.heap.size, 0, none⟩ = some (.slice (some ⟨b, o, none⟩) n c) := by rw [hW1]; simp
  rw [← hW1] at HB1
  have hc1 : W1.cell? ⟨b, o, none⟩ = some (.slice K k kc) := (HB1.out.cell (p := ⟨b, o, none⟩) hb).trans hc0'
  have hcl := containsWB_any 28 #[.pointer (some ⟨w.heap.size, 0, none⟩)] (some ⟨b, o, none⟩) n c (fun i => (R i).val) (lnT R) W1 (H.out.below HB1.out).1 HN.out (fun _ _ => rfl) (fun i hi => by
    have := lenT_any (R i).A (some ⟨b, o, none⟩) (R i).n (R i).c n c w.heap.size b o k kc K W1 hcell (by omega) hc1
    unfold lnT
    rw [← hk]; exact this)
  have HCL := Lib.hid hcl
  have HW1 := Lib.hid hW1
  have HT : Hid (tkE n R = if anyB (lnT R) n = true then 3 else 0) := Lib.hid (if_neg (by rw [← hk]; omega))
  clear hcl hW1 hcell hk h hn hc1
  go_enter Try.func14, Try.ntmps14
  go_wp2_with fail
  rw [← HW1.out]
  refine HCL.out.mono ?_
  rintro e w' ⟨rfl, rfl⟩
  cases ha : anyB (lnT R) n with
  | true =>
    have HE : Hid (tkE n R = 3) := Lib.hid (by rw [HT.out, ha]; rfl)
    clear ha
    go_wp2_with fail
    go_ret
    exact ⟨ret_int HE.out.symm, HB1.out⟩
  | false =>
    have HE : Hid (tkE n R = 0) := Lib.hid (by rw [HT.out, ha]; rfl)
    clear ha
    go_wp2_with fail
    go_ret
    exact ⟨ret_int HE.out.symm, HB1.out⟩
end Go.Proofs.Ytnfibchffbdmpaa
