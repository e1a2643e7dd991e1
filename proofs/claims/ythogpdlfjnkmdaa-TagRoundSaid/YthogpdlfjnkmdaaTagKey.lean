/- What tag.key computes: the word's letters as bytes. Conditions: the letters lie from 0 to 3, the word has at most 40 of them. -/
import Derived.Test.YthogpdlfjnkmdaaTagCheck
import Derived.Laws.IdiomStrings
namespace Go.Proofs.Ythogpdlfjnkmdaa
open Go.ChangeShapes Go.WideShapes Go.ChangeAt Go.RowKit
set_option linter.unusedVariables false
theorem EUk : Elem Try.prog 48 5 1 1 := Elem.of Try.underlying48 (by kernel_rfl : (Try.prog.info? 5).map (fun i => (i.zero, i.size, i.bytes)) = some (some (.int .u8 0), 1, 1)) rfl (by omega)
/-- a word's letters as bytes -/
def kyB (l : List Int) : List UInt8 := l.map (fun x => UInt8.ofNat x.toNat)
def kyS (l : List Int) : ByteArray := ⟨(kyB l).toArray⟩
theorem kyB_inj {S : Int} (hS : S ≤ 4) : ∀ {l l' : List Int}, LetS S l → LetS S l' → kyB l = kyB l' → l = l' := by
  intro l
  induction l with
  | nil => intro l' _ _ h; cases l' with | nil => rfl | cons y r => cases h
  | cons x r ih =>
    intro l' h1 h2 h
    cases l' with
    | nil => cases h
    | cons y r' =>
      have h' : UInt8.ofNat x.toNat :: kyB r = UInt8.ofNat y.toNat :: kyB r' := h
      injection h' with e1 e2
      have hx := h1 x (List.mem_cons_self)
      have hy := h2 y (List.mem_cons_self)
      have e3 : (UInt8.ofNat x.toNat).toNat = (UInt8.ofNat y.toNat).toNat := by rw [e1]
      simp at e3
      have : x = y := by omega
      subst this
      rw [ih (fun z hz => h1 z (List.mem_cons_of_mem _ hz)) (fun z hz => h2 z (List.mem_cons_of_mem _ hz)) e2]
theorem kyS_inj {S : Int} (hS : S ≤ 4) {l l' : List Int} (h1 : LetS S l) (h2 : LetS S l') (h : kyS l = kyS l') : l = l' := by
  refine kyB_inj hS h1 h2 ?_
  have : (kyB l).toArray = (kyB l').toArray := congrArg ByteArray.data h
  exact congrArg Array.toList this
set_option maxRecDepth 100000 in
set_option maxHeartbeats 2000000 in
theorem key_any (l : List Int) (A : Option Addr) (c : Nat) (w : World) (hA : Rd w A l.length (lsV l)) (hl : l.length ≤ 40) (hL : LetS 4 l) :
    Calls Try.prog 13 #[.slice A l.length c] w fun e w' => e = .returned (.string (kyS l)) ∧ Below w.heap.size w w' := by
  have HA := Lib.hid hA
  have HL := Lib.hid hL
  obtain ⟨n, hn⟩ : ∃ n, n = l.length := ⟨_, rfl⟩
  rw [← hn] at hl HA ⊢
  have HN := Lib.hid hn
  clear hA hL hn
  go_enter Try.func13, Try.ntmps13
  go_wp2_with fail
  go_loopw [3, 8] (fun s3 s8 wr => ∃ (i : Nat) (A2 : Option Addr) (c2 : Nat), i ≤ n ∧ s8 = .int .i64 (i : Nat) ∧ s3 = .slice A2 i c2 ∧ Hid (Own wr w.heap.size 5 1 A2 i c2 i (fun j => .int .u8 (l[j]?.getD 0))) ∧ Hid (Below w.heap.size w wr)) (fun _ s8 _ => n - (intOf s8).toNat)
  case atStart => exact ⟨0, none, 0, Nat.zero_le _, rfl, rfl, Lib.hid (Own.nil _ _ _ _ _), Lib.hid (Below.refl _ _)⟩
  case round =>
    obtain ⟨wo, rfl⟩ : ∃ wo : World, wo = wr := ⟨_, rfl⟩
    obtain ⟨i, A2, c2, hi, rfl, rfl, HO, HBL⟩ := hrel
    by_cases hlt : i < n
    · obtain ⟨b, off, rfl, hb, hc⟩ := (HA.out.below HBL.out).at_ hlt
      obtain ⟨x, hx⟩ : ∃ x, x = l[i]?.getD 0 := ⟨_, rfl⟩
      have hc2 : wo.cell? ⟨b, off + i, none⟩ = some (.int .i64 x) := by rw [hc, hx]; rfl
      have hx4 : 0 ≤ x ∧ x < 4 := by
        have hil : i < l.length := by rw [← HN.out]; exact hlt
        rw [hx, List.getElem?_eq_getElem hil]
        exact HL.out _ (List.getElem_mem hil)
      obtain ⟨x0, x4⟩ := hx4
      have x5 : x ≤ 255 := by omega
      have HX := Lib.hid hx
      clear hc hx
      go_wp2_with (at_builtin; refine wpList_app _ rfl (.tmp 12) (.tmp 15) 48 rfl EUk rfl (HO.out.alloc _) rfl (l := 1) (by omega) (rd_one _ _ _ rfl) (fun _ _ => rfl) (by unfold maxLen; omega) (by omega) (by have := HBL.out.size; simp; omega) (i + 1) (i + 1) rfl rfl ?_; intro A3 c3 w3 hown3 hg3 hat3 hbl3)
      go_roundw
      case rel => exact ⟨i + 1, A3, c3, by omega, by go_num, rfl, Lib.hid (hown3.congr (fun q hq => by
        by_cases h : q < i
        · rw [cat_lt h]
        · obtain rfl : q = i := by omega
          rw [cat_ge (by omega), ← HX.out])), Lib.hid ((HBL.out.alloc HBL.out.size _).trans hbl3)⟩
      case measure => simp [intOf]; omega
    · obtain rfl : i = n := by omega
      cases A2 with
      | none =>
        have hi0 : i = 0 := by
          rcases Nat.eq_zero_or_pos i with h0 | h0
          · exact h0
          · obtain ⟨b, off, e, _⟩ := HO.out.rd h0; cases e
        subst hi0
        have hl0 : l = [] := List.length_eq_zero_iff.mp HN.out.symm
        subst hl0
        have hcv : (convert 48 9 (.slice none 0 c2)).run Try.prog wo = .ok (.string ⟨#[]⟩) wo := by
          rw [run_convert_bytes_string wo _ _ 5 none 0 c2 Try.underlying48 Try.underlying5 Try.underlying9]
          simp [Conv.bytesToString, Sem.run_pure] <;> rfl
        go_wp2_with fail
        go_ret
        exact ⟨rfl, HBL.out⟩
      | some a =>
        have hcv := run_convert_bytes_back (P := Try.prog) wo 48 9 5 a c2 (kyB l) Try.underlying48 Try.underlying5 Try.underlying9 (fun j hj => by
          have hjl : j < l.length := by unfold kyB at hj; simpa using hj
          obtain ⟨b, off, e, _, hcj⟩ := HO.out.rd.at_ (k := j) (by rw [HN.out]; exact hjl)
          injection e with e
          subst e
          rw [show (⟨b, off, none⟩ : Addr).add j = ⟨b, off + j, none⟩ by rw [Addr.add_lit], hcj]
          have hxj := HL.out _ (List.getElem_mem hjl)
          have hkj : (kyB l)[j] = UInt8.ofNat (l[j].toNat) := List.getElem_map (l := l) (fun x => UInt8.ofNat x.toNat)
          rw [hkj, List.getElem?_eq_getElem hjl]
          show some (Value.int .u8 l[j]) = _
          have : ((UInt8.ofNat l[j].toNat).toNat : Int) = l[j] := by simp; omega
          rw [this])
        rw [show (kyB l).length = i by rw [HN.out]; unfold kyB; simp] at hcv
        go_wp2_with fail
        go_ret
        exact ⟨rfl, HBL.out⟩
end Go.Proofs.Ythogpdlfjnkmdaa
