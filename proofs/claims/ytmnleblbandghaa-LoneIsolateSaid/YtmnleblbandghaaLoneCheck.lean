/- What tapeworksref.LoneCheck says. Conditions: the sets are words. -/
import Derived.Test.YtmnleblbandghaaLoneWrong
import Derived.Test.YtmnleblbandghaaInside
import Derived.BigQuiet
import Derived.Deep.QuietTactic
namespace Go.Proofs.Ytmnleblbandghaa
open Go.ChangeShapes Go.WideShapes Go.ChangeAt Go.RowKit Go.Maps
set_option linter.unusedVariables false
set_option maxRecDepth 100000 in
theorem loneK_any (n : Int) (A : Option Addr) (m c : Nat) (S : Nat → Int) (w : World) (wn : (Lit.int .i64 n).wf = true) (h : Rd w A m (fun i => .int .u32 (S i))) (hm : m ≤ maxLen) (hS : ∀ i, i < m → (Lit.int .u32 (S i)).wf = true) :
    Calls Try.prog 21 #[.int .i64 n, .slice A m c] w fun e w' => (∃ x : Int, e = .returned (.int .i64 x) ∧ (x = 0 ↔ LOk n m S)) ∧ Below w.heap.size w w' := by
  unfold maxLen at hm
  by_cases h1 : 1 ≤ n ∧ n ≤ 5
  · have i1 := inB_yes h1.1 h1.2
    by_cases h2 : 1 ≤ (m : Int) ∧ (m : Int) ≤ 200
    · have i2 := inB_yes h2.1 h2.2
      obtain ⟨N, rfl⟩ : ∃ N : Nat, n = (N : Int) := ⟨n.toNat, by omega⟩
      have hp16 : (2 : Int) ^ N ≤ 32 ∧ 2 ≤ (2 : Int) ^ N := by
        have : N = 1 ∨ N = 2 ∨ N = 3 ∨ N = 4 ∨ N = 5 := by omega
        rcases this with rfl | rfl | rfl | rfl | rfl <;> decide
      obtain ⟨P, hP⟩ : ∃ P, P = (2 : Int) ^ N := ⟨_, rfl⟩
      rw [← hP] at hp16
      have hpm : (2 : Int) ^ N % 4294967296 = P := by rw [← hP]; omega
      have hLk : (∀ i, i < m → S i < P) → (∀ i j, j < i → i < m → S i ≠ S j) → LOk (N : Int) m S := fun a b => ⟨h1, by omega, fun i hi => by rw [Int.toNat_natCast, ← hP]; exact a i hi, b⟩
      have hLb : ∀ i, i < m → P ≤ S i → ¬ LOk (N : Int) m S := fun i hi hge hL => by
        have := hL.2.2.1 i hi
        rw [Int.toNat_natCast, ← hP] at this; omega
      have hLd : ∀ i j, j < i → i < m → S i = S j → ¬ LOk (N : Int) m S := fun i j hj hi e hL => hL.2.2.2 i j hj hi e
      have HLk := Lib.hid hLk
      have HLb := Lib.hid hLb
      have HLd := Lib.hid hLd
      have HS := Lib.hid hS
      have H := Lib.hid h
      clear hLk hLb hLd hS h hP
      go_enter Try.func21, Try.ntmps21
      go_wp2_with (go_at_call 14; refine (within_any _ _ _ _).mono ?_; rintro e w' ⟨rfl, rfl⟩)
      go_loopw [20] (fun s20 wr => ∃ k : Nat, k ≤ m ∧ s20 = .int .i64 (k : Nat) ∧ Hid (∀ i, i < k → S i < P) ∧ w = wr) (fun s20 _ => m - (intOf s20).toNat)
      case atStart => exact ⟨0, by omega, rfl, Lib.hid (fun i h => absurd h (Nat.not_lt_zero _)), rfl⟩
      case round =>
        obtain ⟨k, hk, rfl, HA, rfl⟩ := hrel
        by_cases hlt : k < m
        · obtain ⟨b, off, rfl, hbb, hc⟩ := H.out.at_ hlt
          have hb32 := wf_u32 (HS.out k hlt)
          by_cases hge : P ≤ S k
          · have hge2 : (2 : Int) ^ N % 4294967296 ≤ S k := by rw [hpm]; exact hge
            go_wp2_with fail
            go_ret
            exact ⟨⟨4, rfl, ⟨(fun h => by cases h), fun h => absurd h (HLb.out k hlt hge)⟩⟩, Below.refl _ _⟩
          · have hge2 : ¬ (2 : Int) ^ N % 4294967296 ≤ S k := by rw [hpm]; exact hge
            go_wp2_with fail
            go_roundw
            case rel => exact ⟨k + 1, by omega, by go_num, Lib.hid (fun i hi => by
              by_cases e : i = k
              · subst e; omega
              · exact HA.out i (by omega)), by first | rfl | trivial⟩
            case measure => simp [intOf]; omega
        · obtain rfl : k = m := by omega
          go_wp2_with fail
          go_loopw [7] (fun s7 wr => ∃ i : Nat, i ≤ k ∧ s7 = .int .i64 (i : Nat) ∧ Hid (∀ a b, b < a → a < i → S a ≠ S b) ∧ Below w.heap.size w wr) (fun s7 _ => k - (intOf s7).toNat)
          case atStart => exact ⟨0, by omega, rfl, Lib.hid (fun i j _ h => absurd h (Nat.not_lt_zero _)), Below.refl _ _⟩
          case round =>
            obtain ⟨i, hi, rfl, HD, hbel0⟩ := hrel
            by_cases hli : i < k
            · go_wp2_with fail
              go_loopw [8] (fun s8 wr => ∃ j : Nat, j ≤ i ∧ s8 = .int .i64 (j : Nat) ∧ Hid (∀ b, b < j → S i ≠ S b) ∧ Below w.heap.size w wr) (fun s8 _ => i - (intOf s8).toNat)
              case atStart => exact ⟨0, by omega, rfl, Lib.hid (fun j h => absurd h (Nat.not_lt_zero _)), hbel0⟩
              case round =>
                clear hbel0
                obtain ⟨j, hj, rfl, HE, hbel⟩ := hrel
                by_cases hlj : j < i
                · obtain ⟨b, off, rfl, hbb, hc⟩ := H.out (by omega)
                  have c1 := (hbel.cell (p := ⟨b, off + i, none⟩) hbb).trans (hc i hli)
                  have c2 := (hbel.cell (p := ⟨b, off + j, none⟩) hbb).trans (hc j (by omega))
                  clear hc
                  by_cases he : S i = S j
                  · have HEE := Lib.hid he
                    have q : (S i == S j) = true := by simp [he]
                    clear he
                    go_wp2_with fail
                    go_quiet (fail)
                    go_wp2_with fail
                    go_ret
                    exact ⟨⟨3, rfl, ⟨(fun h => by cases h), fun h => absurd h (HLd.out i j hlj hli HEE.out)⟩⟩, below_drewN hbel nq⟩
                  · have HEE := Lib.hid he
                    have q : (S i == S j) = false := by simp [he]
                    clear he
                    go_wp2_with fail
                    go_quiet (fail)
                    go_wp2_with fail
                    go_roundw
                    case rel => exact ⟨j + 1, by omega, by go_num, Lib.hid (fun b hb => by
                      by_cases e : b = j
                      · subst e; exact HEE.out
                      · exact HE.out b (by omega)), below_drewN hbel nq⟩
                    case measure => simp [intOf]; omega
                · obtain rfl : j = i := by omega
                  go_wp2_with fail
                  go_roundw
                  case rel => exact ⟨j + 1, by omega, by go_num, Lib.hid (fun a b hb ha => by
                    by_cases e : a = j
                    · subst e; exact HE.out b hb
                    · exact HD.out a b hb (by omega)), hbel⟩
                  case measure => simp [intOf]; omega
            · obtain rfl : i = k := by omega
              go_wp2_with fail
              go_ret
              exact ⟨⟨0, rfl, ⟨fun _ => HLk.out HA.out HD.out, fun _ => rfl⟩⟩, hbel0⟩
    · have i2 := inB_no h2
      have H2 := Lib.hid h2
      clear h2 h
      go_enter Try.func21, Try.ntmps21
      go_wp2_with (go_at_call 14; refine (within_any _ _ _ _).mono ?_; rintro e w' ⟨rfl, rfl⟩)
      go_ret
      exact ⟨⟨1, rfl, ⟨(fun h => by cases h), fun h => absurd h.2.1 (by have := H2.out; omega)⟩⟩, Below.refl _ _⟩
  · have i1 := inB_no h1
    have H1 := Lib.hid h1
    clear h1 h
    go_enter Try.func21, Try.ntmps21
    go_wp2_with (go_at_call 14; refine (within_any _ _ _ _).mono ?_; rintro e w' ⟨rfl, rfl⟩)
    go_ret
    exact ⟨⟨1, rfl, ⟨(fun h => by cases h), fun h => absurd h.1 H1.out⟩⟩, Below.refl _ _⟩
theorem setted_any (n : Int) (A : Option Addr) (m c : Nat) (S : Nat → Int) (w : World) (wn : (Lit.int .i64 n).wf = true) (h : Rd w A m (fun i => .int .u32 (S i))) (hm : m ≤ maxLen) (hS : ∀ i, i < m → (Lit.int .u32 (S i)).wf = true) :
    Calls Try.prog 8 #[.int .i64 n, .slice A m c] w fun e w' => (∃ x : Bool, e = .returned (.bool x) ∧ (x = true ↔ LOk n m S)) ∧ Below w.heap.size w w' := by
  have H := Lib.hid h
  have HS := Lib.hid hS
  have HM := Lib.hid hm
  clear h hS hm
  go_enter Try.func8, Try.ntmps8
  go_wp2_with fail
  refine (loneK_any n A m c S w wn H.out HM.out HS.out).mono ?_
  rintro e w1 ⟨⟨x, rfl, hx⟩, hb⟩
  have HX := Lib.hid hx
  clear hx
  go_wp2_with fail
  go_ret
  exact ⟨⟨x == 0, rfl, by rw [beq_iff_eq]; exact HX.out⟩, hb⟩
end Go.Proofs.Ytmnleblbandghaa
