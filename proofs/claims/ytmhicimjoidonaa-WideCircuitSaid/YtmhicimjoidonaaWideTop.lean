/- wide.Build: orders of a circuit's last gate. No condition besides the list's length. -/
import Derived.Test.YtmhicimjoidonaaWideBld
namespace Go.Proofs.Ytmhicimjoidonaa
open Go.ChangeShapes Go.WideShapes Go.ChangeAt Go.RowKit
set_option linter.unusedVariables false
set_option linter.unusedSimpArgs false
def TopP (inn : Int) (F : Nat → Int) (n base : Nat) (e : Ending) (w' : World) : Prop :=
  (∃ x : Int, (x != 0) = true ∧ e = .returned (.tuple #[.slice none 0 0, .int .i64 x])) ∨
  (ckE inn F n = 0 ∧ ∃ A m c G, e = .returned (.tuple #[.slice A m c, .int .i64 0]) ∧ Own w' base 43 11 A m c (m * 11) (fun q => .int .i64 (G q)) ∧ OrdP inn (fun g => val F g (n - 1)) f0C 256 m G)
set_option maxRecDepth 100000 in
theorem top_any (inn : Int) (A : Option Addr) (n c : Nat) (F : Nat → Int) (w : World) (h : Rd w A (n * 3) (fun q => .int .i64 (F q))) (hn : n ≤ maxLen) :
    Calls Try.prog 12 #[.int .i64 inn, .slice A n c] w fun e w' => TopP inn F n w.heap.size e w' ∧ Below w.heap.size w w' := by
  have H := Lib.hid h
  have HN := Lib.hid hn
  clear h hn
  by_cases h1 : ckE inn F n = 0
  · obtain ⟨i0, i5, n1, n40, hgw⟩ := ckE_zero h1
    have HGW : Hid (GW inn F n) := Lib.hid (gw_zero hgw)
    have HZ := Lib.hid h1
    obtain ⟨N, hN⟩ : ∃ N, N = n - 1 := ⟨_, rfl⟩
    obtain ⟨d, hd⟩ : ∃ d, d = dep F (n - 1) := ⟨_, rfl⟩
    have HDN := Lib.hid hd
    have HNN := Lib.hid hN
    have e1 : IntKind.i64.wrap ((n : Int) - 1) = N := by rw [show (n : Int) - 1 = N by omega]; exact IntWalk.i64_in _ (by omega)
    have hlt : N < n := by omega
    have HLT := Lib.hid hlt
    clear hgw h1 hd hN hlt
    go_enter Try.func12, Try.ntmps12
    go_wp2_with fail
    refine (deep_any inn A n c F w H.out HN.out HZ.out).mono ?_
    rintro e w1 ⟨rfl, hb1⟩
    rw [← HDN.out]
    have H1 := Lib.hid (H.out.below hb1)
    have HB1 := Lib.hid hb1
    clear hb1
    by_cases hd4 : 4 < d
    · go_wp2_with fail
      go_ret2
      exact ⟨.inl ⟨7, rfl, rfl⟩, HB1.out⟩
    · have HD4 : Hid (dep F N ≤ 4) := Lib.hid (by rw [HNN.out, ← HDN.out]; omega)
      go_wp2_with fail
      refine (build_all (A := A) (c := c) HGW.out n40 N HLT.out HD4.out f0C (by decide) w1 H1.out).mono ?_
      rintro e w2 ⟨hm, hb2⟩
      obtain ⟨A2, m, c2, G, rfl, ho, hp⟩ := hm
      have h4 : (4 : Nat) ^ dep F N ≤ 256 := Nat.pow_le_pow_right (by omega) HD4.out
      have HO := Lib.hid (ho.base_le HB1.out.size)
      have HP := Lib.hid (hp.mono h4)
      have HB2 := Lib.hid (HB1.out.trans (hb2.mono HB1.out.size))
      clear ho hp hb2 h4
      go_wp2_with fail
      go_ret2
      exact ⟨.inr ⟨HZ.out, A2, m, c2, G, rfl, HO.out, by rw [← HNN.out]; exact HP.out⟩, HB2.out⟩
  · have HZ := Lib.hid h1
    obtain ⟨x, hx⟩ : ∃ x, x = ckE inn F n := ⟨_, rfl⟩
    have HX := Lib.hid hx
    have hx0 : (x != 0) = true := by rw [bne_iff_ne, hx]; exact h1
    clear h1 hx
    go_enter Try.func12, Try.ntmps12
    go_wp2_with fail
    refine (deep_no inn A n c F w H.out HN.out HZ.out).mono ?_
    rintro e w1 ⟨rfl, hb1⟩
    rw [← HX.out]
    have HB1 := Lib.hid hb1
    have HX0 := Lib.hid hx0
    clear hb1
    go_wp2_with fail
    go_ret2
    exact ⟨.inl ⟨x, HX0.out, rfl⟩, HB1.out⟩
end Go.Proofs.Ytmhicimjoidonaa
