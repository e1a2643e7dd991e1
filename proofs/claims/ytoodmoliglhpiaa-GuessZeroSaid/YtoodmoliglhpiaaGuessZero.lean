/- GuessZero: a sum of terms that is not 0 always is 0 at no more points than its degree, by 7, of all. No condition. -/
import Derived.Test.YtoodmoliglhpiaaZeroGo
import Derived.Test.YtoodmoliglhpiaaZeroRef
namespace Go.Proofs.Ytoodmoliglhpiaa.guessZero
open Go.ChangeShapes Go.WideShapes Go.ChangeAt Go.RowKit Go.Maps PolyL
set_option linter.unusedVariables false
set_option linter.unusedSimpArgs false
theorem Zs_all (m : Nat) (C : Nat → Int) (h : ∀ e, e < 7 ^ m → C e = 0) : Zs m C = ((7 ^ m : Nat) : Int) := by
  unfold Zs
  rw [sumI_congr (g := fun _ => 1) fun r _ => zr_yes (val_zero m C r fun e he => by rw [h e he]; rfl), sumI_const]
  simp
theorem Zs_bd (m : Nat) (C : Nat → Int) : 0 ≤ Zs m C ∧ Zs m C ≤ ((7 ^ m : Nat) : Int) := by
  constructor
  · have h1 : sumI (fun _ => 0) (7 ^ m) ≤ Zs m C := sumI_le fun r _ => (zr_bd _).1
    rw [sumI_const] at h1
    simpa using h1
  · have h1 : Zs m C ≤ sumI (fun _ => 1) (7 ^ m) := sumI_le fun r _ => (zr_bd _).2
    rw [sumI_const] at h1
    simpa using h1
theorem pow_of {m : Nat} (hm : 1 ≤ m ∧ m ≤ 3) : 1 ≤ 7 ^ m ∧ 7 ^ m ≤ 343 := ⟨Nat.pow_pos (by omega), pow_le hm⟩
/-- what the law says of zeros z and degree d -/
theorem law (m : Nat) (hm : 1 ≤ m ∧ m ≤ 3) (C : Nat → Int) (d : Int) (hC : ∀ e, 0 ≤ C e ∧ C e < 7) (h : DegR m C d) : (d = -1 ∧ Zs m C = ((7 ^ m : Nat) : Int)) ∨ (0 ≤ d ∧ d ≤ 6 * (m : Int) ∧ Zs m C < ((7 ^ m : Nat) : Int) ∧ 7 * Zs m C ≤ d * ((7 ^ m : Nat) : Int)) := by
  rcases h with ⟨h1, h2⟩ | ⟨e, he, hne, hd, hall⟩
  · exact .inl ⟨h1, Zs_all m C h2⟩
  · have hmod : ∀ x, ¬ C x % 7 = 0 → C x ≠ 0 := fun x h h0 => h (by rw [h0]; rfl)
    obtain ⟨h1, h2⟩ := zeros m C ⟨e, he, fun h => hne (by have := hC e; omega)⟩
    have h3 := h2 (dg m e) fun x hx hc => by have := hall x hx (hmod x hc); omega
    have := dg_le hm (e := e)
    exact .inr ⟨by omega, by omega, by omega, by rw [hd]; exact h3⟩
set_option maxRecDepth 100000 in
set_option maxHeartbeats 4000000 in
theorem walk (w : World) (vars : Int) (A : Option Addr) (n c : Nat) (D : Nat → ST) (wv : (Lit.int .i64 vars).wf = true) (h : Rd w A (n * 2) (tcF D)) (hg : ∀ i, (D i).good w) (hl : n ≤ c) (hm : c ≤ maxLen) (z : c * 32 ≤ 140737488351232) :
    Calls Try.prog 3 #[.int .i64 vars, .slice A n c] w fun e w' => e = .returned (.bool true) ∧ Below w.heap.size w w' := by
  have HR := Lib.hid h
  have HG := Lib.hid hg
  have HWV := Lib.hid wv
  clear h hg wv
  go_enter Try.func3, Try.ntmps3
  go_wp2_with fail
  refine (zeros_any vars A n c D w HR.out HG.out (by omega) HWV.out).mono ?_
  rintro e w2 ⟨⟨k, d, e1, rfl, z1, z2⟩, hb2⟩
  have HZ1 := Lib.hid z1
  have HZ2 := Lib.hid z2
  have HB2 := Lib.hid hb2
  clear z1 z2 hb2
  go_wp2_with fail
  refine (poly_any vars A n c D w2 (HR.out.below HB2.out) (fun i => (HG.out i).below HB2.out) (by omega)).mono ?_
  rintro e w3 ⟨⟨z2, rfl, hz2⟩, hb3⟩
  have HP := Lib.hid hz2
  have HB3 := Lib.hid (HB2.out.trans (hb3.mono HB2.out.size))
  clear hz2 hb3
  by_cases hok : okZ vars n D
  case neg =>
    have a1 : (z2 != 0) = true := by simp; exact fun h => hok (HP.out.1 h)
    have a2 : (e1 != 0) = true := by simp; exact HZ1.out hok
    clear hok
    go_wp2_with fail
    go_ret
    exact ⟨rfl, HB3.out⟩
  have a1 : (z2 != 0) = false := by simp; exact HP.out.2 hok
  obtain ⟨he1, C, hC, hk, hd⟩ := HZ2.out hok
  subst he1
  obtain ⟨m, hvm⟩ : ∃ m : Nat, vars = m := ⟨vars.toNat, by have := hok.1; omega⟩
  subst hvm
  have hm13 : 1 ≤ m ∧ m ≤ 3 := by have := hok.1; omega
  rw [Int.toNat_natCast] at hk hd
  have hl := law m hm13 C d hC hd
  have hbd := Zs_bd m C
  rw [← hk] at hl hbd
  have hpw := pow_of hm13
  obtain ⟨N, hN⟩ : ∃ N : Nat, N = 7 ^ m := ⟨_, rfl⟩
  rw [← hN] at hl hbd hpw
  have HN := Lib.hid hN
  clear hok hk hd hC hN HZ1 HZ2 HP
  rcases hl with ⟨hd1, hkN⟩ | ⟨hd0, hd6, hlt, hle⟩
  · subst hd1
    have ekn : (k == (N : Int)) = true := by simp [hkN]
    go_wp2_with fail
    refine (power7_any m w3 (by omega)).mono ?_
    rintro e w' ⟨rfl, rfl⟩
    rw [← HN.out]
    go_wp2_with fail
    go_ret
    exact ⟨rfl, HB3.out⟩
  · have ed : (d == -1) = false := beq_eq_false_iff_ne.2 (by omega)
    have hdm : d * (N : Int) ≤ 18 * 343 := by
      have h1 := Int.mul_le_mul (show d ≤ 18 by omega) (show (N : Int) ≤ 343 by omega) (by omega) (by omega)
      exact h1
    have hdm0 : 0 ≤ d * (N : Int) := Int.mul_nonneg hd0 (by omega)
    obtain ⟨pr, hpr⟩ : ∃ pr, d * (N : Int) = pr := ⟨_, rfl⟩
    rw [hpr] at hle hdm hdm0
    by_cases h6 : 6 < d
    · go_wp2_with fail
      refine (power7_any m w3 (by omega)).mono ?_
      rintro e w' ⟨rfl, rfl⟩
      rw [← HN.out]
      go_wp2_with fail
      go_ret
      exact ⟨rfl, HB3.out⟩
    · go_wp2_with fail
      refine (power7_any m w3 (by omega)).mono ?_
      rintro e w' ⟨rfl, rfl⟩
      rw [← HN.out]
      go_wp2_with fail
      go_ret
      exact ⟨rfl, HB3.out⟩
end Go.Proofs.Ytoodmoliglhpiaa.guessZero
