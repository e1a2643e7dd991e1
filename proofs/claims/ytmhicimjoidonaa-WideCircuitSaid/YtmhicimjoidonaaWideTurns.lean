/- What wide.back and wide.between compute. Conditions: changes by their numbers. -/
import Derived.Test.YtmhicimjoidonaaWideFns
import Derived.Test.YtmhicimjoidonaaWideCyc
import Derived.BigQuiet
import Derived.Deep.QuietTactic
namespace Go.Proofs.Ytmhicimjoidonaa
open Go.ChangeShapes Go.WideShapes Go.ChangeAt Go.RowKit
set_option linter.unusedVariables false
def inK (a : Nat) : Nat → Nat → Nat
  | 0, _ => 0
  | k + 1, x => if x = enc a k then k else inK a k x
theorem inK_5 (a x : Nat) : inK a 5 x = invC a x := by
  simp only [inK, invC, eq_comm (a := x)]
  repeat' split <;> try rfl
set_option maxRecDepth 100000 in
theorem back_any (r : Nat) (w : World) :
    Calls Try.prog 21 #[.agg #[.int .i64 (eF r 0), .int .i64 (eF r 1), .int .i64 (eF r 2), .int .i64 (eF r 3), .int .i64 (eF r 4)]] w fun e w' => e = .returned (.agg #[.int .i64 (eF (backC r) 0), .int .i64 (eF (backC r) 1), .int .i64 (eF (backC r) 2), .int .i64 (eF (backC r) 3), .int .i64 (eF (backC r) 4)]) ∧ Below w.heap.size w w' := by
  obtain ⟨F, hF⟩ : ∃ F, F = eF r := ⟨_, rfl⟩
  have hv : ∀ k, k < 5 → F k = ((enc r k : Nat) : Int) ∧ enc r k < 5 := fun k _ => ⟨by rw [hF]; rfl, enc_lt _ _⟩
  rw [← hF]
  obtain ⟨G, hG⟩ : ∃ G, G = eF (backC r) := ⟨_, rfl⟩
  have hq : ∀ x, x < 5 → ((inK r 5 x : Nat) : Int) = G x := fun x hx => by rw [hG, inK_5, eF_back r x hx]
  rw [← hG]
  have HQ := Lib.hid hq
  clear hq hG
  have HV := Lib.hid hv
  clear hv hF
  go_enter Try.func21, Try.ntmps21
  go_wp2_with fail
  go_loopw [7] (fun i wr => ∃ k : Nat, k ≤ 5 ∧ i = .int .i64 k ∧ wr.rowIs (w.heap.size + 1) 22 5 (fun x => .int .i64 0) ∧ wr.rowIs (w.heap.size + 1 + 1) 22 5 (fun x => .int .i64 ((inK r k x : Nat) : Int)) ∧ Below w.heap.size w wr) (fun i _ => 5 - (intOf i).toNat)
  case atStart =>
    have r2 := row5 (w.alloc (.cells #[.int .i64 (F 0), .int .i64 (F 1), .int .i64 (F 2), .int .i64 (F 3), .int .i64 (F 4)] 22)) 22 (.int .i64 0) (.int .i64 0) (.int .i64 0) (.int .i64 0) (.int .i64 0) (fun x => .int .i64 0) rfl rfl rfl rfl rfl
    have r3 := row5 ((w.alloc (.cells #[.int .i64 (F 0), .int .i64 (F 1), .int .i64 (F 2), .int .i64 (F 3), .int .i64 (F 4)] 22)).alloc (.cells #[.int .i64 0, .int .i64 0, .int .i64 0, .int .i64 0, .int .i64 0] 22)) 22 (.int .i64 0) (.int .i64 0) (.int .i64 0) (.int .i64 0) (.int .i64 0) (fun x => .int .i64 ((inK r 0 x : Nat) : Int)) rfl rfl rfl rfl rfl
    simp at r2 r3
    refine ⟨0, Nat.zero_le _, rfl, r2.alloc _, by simpa using r3, (((Below.refl _ _).alloc (Nat.le_refl _) _).alloc (by simp) _).alloc (by simp; omega) _⟩
  case round =>
    obtain ⟨k, hk, rfl, hrow2, hrow3, hbel⟩ := hrel
    have hsz := hrow3.lt
    by_cases hlt : k < 5
    · have ix := ix5F F k hlt
      obtain ⟨f0, f4⟩ := HV.out k hlt
      obtain ⟨v, hv⟩ : ∃ v, v = enc r k := ⟨_, rfl⟩
      rw [← hv] at f0 f4
      rw [f0] at ix
      have c3 := hrow3.cell (i := v) f4
      have z3 := hrow3.frozen v
      have HVV := Lib.hid hv
      clear hv f0
      go_wp2_with fail
      go_roundw
      case rel => exact ⟨k + 1, by omega, by go_num, hrow2.setOther (by simp) _, (hrow3.set v _).congr (fun x hx => by
        have hv := HVV.out
        by_cases e : x = v
        · subst e; simp [inK, ← hv]
        · simp [inK, ← hv, e]), hbel.setCell (by simp; omega) _⟩
      case measure => simp [intOf]; omega
    · obtain rfl : k = 5 := by omega
      have q := HQ.out
      have p0 := hrow3.cell (i := 0) (by omega)
      have p1 := hrow3.cell (i := 1) (by omega)
      have p2 := hrow3.cell (i := 2) (by omega)
      have p3 := hrow3.cell (i := 3) (by omega)
      have p4 := hrow3.cell (i := 4) (by omega)
      rw [q 0 (by omega)] at p0
      rw [q 1 (by omega)] at p1
      rw [q 2 (by omega)] at p2
      rw [q 3 (by omega)] at p3
      rw [q 4 (by omega)] at p4
      have c0 := hrow2.cell (i := 0) (by omega)
      have c1 := hrow2.cell (i := 1) (by omega)
      have c2 := hrow2.cell (i := 2) (by omega)
      have c3 := hrow2.cell (i := 3) (by omega)
      have c4 := hrow2.cell (i := 4) (by omega)
      have z0 := hrow2.frozen 0
      have z1 := hrow2.frozen 1
      have z2 := hrow2.frozen 2
      have z3 := hrow2.frozen 3
      have z4 := hrow2.frozen 4
      clear q
      clear HV
      go_wp2_with fail
      exact bodyPost_ret (v := .agg #[.int .i64 (G 0), .int .i64 (G 1), .int .i64 (G 2), .int .i64 (G 3), .int .i64 (G 4)]) (by simp [results, Try.results21, go_sem, c0, c1, c2, c3, c4]) rfl ⟨rfl, ((((hbel.setCell (by first | (simp; done) | (simp; omega)) _).setCell (by first | (simp; done) | (simp; omega)) _).setCell (by first | (simp; done) | (simp; omega)) _).setCell (by first | (simp; done) | (simp; omega)) _).setCell (by first | (simp; done) | (simp; omega)) _⟩
set_option maxRecDepth 100000 in
theorem between_any (a b : Nat) (w : World) :
    Calls Try.prog 24 #[.agg #[.int .i64 (eF a 0), .int .i64 (eF a 1), .int .i64 (eF a 2), .int .i64 (eF a 3), .int .i64 (eF a 4)], .agg #[.int .i64 (eF b 0), .int .i64 (eF b 1), .int .i64 (eF b 2), .int .i64 (eF b 3), .int .i64 (eF b 4)]] w fun e w' => e = .returned (.agg #[.int .i64 (eF (betC a b) 0), .int .i64 (eF (betC a b) 1), .int .i64 (eF (betC a b) 2), .int .i64 (eF (betC a b) 3), .int .i64 (eF (betC a b) 4)]) ∧ Below w.heap.size w w' := by
  obtain ⟨F, hF⟩ : ∃ F, F = eF a := ⟨_, rfl⟩
  obtain ⟨H, hH⟩ : ∃ H, H = eF b := ⟨_, rfl⟩
  have hv : ∀ k, F (itC a k) = ((itC a (k + 1) : Nat) : Int) ∧ H (itC b k) = ((itC b (k + 1) : Nat) : Int) := fun k => ⟨by rw [hF]; rfl, by rw [hH]; rfl⟩
  rw [← hF, ← hH]
  obtain ⟨G, hG⟩ : ∃ G, G = eF (betC a b) := ⟨_, rfl⟩
  have hq : ∀ x, x < 5 → ((beC a b 5 x : Nat) : Int) = G x := fun x hx => by rw [hG]; exact (eF_bet a b x hx).symm
  rw [← hG]
  have HQ := Lib.hid hq
  clear hq hG
  have HV := Lib.hid hv
  clear hv hF hH
  go_enter Try.func24, Try.ntmps24
  go_wp2_with fail
  go_loopw [6, 7, 8] (fun s6 s7 i wr => ∃ k : Nat, k ≤ 5 ∧ i = .int .i64 k ∧ s6 = .int .i64 ((itC a k : Nat) : Int) ∧ s7 = .int .i64 ((itC b k : Nat) : Int) ∧ wr.rowIs w.heap.size 22 5 (fun x => .int .i64 (F x)) ∧ wr.rowIs (w.heap.size + 1) 22 5 (fun x => .int .i64 (H x)) ∧ wr.rowIs (w.heap.size + 1 + 1) 22 5 (fun x => .int .i64 0) ∧ wr.rowIs (w.heap.size + 1 + 1 + 1) 22 5 (fun x => .int .i64 ((beC a b k x : Nat) : Int)) ∧ Below w.heap.size w wr) (fun _ _ i _ => 5 - (intOf i).toNat)
  case atStart =>
    have r0 := row5 w 22 (.int .i64 (F 0)) (.int .i64 (F 1)) (.int .i64 (F 2)) (.int .i64 (F 3)) (.int .i64 (F 4)) (fun x => .int .i64 (F x)) rfl rfl rfl rfl rfl
    have r1 := row5 (w.alloc (.cells #[.int .i64 (F 0), .int .i64 (F 1), .int .i64 (F 2), .int .i64 (F 3), .int .i64 (F 4)] 22)) 22 (.int .i64 (H 0)) (.int .i64 (H 1)) (.int .i64 (H 2)) (.int .i64 (H 3)) (.int .i64 (H 4)) (fun x => .int .i64 (H x)) rfl rfl rfl rfl rfl
    have r2 := row5 ((w.alloc (.cells #[.int .i64 (F 0), .int .i64 (F 1), .int .i64 (F 2), .int .i64 (F 3), .int .i64 (F 4)] 22)).alloc (.cells #[.int .i64 (H 0), .int .i64 (H 1), .int .i64 (H 2), .int .i64 (H 3), .int .i64 (H 4)] 22)) 22 (.int .i64 0) (.int .i64 0) (.int .i64 0) (.int .i64 0) (.int .i64 0) (fun x => .int .i64 0) rfl rfl rfl rfl rfl
    have r3 := row5 (((w.alloc (.cells #[.int .i64 (F 0), .int .i64 (F 1), .int .i64 (F 2), .int .i64 (F 3), .int .i64 (F 4)] 22)).alloc (.cells #[.int .i64 (H 0), .int .i64 (H 1), .int .i64 (H 2), .int .i64 (H 3), .int .i64 (H 4)] 22)).alloc (.cells #[.int .i64 0, .int .i64 0, .int .i64 0, .int .i64 0, .int .i64 0] 22)) 22 (.int .i64 0) (.int .i64 0) (.int .i64 0) (.int .i64 0) (.int .i64 0) (fun x => .int .i64 ((beC a b 0 x : Nat) : Int)) rfl rfl rfl rfl rfl
    simp at r1 r2 r3
    refine ⟨0, Nat.zero_le _, rfl, rfl, rfl, ((r0.alloc _).alloc _).alloc _, (r1.alloc _).alloc _, r2.alloc _, by simpa using r3, ((((Below.refl _ _).alloc (Nat.le_refl _) _).alloc (by simp) _).alloc (by simp; omega) _).alloc (by simp; omega) _⟩
  case round =>
    obtain ⟨k, hk, rfl, rfl, rfl, hrow0, hrow1, hrow2, hrow3, hbel⟩ := hrel
    have hsz := hrow3.lt
    by_cases hlt : k < 5
    · obtain ⟨f0, h0⟩ := HV.out k
      have li := itC_lt a k
      have lj := itC_lt b k
      have b0 := hrow0.cell (i := itC a k) li
      have b1 := hrow1.cell (i := itC b k) lj
      obtain ⟨i', hi'⟩ : ∃ x, x = itC a (k + 1) := ⟨_, rfl⟩
      obtain ⟨j', hj'⟩ : ∃ x, x = itC b (k + 1) := ⟨_, rfl⟩
      rw [f0, ← hi'] at b0
      rw [h0, ← hj'] at b1
      have hbe : ∀ x, beC a b (k + 1) x = if x = itC a k then itC b k else beC a b k x := fun x => rfl
      obtain ⟨u, hu⟩ : ∃ x, x = itC a k := ⟨_, rfl⟩
      obtain ⟨v, hv⟩ : ∃ x, x = itC b k := ⟨_, rfl⟩
      rw [← hu, ← hv] at hbe
      rw [← hu] at li b0 ⊢
      rw [← hv] at lj b1 ⊢
      have c3 := hrow3.cell (i := u) li
      have z3 := hrow3.frozen u
      have HBE := Lib.hid hbe
      have HI := Lib.hid hi'
      have HJ := Lib.hid hj'
      clear hbe hi' hj' hu hv f0 h0
      go_wp2_with fail
      go_quiet (fail)
      go_wp2_with fail
      go_roundw
      case rel => exact ⟨k + 1, by omega, by go_num, by rw [HI.out], by rw [HJ.out], (hrow0.setOther (by first | (simp; done) | (simp; omega)) _), (hrow1.setOther (by first | (simp; done) | (simp; omega)) _), (hrow2.setOther (by first | (simp; done) | (simp; omega)) _), ((hrow3.set u _).congr (fun x hx => by
        rw [HBE.out x]
        by_cases e : x = u
        · subst e; simp
        · simp [e])), below_drewN (hbel.setCell (by simp; omega) _) _⟩
      case measure => simp [intOf]; omega
    · obtain rfl : k = 5 := by omega
      have q := HQ.out
      have p0 := hrow3.cell (i := 0) (by omega)
      have p1 := hrow3.cell (i := 1) (by omega)
      have p2 := hrow3.cell (i := 2) (by omega)
      have p3 := hrow3.cell (i := 3) (by omega)
      have p4 := hrow3.cell (i := 4) (by omega)
      rw [q 0 (by omega)] at p0
      rw [q 1 (by omega)] at p1
      rw [q 2 (by omega)] at p2
      rw [q 3 (by omega)] at p3
      rw [q 4 (by omega)] at p4
      have c0 := hrow2.cell (i := 0) (by omega)
      have c1 := hrow2.cell (i := 1) (by omega)
      have c2 := hrow2.cell (i := 2) (by omega)
      have c3 := hrow2.cell (i := 3) (by omega)
      have c4 := hrow2.cell (i := 4) (by omega)
      have z0 := hrow2.frozen 0
      have z1 := hrow2.frozen 1
      have z2 := hrow2.frozen 2
      have z3 := hrow2.frozen 3
      have z4 := hrow2.frozen 4
      clear q
      clear HV
      go_wp2_with fail
      exact bodyPost_ret (v := .agg #[.int .i64 (G 0), .int .i64 (G 1), .int .i64 (G 2), .int .i64 (G 3), .int .i64 (G 4)]) (by simp [results, Try.results24, go_sem, c0, c1, c2, c3, c4]) rfl ⟨rfl, ((((hbel.setCell (by first | (simp; done) | (simp; omega)) _).setCell (by first | (simp; done) | (simp; omega)) _).setCell (by first | (simp; done) | (simp; omega)) _).setCell (by first | (simp; done) | (simp; omega)) _).setCell (by first | (simp; done) | (simp; omega)) _⟩
end Go.Proofs.Ytmhicimjoidonaa
