/- What (*gate.Maker).constant and .table make. Conditions: the maker and the table lie as told. -/
import Derived.Test.YtcpcamblnkcefaaTurnSt
import Derived.Test.YtcpcamblnkcefaaBoolFns
import Derived.Test.YtcpcamblnkcefaaStillT
import Derived.IntWalk
namespace Go.Proofs.Ytcpcamblnkcefaa
open Go.ChangeShapes Go.WideShapes Go.ChangeAt Go.RowKit Go.Maps
set_option linter.unusedVariables false
theorem wfNt {x : Nat} (h : x ≤ 1000000) : (Lit.int .i64 (x : Int)).wf = true := by simp [Lit.wf, IntKind.min, IntKind.max, IntKind.signed, IntKind.bits]; omega
structure MS (inn : Int) (w0 w : World) (T N B n : Nat) (F : Nat → Int) (A : Option Addr) (c : Nat) (M : Option Nat) (R : Nat → Value) : Prop where
  mm : Mk w T N B w0.heap.size n F A c M R
  gw : GW inn F n
  bel : Below w0.heap.size w0 w
theorem MS.below {inn : Int} {w0 w w' : World} {T N B n : Nat} {F : Nat → Int} {A : Option Addr} {c : Nat} {M : Option Nat} {R : Nat → Value} (h : MS inn w0 w T N B n F A c M R) (hb : Below w.heap.size w w') : MS inn w0 w' T N B n F A c M R :=
  ⟨h.mm.below hb, h.gw, h.bel.trans (hb.mono h.bel.size)⟩
theorem putM {inn : Int} {w0 w : World} {T N B n : Nat} {F : Nat → Int} {A : Option Addr} {c : Nat} {M : Option Nat} {R : Nat → Value} {kd a b : Int} (h : MS inn w0 w T N B n F A c M R) (hn : n ≤ 100000) (h1 : 1 ≤ kd ∧ kd ≤ 4) (h2 : kd = 1 → 0 ≤ a ∧ a < inn) (h3 : 1 < kd → 0 ≤ a ∧ a < n) (h4 : 2 < kd → 0 ≤ b ∧ b < n) (wk : (Lit.int .i64 kd).wf = true) (wa : (Lit.int .i64 a).wf = true) (wb : (Lit.int .i64 b).wf = true) :
    Calls Try.prog 15 #[.pointer (some ⟨B, 0, none⟩), .int .i64 kd, .int .i64 a, .int .i64 b] w fun e w' =>
      ∃ (i n' : Nat) (F' : Nat → Int) (A' : Option Addr) (c' : Nat) (M' : Option Nat) (R' : Nat → Value), e = .returned (.int .i64 (i : Nat)) ∧ PutG n n' i F F' kd a b ∧ MS inn w0 w' T N B n' F' A' c' M' R' ∧ (∀ j, 2 ≤ j → R' j = R j) := by
  refine (put_any w h.mm (by omega) wk wa wb).mono ?_
  intro e w' hp
  obtain ⟨i, n', F', A', c', M', R', he, p, m, r, b', k⟩ := hp.g
  exact ⟨i, n', F', A', c', M', R', he, p, ⟨m, p.gw h.gw h1 h2 h3 h4, h.bel.trans b'⟩, r⟩
/-- what a function that puts gates tells: a gate whose value is v -/
def GrR (inn : Int) (w0 : World) (T N B n : Nat) (F : Nat → Int) (R : Nat → Value) (bd : Nat) (v : (Nat → Bool) → Bool) (e : Ending) (w' : World) : Prop :=
  ∃ (i n' : Nat) (F' : Nat → Int) (A' : Option Addr) (c' : Nat) (M' : Option Nat) (R' : Nat → Value), e = .returned (.int .i64 (i : Nat)) ∧ i < n' ∧ n ≤ n' ∧ n' ≤ n + bd ∧ (∀ q, q < 3 * n → F' q = F q) ∧ MS inn w0 w' T N B n' F' A' c' M' R' ∧ (∀ j, 2 ≤ j → R' j = R j) ∧ ∀ h, val F' h i = v h
set_option maxRecDepth 100000 in
theorem constant_any {inn : Int} {w0 w : World} {T N B n : Nat} {F : Nat → Int} {A : Option Addr} {c : Nat} {M : Option Nat} {R : Nat → Value} (b : Bool) (h : MS inn w0 w T N B n F A c M R) (hn : n ≤ 90000) (hi : 1 ≤ inn) :
    Calls Try.prog 23 #[.pointer (some ⟨B, 0, none⟩), .bool b] w (GrR inn w0 T N B n F R 3 (fun _ => b)) := by
  have H := Lib.hid h
  clear h
  go_enter Try.func23, Try.ntmps23
  go_wp2_with fail
  refine (putM H.out (by omega) (by decide) (fun _ => ⟨by decide, by omega⟩) (fun h => absurd h (by decide)) (fun h => absurd h (by decide)) (by decide) (by decide) (by decide)).mono ?_
  rintro e w1 ⟨x, n1, F1, A1, c1, M1, R1, rfl, p1, m1, r1⟩
  have hx1 := p1.lt
  have l1 := p1.le
  have u1 := p1.le1
  have P1 := Lib.hid p1
  have M1' := Lib.hid m1
  have RR1 := Lib.hid r1
  clear p1 m1 r1
  go_wp2_with fail
  refine (putM M1'.out (by omega) (by decide) (fun h => absurd h (by decide)) (fun _ => ⟨by omega, by omega⟩) (fun h => absurd h (by decide)) (by decide) (wfNt (by omega)) (by decide)).mono ?_
  rintro e w2 ⟨y, n2, F2, A2, c2, M2, R2, rfl, p2, m2, r2⟩
  have hy2 := p2.lt
  have l2 := p2.le
  have u2 := p2.le1
  have P2 := Lib.hid p2
  have M2' := Lib.hid m2
  have RR2 := Lib.hid r2
  clear p2 m2 r2
  have vx : ∀ g, val F2 g x = g 0 := fun g => by rw [P2.out.old g hx1, (P1.out.val M1'.out.gw g).1 rfl]; rfl
  have vy : ∀ g, val F2 g y = !(g 0) := fun g => by rw [(P2.out.val M2'.out.gw g).2.1 rfl, Int.toNat_natCast, vx]
  have VX := Lib.hid vx
  have VY := Lib.hid vy
  clear vx vy
  cases b
  · go_wp2_with fail
    refine (putM M2'.out (by omega) (by decide) (fun h => absurd h (by decide)) (fun _ => ⟨by omega, by omega⟩) (fun _ => ⟨by omega, by omega⟩) (by decide) (wfNt (by omega)) (wfNt (by omega))).mono ?_
    rintro e w3 ⟨z, n3, F3, A3, c3, M3, R3, rfl, p3, m3, r3⟩
    go_wp2_with fail
    go_ret
    refine ⟨z, n3, F3, A3, c3, M3, R3, rfl, p3.lt, by have := p3.le; omega, by have := p3.le1; omega, fun q hq => by rw [p3.ext q (by omega), P2.out.ext q (by omega), P1.out.ext q hq], m3, fun j hj => by rw [r3 j hj, RR2.out j hj, RR1.out j hj], fun g => ?_⟩
    rw [(p3.val m3.gw g).2.2.1 rfl, Int.toNat_natCast, Int.toNat_natCast, p3.old g (by omega), p3.old g hy2, VX.out, VY.out]
    cases g 0 <;> rfl
  · go_wp2_with fail
    refine (putM M2'.out (by omega) (by decide) (fun h => absurd h (by decide)) (fun _ => ⟨by omega, by omega⟩) (fun _ => ⟨by omega, by omega⟩) (by decide) (wfNt (by omega)) (wfNt (by omega))).mono ?_
    rintro e w3 ⟨z, n3, F3, A3, c3, M3, R3, rfl, p3, m3, r3⟩
    go_wp2_with fail
    go_ret
    refine ⟨z, n3, F3, A3, c3, M3, R3, rfl, p3.lt, by have := p3.le; omega, by have := p3.le1; omega, fun q hq => by rw [p3.ext q (by omega), P2.out.ext q (by omega), P1.out.ext q hq], m3, fun j hj => by rw [r3 j hj, RR2.out j hj, RR1.out j hj], fun g => ?_⟩
    rw [(p3.val m3.gw g).2.2.2 rfl, Int.toNat_natCast, Int.toNat_natCast, p3.old g (by omega), p3.old g hy2, VX.out, VY.out]
    cases g 0 <;> rfl
/-- the number of a word of k bits -/
def wd (h : Nat → Bool) : Nat → Nat
  | 0 => 0
  | k + 1 => wd h k + if h k then 2 ^ k else 0
theorem wd_lt (h : Nat → Bool) : ∀ k, wd h k < 2 ^ k
  | 0 => Nat.one_pos
  | k + 1 => by
    have := wd_lt h k
    show wd h k + (if h k then 2 ^ k else 0) < _
    rw [Nat.pow_succ]
    split <;> omega
theorem Rd.heap {w W : World} {A : Option Addr} {n : Nat} {C : Nat → Value} (h : Rd w A n C) (e : W.heap = w.heap) : Rd W A n C := h.keep (by rw [e]; exact Nat.le_refl _) fun p _ => World.cell?_of_block (by rw [e])
set_option maxRecDepth 100000 in
set_option maxHeartbeats 2000000 in
theorem table_any {inn : Int} {w0 : World} {T N B : Nat} (hi : 1 ≤ inn) : ∀ (k : Nat) (w : World) (n : Nat) (F : Nat → Int) (A : Option Addr) (c : Nat) (M : Option Nat) (R : Nat → Value) (TA : Option Addr) (L tc : Nat) (tb : Nat → Bool), (k : Int) ≤ inn → k ≤ 5 → L = 2 ^ k → L ≤ tc → tc ≤ maxLen → Rd w0 TA L (fun i => .bool (tb i)) → MS inn w0 w T N B n F A c M R → n + 8 * L ≤ 90000 →
    Calls Try.prog 19 #[.pointer (some ⟨B, 0, none⟩), .int .i64 (k : Nat), .slice TA L tc] w (GrR inn w0 T N B n F R (8 * L - 5) (fun h => tb (wd h k))) := by
  intro k
  induction k with
  | zero => 
    intro w n F A c M R TA L tc tb hk h5 hL hc hm hT hS hn
    obtain rfl : L = 1 := hL
    unfold maxLen at hm
    obtain ⟨tbb, tof, rfl, ltb, hcl⟩ := (hT.below hS.bel) (by omega)
    have c0 : w.cell? ⟨tbb, tof, none⟩ = some (.bool (tb 0)) := by have := hcl 0 (by omega); rwa [Nat.add_zero] at this
    have hcon := containsB_any (some ⟨tbb, tof, none⟩) 1 tc tb (!(tb 0)) w (hT.below hS.bel) (by unfold maxLen; omega)
    have hcb : hasB tb (!(tb 0)) 1 = false := hasB_no fun i hi e => by
      obtain rfl : i = 0 := by omega
      cases hb : tb 0
      · rw [hb] at e; cases e
      · rw [hb] at e; cases e
    rw [hcb] at hcon
    obtain ⟨t0, ht0⟩ : ∃ t0, t0 = tb 0 := ⟨_, rfl⟩
    rw [← ht0] at c0 hcon
    have HCON := Lib.hid hcon
    have HSt := Lib.hid hS
    have HT0 := Lib.hid ht0
    clear hcon hT hS hcl ht0 hcb
    go_enter Try.func19, Try.ntmps19
    go_wp2_with fail
    refine HCON.out.mono ?_
    rintro e w' ⟨rfl, rfl⟩
    go_wp2_with fail
    refine (constant_any t0 HSt.out (by omega) hi).mono ?_
    rintro e w2 ⟨i, n', F', A', c', M', R', rfl, q1, q2, q3, q4, q5, q6, q7⟩
    go_wp2_with fail
    go_ret
    exact ⟨i, n', F', A', c', M', R', rfl, q1, q2, by omega, q4, q5, q6, fun h => by rw [q7]; exact HT0.out⟩
  | succ k ih =>
    intro w n F A c M R TA L tc tb hk h5 hL hc hm hT hS hn
    obtain ⟨Hf, hHf⟩ : ∃ Hf, Hf = 2 ^ k := ⟨_, rfl⟩
    have hL2 : L = 2 * Hf := by rw [hL, hHf, Nat.pow_succ]; omega
    have hHf1 : 1 ≤ Hf ∧ Hf ≤ 16 := by
      rw [hHf]
      have : k = 0 ∨ k = 1 ∨ k = 2 ∨ k = 3 ∨ k = 4 := by omega
      rcases this with rfl | rfl | rfl | rfl | rfl <;> decide
    have hquo : (L : Int) / 2 = (Hf : Int) := by omega
    obtain ⟨tbb, tof, rfl, ltb, hcl⟩ := (hT.below hS.bel) (by omega)
    have c0 : w.cell? ⟨tbb, tof, none⟩ = some (.bool (tb 0)) := by have := hcl 0 (by omega); rwa [Nat.add_zero] at this
    unfold maxLen at hm
    have hlm : L ≤ maxLen := by unfold maxLen; omega
    have hcon := containsB_any (some ⟨tbb, tof, none⟩) L tc tb (!(tb 0)) w (hT.below hS.bel) hlm
    have HCON := Lib.hid hcon
    have HT := Lib.hid hT
    have HSt := Lib.hid hS
    have HL := Lib.hid hL
    have HIH := Lib.hid ih
    have HHF := Lib.hid hHf
    have HL2 := Lib.hid hL2
    have hLa : 2 * Hf ≤ L := by omega
    have hLb : L ≤ 2 * Hf := by omega
    clear hcon hT hS hL ih hHf hcl hlm hL2
    cases hcb : hasB tb (!(tb 0)) L
    · have HCB := Lib.hid hcb
      rw [hcb] at HCON
      clear hcb
      obtain ⟨t0, ht0⟩ : ∃ t0, t0 = tb 0 := ⟨_, rfl⟩
      rw [← ht0] at c0 HCON HCB
      have HT0 := Lib.hid ht0
      clear ht0
      go_enter Try.func19, Try.ntmps19
      go_wp2_with fail
      refine HCON.out.mono ?_
      rintro e w' ⟨rfl, rfl⟩
      go_wp2_with fail
      refine (constant_any t0 HSt.out (by omega) hi).mono ?_
      rintro e w2 ⟨i, n', F', A', c', M', R', rfl, q1, q2, q3, q4, q5, q6, q7⟩
      go_wp2_with fail
      go_ret
      refine ⟨i, n', F', A', c', M', R', rfl, q1, q2, by omega, q4, q5, q6, fun h => ?_⟩
      rw [q7]
      show t0 = tb (wd h (k + 1))
      have hlt := wd_lt h (k + 1)
      rw [← HL.out] at hlt
      cases ht : tb (wd h (k + 1))
      · cases t0
        · rfl
        · have := hasB_yes hlt ht
          rw [show (!true) = false from rfl, this] at HCB
          exact absurd HCB.out (by decide)
      · cases t0
        · have := hasB_yes hlt ht
          rw [show (!false) = true from rfl, this] at HCB
          exact absurd HCB.out (by decide)
        · rfl
    · rw [hcb] at HCON
      clear hcb
      obtain ⟨t0, ht0⟩ : ∃ t0, t0 = tb 0 := ⟨_, rfl⟩
      rw [← ht0] at c0 HCON
      have HT0 := Lib.hid ht0
      clear ht0
      have hT2 := HT.out.below HSt.out.bel
      have hlow : Rd w (some ⟨tbb, tof, none⟩) Hf (fun i => .bool (tb i)) := hT2.le (by omega)
      have hhig : Rd w (some ⟨tbb, tof + Hf, none⟩) Hf (fun i => .bool (tb (Hf + i))) := hT2.cut.le (by omega)
      have HLOW := Lib.hid hlow
      have HHIG := Lib.hid hhig
      clear hT2 hlow hhig
      have hlh : L - Hf = Hf := by omega
      have heqc : ∀ b : Bool, decide (∀ i, i < Hf → tb i = tb (Hf + i)) = b → ∀ q, Calls Try.prog 24 #[.slice (some ⟨tbb, tof, none⟩) Hf tc, .slice (some ⟨tbb, tof + Hf, none⟩) (L - Hf) (tc - Hf)] (w.drewN q) fun e w'' => e = .returned (.bool b) ∧ ∃ q, w'' = w.drewN q := fun b hb q => by
        rw [hlh]
        refine (equalB_any _ _ Hf tc (tc - Hf) tb (fun i => tb (Hf + i)) (w.drewN q) b hb (HLOW.out.heap rfl) (HHIG.out.heap rfl) (by unfold maxLen; omega)).mono ?_
        rintro e w'' ⟨he, r, hr⟩
        exact ⟨he, q + r, by rw [hr, World.drewN_drewN]⟩
      have HEQC := Lib.hid heqc
      have HLH := Lib.hid hlh
      have hlowT : Rd w0 (some ⟨tbb, tof, none⟩) Hf (fun i => .bool (tb i)) := HT.out.le (by omega)
      have hhigT : Rd w0 (some ⟨tbb, tof + Hf, none⟩) (L - Hf) (fun i => .bool (tb (Hf + i))) := HT.out.cut
      have HLT := Lib.hid hlowT
      have HHT := Lib.hid hhigT
      have hkk : ((k + 1 : Nat) : Int) - 1 = (k : Int) := by omega
      have hwx : ∀ h, wd h (k + 1) = wd h k + if h k then Hf else 0 := fun h => by rw [HHF.out]; rfl
      have hwl : ∀ h, wd h k < Hf := fun h => by rw [HHF.out]; exact wd_lt h k
      have HWX := Lib.hid hwx
      have HWL := Lib.hid hwl
      clear heqc hlh hlowT hhigT hwx hwl
      by_cases heq : ∀ i, i < Hf → tb i = tb (Hf + i)
      · have heqt := HEQC.out true (decide_eq_true heq)
        have HEQT := Lib.hid heqt
        have HEQ := Lib.hid heq
        clear heqt heq HEQC
        go_enter Try.func19, Try.ntmps19
        go_wp2_with fail
        refine HCON.out.mono ?_
        rintro e w' ⟨rfl, rfl⟩
        go_wp2_with fail
        go_quiet ((go_at_call 24; exact HEQT.out _))
        go_wp2_with fail
        have hSd := HSt.out.below (below_drewN (Below.refl _ _) nq)
        refine (HIH.out _ n F A c M R (some ⟨tbb, tof, none⟩) Hf tc tb (by omega) (by omega) HHF.out (by omega) (by unfold maxLen; omega) HLT.out hSd (by omega)).mono ?_
        rintro e w2 ⟨i, n', F', A', c', M', R', rfl, q1, q2, q3, q4, q5, q6, q7⟩
        go_wp2_with fail
        go_ret
        refine ⟨i, n', F', A', c', M', R', rfl, q1, q2, by omega, q4, q5, q6, fun h => ?_⟩
        rw [q7]
        show tb (wd h k) = tb (wd h (k + 1))
        rw [HWX.out]
        cases h k
        · rfl
        · show _ = tb (wd h k + Hf)
          rw [HEQ.out _ (HWL.out h), Nat.add_comm]
      · have heqt := HEQC.out false (decide_eq_false heq)
        have HEQT := Lib.hid heqt
        have HNE := Lib.hid heq
        clear heqt heq HEQC
        go_enter Try.func19, Try.ntmps19
        go_wp2_with fail
        refine HCON.out.mono ?_
        rintro e w' ⟨rfl, rfl⟩
        go_wp2_with fail
        go_quiet ((go_at_call 24; exact HEQT.out _))
        obtain ⟨wd0, hwd0⟩ : ∃ wd0, wd0 = w.drewN nq := ⟨_, rfl⟩
        have hSd := HSt.out.below (below_drewN (Below.refl _ _) nq)
        have HLOWd := Lib.hid (HLOW.out.heap (W := w.drewN nq) rfl)
        rw [← hwd0] at hSd HLOWd ⊢
        have HS1 := Lib.hid hSd
        clear hSd hwd0
        go_wp2_with fail
        refine (putM HS1.out (by omega) (by decide) (fun _ => ⟨by omega, by omega⟩) (fun h => absurd h (by decide)) (fun h => absurd h (by decide)) (by decide) (wfNt (by omega)) (by decide)).mono ?_
        rintro e w1 ⟨x, n1, F1, A1, c1, M1, R1, rfl, p1, m1, r1⟩
        have hx1 := p1.lt
        have l1 := p1.le
        have u1 := p1.le1
        have vx1 : ∀ g, val F1 g x = g k := fun g => by rw [(p1.val m1.gw g).1 rfl, Int.toNat_natCast]
        have VX1 := Lib.hid vx1
        have E1 := Lib.hid p1.ext
        have MS1 := Lib.hid m1
        have RR1 := Lib.hid r1
        clear p1 m1 r1 vx1
        go_wp2_with fail
        go_quiet (fail)
        obtain ⟨wq, hwq⟩ : ∃ wq, wq = w1.drewN nq := ⟨_, rfl⟩
        have hS2 := MS1.out.below (below_drewN (Below.refl w1.heap.size w1) nq)
        rw [← hwq] at hS2 ⊢
        have MS2 := Lib.hid hS2
        clear hS2 hwq
        have hc9 : wq.cell? ⟨tbb, tof, none⟩ = some (.bool t0) := by
          obtain ⟨b', o', e', _, hc⟩ := (HLT.out.below MS2.out.bel) (by omega)
          injection e' with e'
          injection e' with e1 e2
          subst e1; subst e2
          have := hc 0 (by omega)
          rw [Nat.add_zero] at this
          rw [HT0.out]; exact this
        by_cases hk0 : k = 0
        · have hqk : ((k : Int) + 1 == 1) = true := by rw [beq_iff_eq]; omega
          have hH1 : Hf = 1 := by rw [HHF.out, hk0]
          have hne : tb 0 ≠ tb 1 := fun e => HNE.out fun i hi => by
            obtain rfl : i = 0 := by omega
            rw [Nat.add_zero, hH1]; exact e
          have hwd : ∀ h, wd h (k + 1) = if h k then 1 else 0 := fun h => by
            rw [HWX.out, hH1, hk0]; show 0 + _ = _; rw [Nat.zero_add]
          have HNE2 := Lib.hid hne
          have HWD := Lib.hid hwd
          have HK0 := Lib.hid hk0
          have HH1 := Lib.hid hH1
          clear hne hwd hk0 hH1
          cases t0
          · go_wp2_with fail
            go_ret
            refine ⟨x, n1, F1, A1, c1, M1, R1, rfl, hx1, l1, by omega, E1.out, MS2.out, RR1.out, fun h => ?_⟩
            rw [VX1.out]
            show _ = tb (wd h (k + 1))
            rw [HWD.out]
            have a0 : tb 0 = false := HT0.out.symm
            have a1 : tb 1 = true := by
              cases hb : tb 1
              · exact absurd (a0.trans hb.symm) HNE2.out
              · rfl
            cases h k
            · exact a0.symm
            · exact a1.symm
          · go_wp2_with fail
            refine (putM MS2.out (by omega) (by decide) (fun h => absurd h (by decide)) (fun _ => ⟨by omega, by omega⟩) (fun h => absurd h (by decide)) (by decide) (wfNt (by omega)) (by decide)).mono ?_
            rintro e w2 ⟨y, n2, F2, A2, c2, M2, R2, rfl, p2, m2, r2⟩
            go_wp2_with fail
            go_ret
            refine ⟨y, n2, F2, A2, c2, M2, R2, rfl, p2.lt, by have := p2.le; omega, by have := p2.le1; omega, fun q hq => by rw [p2.ext q (by omega), E1.out q hq], m2, fun j hj => by rw [r2 j hj, RR1.out j hj], fun h => ?_⟩
            rw [(p2.val m2.gw h).2.1 rfl, Int.toNat_natCast, p2.old h hx1, VX1.out]
            show _ = tb (wd h (k + 1))
            rw [HWD.out]
            have a0 : tb 0 = true := HT0.out.symm
            have a1 : tb 1 = false := by
              cases hb : tb 1
              · rfl
              · exact absurd (a0.trans hb.symm) HNE2.out
            cases h k
            · exact a0.symm
            · exact a1.symm
        · have hqk : ((k : Int) + 1 == 1) = false := by rw [beq_eq_false_iff_ne]; omega
          clear hk0 HNE
          go_wp2_with fail
          refine (putM MS2.out (by omega) (by decide) (fun h => absurd h (by decide)) (fun _ => ⟨by omega, by omega⟩) (fun h => absurd h (by decide)) (by decide) (wfNt (by omega)) (by decide)).mono ?_
          rintro e w2 ⟨y, n2, F2, A2, c2, M2, R2, rfl, p2, m2, r2⟩
          have hy2 := p2.lt
          have l2 := p2.le
          have u2 := p2.le1
          have vx2 : ∀ h, val F2 h x = h k := fun h => by rw [p2.old h hx1]; exact VX1.out h
          have vy2 : ∀ h, val F2 h y = !(h k) := fun h => by rw [(p2.val m2.gw h).2.1 rfl, Int.toNat_natCast]; rw [vx2]
          have VX2 := Lib.hid vx2
          have VY2 := Lib.hid vy2
          have E2 := Lib.hid p2.ext
          have MS3 := Lib.hid m2
          have RR2 := Lib.hid r2
          clear p2 m2 r2 vx2 vy2 MS2
          go_wp2_with fail
          refine (HIH.out _ n2 F2 A2 c2 M2 R2 (some ⟨tbb, tof, none⟩) Hf tc tb (by omega) (by omega) HHF.out (by omega) (by unfold maxLen; omega) HLT.out MS3.out (by omega)).mono ?_
          rintro e w3 ⟨ya, n3, F3, A3, c3, M3, R3, rfl, a1, a2, a3, a4, a5, a6, a7⟩
          have E3 := Lib.hid a4
          have MS4 := Lib.hid a5
          have RR3 := Lib.hid a6
          have V3 := Lib.hid a7
          clear a4 a5 a6 a7 MS3
          go_wp2_with fail
          refine (HIH.out _ n3 F3 A3 c3 M3 R3 (some ⟨tbb, tof + Hf, none⟩) (L - Hf) (tc - Hf) (fun i => tb (Hf + i)) (by omega) (by omega) (by rw [HLH.out]; exact HHF.out) (by omega) (by unfold maxLen; omega) HHT.out MS4.out (by omega)).mono ?_
          rintro e w4 ⟨yb, n4, F4, A4, c4, M4, R4, rfl, b1, b2, b3, b4, b5, b6, b7⟩
          have E4 := Lib.hid b4
          have MS5 := Lib.hid b5
          have RR4 := Lib.hid b6
          have V4 := Lib.hid b7
          clear b4 b5 b6 b7 MS4
          go_wp2_with fail
          refine (putM MS5.out (by omega) (by decide) (fun h => absurd h (by decide)) (fun _ => ⟨by omega, by omega⟩) (fun _ => ⟨by omega, by omega⟩) (by decide) (wfNt (by omega)) (wfNt (by omega))).mono ?_
          rintro e w5 ⟨z1, n5, F5, A5, c5, M5, R5, rfl, p5, m5, r5⟩
          have hz1 := p5.lt
          have l5 := p5.le
          have u5 := p5.le1
          have P5 := Lib.hid p5
          have MS6 := Lib.hid m5
          have RR5 := Lib.hid r5
          clear p5 m5 r5 MS5
          go_wp2_with fail
          refine (putM MS6.out (by omega) (by decide) (fun h => absurd h (by decide)) (fun _ => ⟨by omega, by omega⟩) (fun _ => ⟨by omega, by omega⟩) (by decide) (wfNt (by omega)) (wfNt (by omega))).mono ?_
          rintro e w6 ⟨z2, n6, F6, A6, c6, M6, R6, rfl, p6, m6, r6⟩
          have hz2 := p6.lt
          have l6 := p6.le
          have u6 := p6.le1
          have P6 := Lib.hid p6
          have MS7 := Lib.hid m6
          have RR6 := Lib.hid r6
          clear p6 m6 r6
          go_wp2_with fail
          refine (putM MS7.out (by omega) (by decide) (fun h => absurd h (by decide)) (fun _ => ⟨by omega, by omega⟩) (fun _ => ⟨by omega, by omega⟩) (by decide) (wfNt (by omega)) (wfNt (by omega))).mono ?_
          rintro e w7 ⟨z3, n7, F7, A7, c7, M7, R7, rfl, p7, m7, r7⟩
          have hz3 := p7.lt
          have l7 := p7.le
          have u7 := p7.le1
          have P7 := Lib.hid p7
          have MS8 := Lib.hid m7
          have RR7 := Lib.hid r7
          clear p7 m7 r7
          go_wp2_with fail
          go_ret
          refine ⟨z3, n7, F7, A7, c7, M7, R7, rfl, hz3, by omega, by omega, fun q hq => ?_, MS8.out, fun j hj => by rw [RR7.out j hj, RR6.out j hj, RR5.out j hj, RR4.out j hj, RR3.out j hj, RR2.out j hj, RR1.out j hj], fun h => ?_⟩
          · rw [P7.out.ext q (by omega), P6.out.ext q (by omega), P5.out.ext q (by omega), E4.out q (by omega), E3.out q (by omega), E2.out q (by omega), E1.out q hq]
          · have x3 : val F3 h x = h k := by rw [val_ext h E3.out (by omega)]; exact VX2.out h
            have y3 : val F3 h y = !(h k) := by rw [val_ext h E3.out hy2]; exact VY2.out h
            have x4 : val F4 h x = h k := by rw [val_ext h E4.out (by omega)]; exact x3
            have y4 : val F4 h y = !(h k) := by rw [val_ext h E4.out (by omega)]; exact y3
            have a4 : val F4 h ya = tb (wd h k) := by rw [val_ext h E4.out a1]; exact V3.out h
            have b4 : val F4 h yb = tb (Hf + wd h k) := V4.out h
            have v5 := (P5.out.val MS6.out.gw h).2.2.1 rfl
            rw [Int.toNat_natCast, Int.toNat_natCast, P5.out.old h (j := y) (by omega), P5.out.old h (j := ya) (by omega), y4, a4] at v5
            have v6 := (P6.out.val MS7.out.gw h).2.2.1 rfl
            rw [Int.toNat_natCast, Int.toNat_natCast, P6.out.old h (j := x) (by omega), P6.out.old h (j := yb) (by omega), P5.out.old h (j := x) (by omega), P5.out.old h (j := yb) (by omega), x4, b4] at v6
            have v7 := (P7.out.val MS8.out.gw h).2.2.2 rfl
            rw [Int.toNat_natCast, Int.toNat_natCast, P7.out.old h (j := z1) (by omega), P7.out.old h (j := z2) (by omega), P6.out.old h (j := z1) hz1, v5, v6] at v7
            rw [v7]
            show _ = tb (wd h (k + 1))
            rw [HWX.out]
            cases h k
            · show (_ && _ || _ && _) = tb (wd h k + 0)
              rw [Nat.add_zero]; simp
            · show (_ && _ || _ && _) = tb (wd h k + Hf)
              rw [Nat.add_comm]; simp
end Go.Proofs.Ytcpcamblnkcefaa
