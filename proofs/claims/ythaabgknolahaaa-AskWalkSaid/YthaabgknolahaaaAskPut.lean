/- What the recursive method that puts questions does. Conditions: the table reads as a function of its index; the box is as told. -/
import Derived.Test.YthaabgknolahaaaAskFns
import Derived.Deep.RegionLaw
import Derived.BigQuiet
import Derived.Deep.QuietTactic
import Derived.StillTailTactics
namespace Go.Proofs.Ythaabgknolahaaa
open Go.ChangeShapes Go.WideShapes Go.ChangeAt Go.RowKit
set_option linter.unusedVariables false
set_option linter.unusedSimpArgs false
theorem EAk : Elem Try.prog 29 49 3 24 := Elem.of Try.underlying29 (by kernel_rfl : (Try.prog.info? 49).map (fun i => (i.zero, i.size, i.bytes)) = some (some (.agg #[.int .i64 0, .int .i64 0, .int .i64 0]), 3, 24)) rfl (by omega)
/-- the cells of questions -/
def akC (T : Nat → Qn) (q : Nat) : Value := if q % 3 = 0 then .int .i64 ((T (q / 3)).1 : Nat) else if q % 3 = 1 then .int .i64 (T (q / 3)).2.1 else .int .i64 (T (q / 3)).2.2
def ak1 (a : Nat) (b d : Int) (q : Nat) : Value := if q = 0 then .int .i64 (a : Nat) else if q = 1 then .int .i64 b else .int .i64 d
theorem ak1_one (a : Nat) (b d : Int) (q : Nat) : (ak1 a b d q).oneCell' = true := by unfold ak1; split; rfl; split <;> rfl
def ext (T : Nat → Qn) (j : Nat) (v : Qn) (q : Nat) : Qn := if q = j then v else T q
theorem ext_lt {T : Nat → Qn} {j q : Nat} {v : Qn} (h : q < j) : ext T j v q = T q := if_neg (by omega)
theorem ext_eq {T : Nat → Qn} {j : Nat} {v : Qn} : ext T j v j = v := if_pos rfl
theorem ak_cat {T : Nat → Qn} {j a : Nat} {b d : Int} {q : Nat} (h : q < j * 3 + 3) : cat (j * 3) (akC T) (ak1 a b d) q = akC (ext T j (a, b, d)) q := by
  by_cases e : q < j * 3
  · rw [cat_lt e]
    unfold akC
    rw [ext_lt (by omega)]
  · rw [cat_ge (by omega)]
    have : q = j * 3 ∨ q = j * 3 + 1 ∨ q = j * 3 + 2 := by omega
    unfold akC ak1
    rcases this with rfl | rfl | rfl
    · rw [if_pos (by omega), if_pos (by omega), show j * 3 / 3 = j by omega, ext_eq]
    · rw [if_neg (by omega), if_pos (by omega), if_neg (by omega), if_pos (by omega), show (j * 3 + 1) / 3 = j by omega, ext_eq]
    · rw [if_neg (by omega), if_neg (by omega), if_neg (by omega), if_neg (by omega), show (j * 3 + 2) / 3 = j by omega, ext_eq]
def mkC (n : Nat) (fA : Option Addr) (fn fc : Nat) (v : Value) (q : Nat) : Value := if q = 0 then .int .i64 (n : Nat) else if q = 1 then .slice fA fn fc else v
/-- the box, and the questions put -/
structure Mk (W : World) (b n : Nat) (fA : Option Addr) (fc j : Nat) (A : Option Addr) (c : Nat) (T : Nat → Qn) : Prop where
  row : W.rowIs b 46 3 (mkC n fA (2 ^ n) fc (.slice A j c))
  own : Own W (b + 1) 49 3 A j c (j * 3) (akC T)
theorem ak_rd (W : World) (a : Nat) (b d : Int) (e : TypeId) : Rd (W.alloc (.cells #[.int .i64 (a : Nat), .int .i64 b, .int .i64 d] e)) (some ⟨W.heap.size, 0, none⟩) 3 (ak1 a b d) := by
  refine Rd.of_row (t := e) (n := 3) ?_ (Nat.le_refl _)
  exact World.rowIs_alloc W #[.int .i64 (a : Nat), .int .i64 b, .int .i64 d] e _ fun i hi => by
    have : i < 3 := hi
    match i, this with
    | 0, _ => rfl
    | 1, _ => rfl
    | 2, _ => rfl
/-- what putting leaves -/
def PutE (w0 : World) (b n : Nat) (fA : Option Addr) (fc : Nat) (F : Nat → Bool) (j : Nat) (T : Nat → Qn) (k x : Nat) (e : Ending) (w' : World) : Prop :=
  ∃ (r : Int) (j' : Nat) (A' : Option Addr) (c' : Nat) (T' : Nat → Qn) (d : Nat), e = .returned (.int .i64 r) ∧ Mk w' b n fA fc j' A' c' T' ∧ Below w0.heap.size w0 w' ∧ j ≤ j' ∧ j' + 1 ≤ j + 2 ^ (n - popc k) ∧ (∀ q, q < j → T' q = T q) ∧
    (∀ q, j ≤ q → q < j' → (T' q).1 < n ∧ -2 ≤ (T' q).2.1 ∧ (T' q).2.1 < (q : Int) ∧ -2 ≤ (T' q).2.2 ∧ (T' q).2.2 < (q : Int)) ∧
    Tr n F T' j' r k x d ∧ -2 ≤ r ∧ r < (j' : Int) ∧ (0 < k → d ≤ (lst n F k x).1) ∧ (k = 0 → r = (j' : Int) - 1 ∧ 0 < j' ∧ (d ≤ (lst n F k x).1 ∨ d ≤ 1))
theorem mkC_set {n : Nat} {fA : Option Addr} {fn fc : Nat} {v v' : Value} (q : Nat) (hq : q < 3) : (if q = 2 then v' else mkC n fA fn fc v q) = mkC n fA fn fc v' q := by
  match q, hq with
  | 0, _ => rfl
  | 1, _ => rfl
  | 2, _ => rfl
theorem pow_split {n k : Nat} (h : popc k + 1 ≤ n) : 2 ^ (n - popc k) = 2 * 2 ^ (n - (popc k + 1)) := by
  rw [show n - popc k = (n - (popc k + 1)) + 1 by omega, Nat.pow_succ]; omega
theorem bits_pos : ∀ k : Nat, k < 16 → ∀ i : Nat, i < 4 → 0 < setB k i := by decide +kernel
theorem Mk.drewN {W : World} {b n : Nat} {fA : Option Addr} {fc j : Nat} {A : Option Addr} {c : Nat} {T : Nat → Qn} (h : Mk W b n fA fc j A c T) (m : Nat) : Mk (W.drewN m) b n fA fc j A c T := ⟨row_drewN h.row m, h.own.drewN m⟩
/-- nothing is asked: an end -/
theorem leaf_ok {w0 w : World} {b n : Nat} {fA : Option Addr} {fc : Nat} {F : Nat → Bool} {j : Nat} {T : Nat → Qn} {k x : Nat} {A : Option Addr} {c : Nat} (hM : Mk w b n fA fc j A c T) (hB : Below w0.heap.size w0 w) (hs : smW F (2 ^ n) k x = true) (hk : 0 < k) (r : Int) (hr : r = (if F x = true then -2 else -1)) : PutE w0 b n fA fc F j T k x (.returned (.int .i64 r)) w :=
  ⟨r, j, A, c, T, 0, rfl, hM, hB, Nat.le_refl _, by have : 0 < 2 ^ (n - popc k) := Nat.pow_pos (by omega); omega, fun _ _ => rfl, fun q h1 h2 => absurd h1 (by omega), .leaf r k x hr hs, by split at hr <;> omega, by split at hr <;> omega, fun _ => Nat.zero_le _, fun e => by omega⟩
/-- which bit is asked for -/
theorem node_bit {n : Nat} (h4 : n ≤ 4) (n1 : 1 ≤ n) (F : Nat → Bool) {k x : Nat} (hk : k < 2 ^ n) (hx : x < 2 ^ n) (h : smW F (2 ^ n) k x = false ∨ k = 0) :
    ∃ i, i < n ∧ hasBit k i = false ∧ ((lst n F k x).2 = (i : Int) ∨ ((lst n F k x).2 = -1 ∧ k = 0 ∧ i = 0)) ∧ ∀ d1 d2, d1 ≤ (lst n F (setB k i) (clrB x i)).1 → d2 ≤ (lst n F (setB k i) (setB x i)).1 → 1 + max d1 d2 ≤ (lst n F k x).1 ∨ (k = 0 ∧ 1 + max d1 d2 ≤ 1) := by
  cases hs : smW F (2 ^ n) k x with
  | false =>
    obtain ⟨i, a, b, c, d⟩ := lst_ok h4 F hk hx hs
    exact ⟨i, a, b, .inl c, fun d1 d2 h1 h2 => .inl (by omega)⟩
  | true =>
    have hk0 : k = 0 := by
      rcases h with h | h
      · rw [hs] at h; cases h
      · exact h
    subst hk0
    have hall : ∀ k' x', x' < 2 ^ n → lst n F k' x' = (0, -1) := fun k' x' hx' => lst_same (smW_iff.2 fun y hy _ => by
      have h1 := smW_iff.1 hs y hy (Nat.and_zero _)
      have h2 := smW_iff.1 hs x' hx' (Nat.and_zero _)
      rw [h1, h2])
    obtain ⟨b1, b2⟩ := sets_lt n (by omega) x (by have := (p16 h4).2; omega) 0 (by omega) hx (by omega)
    refine ⟨0, by omega, by decide, .inr ⟨by rw [hall 0 x hx], rfl, rfl⟩, fun d1 d2 h1 h2 => .inr ⟨rfl, ?_⟩⟩
    rw [hall _ _ b2] at h1
    rw [hall _ _ b1] at h2
    simp at h1 h2
    omega
/-- the question put behind what both sides put -/
theorem node_ok {w0 W4 : World} {b n : Nat} {fA : Option Addr} {fc : Nat} {F : Nat → Bool} {j : Nat} {T : Nat → Qn} {k x i : Nat} {A3 : Option Addr} {c3 : Nat}
    {r1 r2 : Int} {j1 j2 d1 d2 : Nat} {T1 T2 : Nat → Qn} (hin : i < n) (hbi : hasBit k i = false) (hpk : popc (setB k i) = popc k + 1) (hpn : popc k + 1 ≤ n) (h0 : 0 < setB k i)
    (a1 : j ≤ j1) (a2 : j1 + 1 ≤ j + 2 ^ (n - popc (setB k i))) (a3 : ∀ q, q < j → T1 q = T q) (a4 : ∀ q, j ≤ q → q < j1 → (T1 q).1 < n ∧ -2 ≤ (T1 q).2.1 ∧ (T1 q).2.1 < (q : Int) ∧ -2 ≤ (T1 q).2.2 ∧ (T1 q).2.2 < (q : Int))
    (a5 : Tr n F T1 j1 r1 (setB k i) (clrB x i) d1) (a6 : -2 ≤ r1) (a7 : r1 < (j1 : Int)) (a8 : 0 < setB k i → d1 ≤ (lst n F (setB k i) (clrB x i)).1)
    (e1 : j1 ≤ j2) (e2 : j2 + 1 ≤ j1 + 2 ^ (n - popc (setB k i))) (e3 : ∀ q, q < j1 → T2 q = T1 q) (e4 : ∀ q, j1 ≤ q → q < j2 → (T2 q).1 < n ∧ -2 ≤ (T2 q).2.1 ∧ (T2 q).2.1 < (q : Int) ∧ -2 ≤ (T2 q).2.2 ∧ (T2 q).2.2 < (q : Int))
    (e5 : Tr n F T2 j2 r2 (setB k i) (setB x i) d2) (e6 : -2 ≤ r2) (e7 : r2 < (j2 : Int)) (e8 : 0 < setB k i → d2 ≤ (lst n F (setB k i) (setB x i)).1)
    (hd : ∀ d1 d2, d1 ≤ (lst n F (setB k i) (clrB x i)).1 → d2 ≤ (lst n F (setB k i) (setB x i)).1 → 1 + max d1 d2 ≤ (lst n F k x).1 ∨ (k = 0 ∧ 1 + max d1 d2 ≤ 1))
    (hB : Below w0.heap.size w0 W4) (hM : Mk W4 b n fA fc (j2 + 1) A3 c3 (ext T2 j2 (i, r1, r2))) : PutE w0 b n fA fc F j T k x (.returned (.int .i64 (j2 : Nat))) W4 := by
  have hps := pow_split hpn
  rw [hpk] at a2 e2
  refine ⟨_, j2 + 1, A3, c3, ext T2 j2 (i, r1, r2), 1 + max d1 d2, rfl, hM, hB, by omega, by omega, fun q hq => ?_, fun q h1 h2 => ?_, ?_, by omega, by omega, fun hk => ?_, fun hk => ⟨by omega, by omega, ?_⟩⟩
  · rw [ext_lt (by omega), e3 q (by omega), a3 q hq]
  · by_cases c1 : q < j1
    · rw [ext_lt (by omega), e3 q c1]; exact a4 q h1 c1
    · by_cases c2 : q < j2
      · rw [ext_lt c2]; exact e4 q (by omega) c2
      · obtain rfl : q = j2 := by omega
        rw [ext_eq]; exact ⟨hin, a6, by show r1 < _; omega, e6, by show r2 < _; omega⟩
  · have t1 : Tr n F (ext T2 j2 (i, r1, r2)) (j2 + 1) (ext T2 j2 (i, r1, r2) j2).2.1 (setB k i) (clrB x i) d1 := by
      rw [ext_eq]; exact a5.mono (by omega) fun q hq => by rw [ext_lt (by omega), e3 q hq]
    have t2 : Tr n F (ext T2 j2 (i, r1, r2)) (j2 + 1) (ext T2 j2 (i, r1, r2) j2).2.2 (setB k i) (setB x i) d2 := by
      rw [ext_eq]; exact e5.mono (by omega) fun q hq => by rw [ext_lt (by omega)]
    exact .node j2 i k x d1 d2 (by omega) (by rw [ext_eq]) hin hbi t1 t2
  · rcases hd d1 d2 (a8 h0) (e8 h0) with h | ⟨h, _⟩
    · exact h
    · omega
  · rcases hd d1 d2 (a8 h0) (e8 h0) with h | ⟨_, h⟩
    · exact .inl h
    · exact .inr h
def PutC (w0 : World) (b n : Nat) (fA : Option Addr) (fc : Nat) (F : Nat → Bool) (k x : Nat) : Prop := ∀ j (A : Option Addr) (c : Nat) (T : Nat → Qn) (w : World), j + 2 ^ (n - popc k) ≤ 100 → Mk w b n fA fc j A c T → Below w0.heap.size w0 w →
    Calls Try.prog 21 #[.pointer (some ⟨b, 0, none⟩), .int .i64 (k : Nat), .int .i64 (x : Nat)] w (PutE w0 b n fA fc F j T k x)
set_option maxRecDepth 100000 in
set_option maxHeartbeats 8000000 in
theorem node_any (w0 : World) (b n : Nat) (fA : Option Addr) (fc : Nat) (F : Nat → Bool) (h4 : n ≤ 4) (hb0 : w0.heap.size ≤ b) (k x i : Nat) (hk : k < 2 ^ n) (hx : x < 2 ^ n) (hin : i < n) (hbi : hasBit k i = false)
    (hw : (lst n F k x).2 = (i : Int) ∨ ((lst n F k x).2 = -1 ∧ k = 0 ∧ i = 0)) (hd : ∀ d1 d2, d1 ≤ (lst n F (setB k i) (clrB x i)).1 → d2 ≤ (lst n F (setB k i) (setB x i)).1 → 1 + max d1 d2 ≤ (lst n F k x).1 ∨ (k = 0 ∧ 1 + max d1 d2 ≤ 1))
    (j : Nat) (A : Option Addr) (c : Nat) (T : Nat → Qn) (w : World) (hj : j + 2 ^ (n - popc k) ≤ 100) (hM : Mk w b n fA fc j A c T) (hB : Below w0.heap.size w0 w)
    (hle : ∀ m, Calls Try.prog 16 #[.int .i64 (n : Nat), .slice fA (2 ^ n) fc, .int .i64 (k : Nat), .int .i64 (x : Nat)] (w.drewN m) fun e w' => e = .returned (.tuple #[.int .i64 ((lst n F k x).1 : Nat), .int .i64 (lst n F k x).2]) ∧ w' = w.drewN m)
    (p1 : PutC w0 b n fA fc F (setB k i) (clrB x i)) (p2 : PutC w0 b n fA fc F (setB k i) (setB x i)) :
    Calls Try.prog 21 #[.pointer (some ⟨b, 0, none⟩), .int .i64 (k : Nat), .int .i64 (x : Nat)] w (PutE w0 b n fA fc F j T k x) := by
  have hp := p16 h4
  have c0 : w.cell? ⟨b, 0, none⟩ = some (.int .i64 (n : Nat)) := hM.row.cell (i := 0) (by omega)
  have c1 : w.cell? ⟨b, 1, none⟩ = some (.slice fA (2 ^ n) fc) := hM.row.cell (i := 1) (by omega)
  obtain ⟨q1, q2, hpk⟩ := setB_gt n (by omega) k (by omega) i (by omega) hk hin hbi
  have hpn := popc_le n (by omega) (setB k i) (by omega) q2
  rw [hpk] at hpn
  have h0 := bits_pos k (by omega) i (by omega)
  obtain ⟨bs, hbs⟩ : ∃ bs, bs = (lst n F k x).1 := ⟨_, rfl⟩
  obtain ⟨wh, hwh⟩ : ∃ wh, wh = (lst n F k x).2 := ⟨_, rfl⟩
  rw [← hbs, ← hwh] at hle
  rw [← hwh] at hw
  obtain ⟨e1, e2, e3⟩ := w2_P i (by omega)
  have e5 := or_P k (by omega) i (by omega)
  have e6 := andn_P x (by omega) i (by omega)
  have e7 := or_P x (by omega) i (by omega)
  have hps := pow_split hpn
  have hsz : (2 : Nat) ^ (n - (popc k + 1)) ≤ 100 := by omega
  have hsz1 : 1 ≤ (2 : Nat) ^ (n - (popc k + 1)) := Nat.pow_pos (by omega)
  have P1 : ∀ X, Mk X b n fA fc j A c T → Below w0.heap.size w0 X → Calls Try.prog 21 #[.pointer (some ⟨b, 0, none⟩), .int .i64 (setB k i : Nat), .int .i64 (clrB x i : Nat)] X (PutE w0 b n fA fc F j T (setB k i) (clrB x i)) := fun X hX hX2 => p1 j A c T X (by rw [hpk]; omega) hX hX2
  have HP1 := Lib.hid P1
  have HP2 := Lib.hid p2
  have HLE := Lib.hid hle
  have HM := Lib.hid hM
  have HB := Lib.hid hB
  have HD := Lib.hid hd
  have HBI := Lib.hid hbi
  have HPK := Lib.hid hpk
  have HPN := Lib.hid hpn
  have HJ := Lib.hid hj
  have HPS := Lib.hid hps
  have HSZ := Lib.hid hsz
  have H0 := Lib.hid h0
  obtain ⟨u1, hu1⟩ : ∃ u, u = setB k i := ⟨_, rfl⟩
  obtain ⟨u2, hu2⟩ : ∃ u, u = clrB x i := ⟨_, rfl⟩
  obtain ⟨u3, hu3⟩ : ∃ u, u = setB x i := ⟨_, rfl⟩
  have HU1 := Lib.hid hu1
  have HU2 := Lib.hid hu2
  have HU3 := Lib.hid hu3
  rw [← hu1] at e5
  rw [← hu2] at e6
  rw [← hu3] at e7
  rcases hw with rfl | ⟨rfl, rfl, rfl⟩
  · have m0 : max ((i : Nat) : Int) 0 = (i : Nat) := by omega
    clear hle hM hB hd hbi hpk hpn p1 p2 P1 hbs hwh hu1 hu2 hu3 hj hps hsz h0 q1 q2 hsz1
    go_enter Try.func21, Try.ntmps21
    go_wp2_with fail
    go_quiet ((go_at_call 16; exact Calls.quiet_of_same (HLE.out _)))
    go_wp2_with fail
    rw [HU1.out, HU2.out]
    refine (HP1.out _ (HM.out.drewN nq) (below_drewN HB.out nq)).mono ?_
    rintro e w2 ⟨r1, j1, A1, c1', T1, d1, rfl, M1, B1, a1, a2, a3, a4, a5, a6, a7, a8, _⟩
    have hj1 : j1 + 2 ^ (n - popc (setB k i)) ≤ 100 := by have := HJ.out; have := HPS.out; rw [HPK.out] at a2 ⊢; omega
    have HJ1 := Lib.hid hj1
    have HM1 := Lib.hid M1
    have HB1 := Lib.hid B1
    have HA1 := Lib.hid a1
    have HA2 := Lib.hid a2
    have HA3 := Lib.hid a3
    have HA4 := Lib.hid a4
    have HA5 := Lib.hid a5
    have HA6 := Lib.hid a6
    have HA7 := Lib.hid a7
    have HA8 := Lib.hid a8
    clear hj1 M1 B1 a1 a2 a3 a4 a5 a6 a7 a8
    go_wp2_with fail
    rw [HU1.out, HU3.out]
    refine (HP2.out j1 A1 c1' T1 w2 HJ1.out HM1.out HB1.out).mono ?_
    rintro e w3 ⟨r2, j2, A2, c2', T2, d2, rfl, M2, B2, b1, b2, b3, b4, b5, b6, b7, b8, _⟩
    have hj2 : j2 ≤ 100 := by have := HJ1.out; rw [HPK.out] at b2 this; omega
    have r1b : -2 ≤ r1 ∧ r1 < 200 := by have := HA6.out; have := HA7.out; omega
    have r2b : -2 ≤ r2 ∧ r2 < 200 := by omega
    have hcb2 : w3.cell? ⟨b, 2, none⟩ = some (.slice A2 j2 c2') := M2.row.cell (i := 2) (by omega)
    have hbl := M2.row.lt
    have hown := M2.own
    have HR2 := Lib.hid M2.row
    have HB2 := Lib.hid B2
    have HE1 := Lib.hid b1
    have HE2 := Lib.hid b2
    have HE3 := Lib.hid b3
    have HE4 := Lib.hid b4
    have HE5 := Lib.hid b5
    have HE6 := Lib.hid b6
    have HE7 := Lib.hid b7
    have HE8 := Lib.hid b8
    clear B2 b1 b2 b3 b4 b5 b6 b7 b8 M2
    go_wp2_with (at_builtin; refine wpList_app _ rfl (.tmp 63) (.tmp 68) 29 rfl EAk rfl (hown.alloc _) rfl (l := 3) rfl (ak_rd w3 i r1 r2 49) (fun _ _ => ak1_one _ _ _ _) (by unfold maxLen; omega) (by omega) (by simp; omega) (j2 + 1) ((j2 + 1) * 3) rfl (by omega) ?_; intro A3 c3 w4 hown2 hg2 hat2 hbl2; have hr4 := (HR2.out.alloc (.cells #[.int .i64 (i : Nat), .int .i64 r1, .int .i64 r2] 49)).of_block (hbl2.block b (by omega)); have hcb4 : w4.cell? ⟨b, 2, none⟩ = some (.slice A2 j2 c2') := hr4.cell (i := 2) (by omega); have hfb4 := hr4.frozen 2; have hrs : (w4.setCell ⟨b, 2, none⟩ (.slice A3 (j2 + 1) c3)).rowIs b 46 3 (mkC n fA (2 ^ n) fc (.slice A3 (j2 + 1) c3)) := (hr4.set 2 _).congr (fun q hq => mkC_set q hq); have hcs : (w4.setCell ⟨b, 2, none⟩ (.slice A3 (j2 + 1) c3)).cell? ⟨b, 2, none⟩ = some (.slice A3 (j2 + 1) c3) := hrs.cell (i := 2) (by omega); have HRS := Lib.hid hrs; have HOW := Lib.hid hown2; have HBL := Lib.hid hbl2; clear hown2 hg2 hat2 hbl2 hr4 hrs)
    go_ret
    refine node_ok (i := i) hin (HBI.out) HPK.out HPN.out H0.out HA1.out HA2.out HA3.out HA4.out HA5.out HA6.out HA7.out HA8.out HE1.out HE2.out HE3.out HE4.out HE5.out HE6.out HE7.out HE8.out HD.out ?_ (A3 := A3) (c3 := c3) ⟨HRS.out, (HOW.out.congr fun q hq => ak_cat (by omega)).of_block fun g hg => Below.heap_setCell _ _ _ _ (by have := (HOW.out.lt g hg).1; show g ≠ b; omega)⟩
    exact (HB2.out.trans (((Below.refl _ _).alloc HB2.out.size _).trans (HBL.out.mono (by have := HB2.out.size; omega)))).setCell hb0 _
  · have m0 : max (-1 : Int) 0 = 0 := rfl
    have e5' : bits .or .i64 0 1 = ((u1 : Nat) : Int) := by rw [HU1.out]; decide +kernel
    have e6' : bits .andNot .i64 ((x : Nat) : Int) 1 = ((u2 : Nat) : Int) := by simpa using e6
    have e7' : bits .or .i64 ((x : Nat) : Int) 1 = ((u3 : Nat) : Int) := by simpa using e7
    clear e1 e2 e3 e5 e6 e7
    clear hle hM hB hd hbi hpk hpn p1 p2 P1 hbs hwh hu1 hu2 hu3 hj hps hsz h0 q1 q2 hsz1
    go_enter Try.func21, Try.ntmps21
    go_wp2_with fail
    go_quiet ((go_at_call 16; exact Calls.quiet_of_same (HLE.out _)))
    go_wp2_with fail
    rw [HU1.out, HU2.out]
    refine (HP1.out _ (HM.out.drewN nq) (below_drewN HB.out nq)).mono ?_
    rintro e w2 ⟨r1, j1, A1, c1', T1, d1, rfl, M1, B1, a1, a2, a3, a4, a5, a6, a7, a8, _⟩
    have hj1 : j1 + 2 ^ (n - popc (setB 0 0)) ≤ 100 := by have := HJ.out; have := HPS.out; rw [HPK.out] at a2 ⊢; omega
    have HJ1 := Lib.hid hj1
    have HM1 := Lib.hid M1
    have HB1 := Lib.hid B1
    have HA1 := Lib.hid a1
    have HA2 := Lib.hid a2
    have HA3 := Lib.hid a3
    have HA4 := Lib.hid a4
    have HA5 := Lib.hid a5
    have HA6 := Lib.hid a6
    have HA7 := Lib.hid a7
    have HA8 := Lib.hid a8
    clear hj1 M1 B1 a1 a2 a3 a4 a5 a6 a7 a8
    go_wp2_with fail
    rw [HU1.out, HU3.out]
    refine (HP2.out j1 A1 c1' T1 w2 HJ1.out HM1.out HB1.out).mono ?_
    rintro e w3 ⟨r2, j2, A2, c2', T2, d2, rfl, M2, B2, b1, b2, b3, b4, b5, b6, b7, b8, _⟩
    have hj2 : j2 ≤ 100 := by have := HJ1.out; rw [HPK.out] at b2 this; omega
    have r1b : -2 ≤ r1 ∧ r1 < 200 := by have := HA6.out; have := HA7.out; omega
    have r2b : -2 ≤ r2 ∧ r2 < 200 := by omega
    have hcb2 : w3.cell? ⟨b, 2, none⟩ = some (.slice A2 j2 c2') := M2.row.cell (i := 2) (by omega)
    have hbl := M2.row.lt
    have hown := M2.own
    have HR2 := Lib.hid M2.row
    have HB2 := Lib.hid B2
    have HE1 := Lib.hid b1
    have HE2 := Lib.hid b2
    have HE3 := Lib.hid b3
    have HE4 := Lib.hid b4
    have HE5 := Lib.hid b5
    have HE6 := Lib.hid b6
    have HE7 := Lib.hid b7
    have HE8 := Lib.hid b8
    clear B2 b1 b2 b3 b4 b5 b6 b7 b8 M2
    go_wp2_with (at_builtin; refine wpList_app _ rfl (.tmp 63) (.tmp 68) 29 rfl EAk rfl (hown.alloc _) rfl (l := 3) rfl (ak_rd w3 0 r1 r2 49) (fun _ _ => ak1_one _ _ _ _) (by unfold maxLen; omega) (by omega) (by simp; omega) (j2 + 1) ((j2 + 1) * 3) rfl (by omega) ?_; intro A3 c3 w4 hown2 hg2 hat2 hbl2; have hr4 := (HR2.out.alloc (.cells #[.int .i64 (0 : Nat), .int .i64 r1, .int .i64 r2] 49)).of_block (hbl2.block b (by omega)); have hcb4 : w4.cell? ⟨b, 2, none⟩ = some (.slice A2 j2 c2') := hr4.cell (i := 2) (by omega); have hfb4 := hr4.frozen 2; have hrs : (w4.setCell ⟨b, 2, none⟩ (.slice A3 (j2 + 1) c3)).rowIs b 46 3 (mkC n fA (2 ^ n) fc (.slice A3 (j2 + 1) c3)) := (hr4.set 2 _).congr (fun q hq => mkC_set q hq); have hcs : (w4.setCell ⟨b, 2, none⟩ (.slice A3 (j2 + 1) c3)).cell? ⟨b, 2, none⟩ = some (.slice A3 (j2 + 1) c3) := hrs.cell (i := 2) (by omega); have HRS := Lib.hid hrs; have HOW := Lib.hid hown2; have HBL := Lib.hid hbl2; clear hown2 hg2 hat2 hbl2 hr4 hrs)
    go_ret
    refine node_ok (i := 0) hin (HBI.out) HPK.out HPN.out H0.out HA1.out HA2.out HA3.out HA4.out HA5.out HA6.out HA7.out HA8.out HE1.out HE2.out HE3.out HE4.out HE5.out HE6.out HE7.out HE8.out (fun d1 d2 h1 h2 => by have := HD.out d1 d2 h1 h2; simpa using this) ?_ (A3 := A3) (c3 := c3) ⟨HRS.out, (HOW.out.congr fun q hq => ak_cat (by omega)).of_block fun g hg => Below.heap_setCell _ _ _ _ (by have := (HOW.out.lt g hg).1; show g ≠ b; omega)⟩
    exact (HB2.out.trans (((Below.refl _ _).alloc HB2.out.size _).trans (HBL.out.mono (by have := HB2.out.size; omega)))).setCell hb0 _
set_option maxRecDepth 100000 in
set_option maxHeartbeats 4000000 in
theorem put_any (w0 : World) (b n : Nat) (fA : Option Addr) (fc : Nat) (F : Nat → Bool) (h4 : n ≤ 4) (n1 : 1 ≤ n) (hT : Tb w0 fA n F) (hb0 : w0.heap.size ≤ b) : ∀ g k x, k < 2 ^ n → x < 2 ^ n → 2 ^ n ≤ k + g → PutC w0 b n fA fc F k x
  | 0, k, x, hk, hx, hg => absurd hg (by omega)
  | g + 1, k, x, hk, hx, hg => by
    intro j A c T w hj hM hB
    have hp := p16 h4
    have hle : ∀ m, Calls Try.prog 16 #[.int .i64 (n : Nat), .slice fA (2 ^ n) fc, .int .i64 (k : Nat), .int .i64 (x : Nat)] (w.drewN m) fun e w' => e = .returned (.tuple #[.int .i64 ((lst n F k x).1 : Nat), .int .i64 (lst n F k x).2]) ∧ w' = w.drewN m := fun m =>
      (least_any fA n fc F (w.drewN m) ((hT.below hB).drewN m) h4 16 k x hk hx (by omega)).mono fun e w' h => ⟨h.1, h.2.symm⟩
    by_cases hl : smW F (2 ^ n) k x = true ∧ 0 < k
    · obtain ⟨hs, hk0⟩ := hl
      have c0 : w.cell? ⟨b, 0, none⟩ = some (.int .i64 (n : Nat)) := hM.row.cell (i := 0) (by omega)
      have c1 : w.cell? ⟨b, 1, none⟩ = some (.slice fA (2 ^ n) fc) := hM.row.cell (i := 1) (by omega)
      rw [lst_same hs] at hle
      have HLE := Lib.hid hle
      have HS := Lib.hid hs
      have HM := Lib.hid hM
      have HB := Lib.hid hB
      obtain ⟨fb, fo, rfl, _, hcx⟩ := (hT.below hB).at_ hx
      clear hle hs hM hB hT
      rcases hf : F x with _ | _
      · rw [hf] at hcx
        have HF := Lib.hid hf
        clear hf
        go_enter Try.func21, Try.ntmps21
        go_wp2_with fail
        go_quiet ((go_at_call 16; exact Calls.quiet_of_same (HLE.out _)))
        go_wp2_with fail
        go_ret
        exact leaf_ok (HM.out.drewN _) (below_drewN HB.out _) HS.out hk0 _ (by rw [HF.out]; rfl)
      · rw [hf] at hcx
        have HF := Lib.hid hf
        clear hf
        go_enter Try.func21, Try.ntmps21
        go_wp2_with fail
        go_quiet ((go_at_call 16; exact Calls.quiet_of_same (HLE.out _)))
        go_wp2_with fail
        go_ret
        exact leaf_ok (HM.out.drewN _) (below_drewN HB.out _) HS.out hk0 _ (by rw [HF.out]; rfl)
    · obtain ⟨i, hin, hbi, hw, hd⟩ := node_bit h4 n1 F hk hx (by
        cases hs : smW F (2 ^ n) k x with
        | false => exact .inl rfl
        | true => exact .inr (by
            rcases Nat.eq_zero_or_pos k with h | h
            · exact h
            · exact absurd ⟨hs, h⟩ hl))
      obtain ⟨q1, q2, q3⟩ := setB_gt n (by omega) k (by omega) i (by omega) hk hin hbi
      obtain ⟨b1, b2⟩ := sets_lt n (by omega) x (by omega) i (by omega) hx hin
      exact node_any w0 b n fA fc F h4 hb0 k x i hk hx hin hbi hw hd j A c T w hj hM hB hle (put_any w0 b n fA fc F h4 n1 hT hb0 g (setB k i) (clrB x i) q2 b2 (by omega)) (put_any w0 b n fA fc F h4 n1 hT hb0 g (setB k i) (setB x i) q2 b1 (by omega))
end Go.Proofs.Ythaabgknolahaaa
