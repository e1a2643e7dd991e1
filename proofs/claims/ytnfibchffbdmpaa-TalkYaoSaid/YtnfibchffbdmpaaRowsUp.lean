/- A bit more than the rows ask will do; and power. No condition. -/
import Derived.Test.YtnfibchffbdmpaaTreeLaw
import Derived.Test.YtnfibchffbdmpaaTalkRows
import Derived.IntWalk
namespace Go.Proofs.Ytnfibchffbdmpaa
open Go.ChangeShapes Go.WideShapes Go.ChangeAt Go.RowKit
set_option linter.unusedVariables false
set_option linter.unusedSimpArgs false
set_option synthInstance.maxHeartbeats 400000
set_option synthInstance.maxSize 1024
theorem word_of (g : Nat → Bool) : ∃ w, w < 16 ∧ ∀ j, j < 4 → hbT w j = g j := by
  have key : ∀ a b c d : Bool, ∃ w, w < 16 ∧ hbT w 0 = a ∧ hbT w 1 = b ∧ hbT w 2 = c ∧ hbT w 3 = d := by decide +kernel
  obtain ⟨w, hw, h0, h1, h2, h3⟩ := key (g 0) (g 1) (g 2) (g 3)
  refine ⟨w, hw, fun j hj => ?_⟩
  have : j = 0 ∨ j = 1 ∨ j = 2 ∨ j = 3 := by omega
  rcases this with rfl | rfl | rfl | rfl
  · exact h0
  · exact h1
  · exact h2
  · exact h3
theorem and_bit : ∀ r : Nat, r < 16 → ∀ w : Nat, w < 16 → r &&& w < 16 ∧ (r &&& w) &&& r = r &&& w ∧ ∀ i, i < 4 → hbT (r &&& w) i = (hbT r i && hbT w i) := by decide +kernel
theorem no_bit : ∀ i, i < 4 → hbT 0 i = false := by decide +kernel
theorem al_yes {R : Nat → SB} {n m r c : Nat} (v : Bool) (h : ∀ i, i < n → ∀ j, j < m → hbT r i = true → hbT c j = true → (R i).f j = v) : alT R n m r c = true := by
  have key : inT R m r c (!v) n = false := by
    cases e : inT R m r c (!v) n with
    | false => rfl
    | true =>
      obtain ⟨i, hi, j, hj, a1, a2, a3⟩ := inT_iff.1 e
      rw [h i hi j hj a1 a2] at a3
      cases v <;> cases a3
  unfold alT
  cases v
  · have k2 : inT R m r c true n = false := key
    rw [k2]; simp
  · have k2 : inT R m r c false n = false := key
    rw [k2]; rfl
/-- rows alike: a bit -/
theorem up_same {R : Nat → SB} {n m r c : Nat} (hn : n ≤ 4) (hm : m ≤ 4) (hr : r < 16) (hc : c < 16) (r0 : r ≠ 0) (c0 : c ≠ 0) (h : ∀ i, i < n → ∀ i', i' < n → hbT r i = true → hbT r i' = true → ∀ j, j < m → (R i).f j = (R i').f j) : SY (alT R n m) r c ≤ 1 := by
  by_cases hex : ∃ i, i < n ∧ hbT r i = true
  · obtain ⟨i0, hi0, hb0⟩ := hex
    obtain ⟨w, hw, hwb⟩ := word_of fun j => (R i0).f j
    obtain ⟨s1, s2, s3⟩ := and_bit c hc w hw
    obtain ⟨s, hs⟩ : ∃ s, s = c &&& w := ⟨_, rfl⟩
    rw [← hs] at s1 s2 s3
    have hval : ∀ i, i < n → ∀ j, j < m → hbT r i = true → hbT c j = true → (R i).f j = hbT s j := fun i hi j hj a1 a2 => by
      rw [h i hi i0 hi0 a1 hb0 j hj, s3 j (by omega), a2, hwb j (by omega)]; rfl
    by_cases e0 : s = 0
    · rw [SY_zero hr hc r0 c0 (al_yes false fun i hi j hj a1 a2 => by rw [hval i hi j hj a1 a2, e0, no_bit j (by omega)])]; omega
    · by_cases e1 : s = c
      · rw [SY_zero hr hc r0 c0 (al_yes true fun i hi j hj a1 a2 => by rw [hval i hi j hj a1 a2, e1, a2])]; omega
      · obtain ⟨_, _, _, _, q5, q6, _⟩ := cut_facts c hc s s1 e0 e1 s2
        have a := SY_cols (al := alT R n m) hr hc r0 c0 s1 e0 e1 s2
        have b := SY_zero hr s1 r0 e0 (al_yes (R := R) (n := n) (m := m) true fun i hi j hj a1 a2 => by
          rw [hval i hi j hj a1 ((xor_bit c hc s s1 s2 j (by omega)).2.2 a2), a2])
        have d := SY_zero hr q5 r0 q6 (al_yes (R := R) (n := n) (m := m) false fun i hi j hj a1 a2 => by
          rw [(xor_bit c hc s s1 s2 j (by omega)).2.1, Bool.and_eq_true] at a2
          rw [hval i hi j hj a1 a2.1]
          simpa using a2.2)
        omega
  · rw [SY_zero hr hc r0 c0 (al_yes true fun i hi j hj a1 _ => absurd ⟨i, hi, a1⟩ hex)]; omega
/-- two kinds of rows: two bits -/
theorem up_two {R : Nat → SB} {n m r c : Nat} (hn : n ≤ 4) (hm : m ≤ 4) (hr : r < 16) (hc : c < 16) (r0 : r ≠ 0) (c0 : c ≠ 0) (f g : Nat → Bool) (h : ∀ i, i < n → hbT r i = true → (∀ j, j < m → (R i).f j = f j) ∨ ∀ j, j < m → (R i).f j = g j) : SY (alT R n m) r c ≤ 2 := by
  obtain ⟨w, hw, hwb⟩ := word_of fun i => decide (∀ j, j < m → (R i).f j = f j)
  obtain ⟨s1, s2, s3⟩ := and_bit r hr w hw
  obtain ⟨s, hs⟩ : ∃ s, s = r &&& w := ⟨_, rfl⟩
  rw [← hs] at s1 s2 s3
  have hyes : ∀ i, i < n → hbT s i = true → ∀ j, j < m → (R i).f j = f j := fun i hi a => by
    rw [s3 i (by omega), Bool.and_eq_true, hwb i (by omega)] at a
    exact of_decide_eq_true a.2
  have hno : ∀ i, i < n → hbT r i = true → hbT s i = false → ∀ j, j < m → (R i).f j = g j := fun i hi a b => by
    rw [s3 i (by omega), a, hwb i (by omega)] at b
    rcases h i hi a with k | k
    · have : decide (∀ j, j < m → (R i).f j = f j) = false := b
      exact absurd k (of_decide_eq_false this)
    · exact k
  by_cases e0 : s = 0
  · have := up_same hn hm hr hc r0 c0 (R := R) (n := n) (m := m) fun i hi i' hi' a b j hj => by
      rw [hno i hi a (by rw [e0]; exact no_bit i (by omega)) j hj, hno i' hi' b (by rw [e0]; exact no_bit i' (by omega)) j hj]
    omega
  · by_cases e1 : s = r
    · have := up_same hn hm hr hc r0 c0 (R := R) (n := n) (m := m) fun i hi i' hi' a b j hj => by
        rw [hyes i hi (by rw [e1]; exact a) j hj, hyes i' hi' (by rw [e1]; exact b) j hj]
      omega
    · obtain ⟨_, _, _, _, q5, q6, _⟩ := cut_facts r hr s s1 e0 e1 s2
      have a := SY_rows (al := alT R n m) hr hc r0 c0 s1 e0 e1 s2
      have b := up_same hn hm s1 hc e0 c0 (R := R) (n := n) (m := m) fun i hi i' hi' a b j hj => by
        rw [hyes i hi a j hj, hyes i' hi' b j hj]
      have d := up_same hn hm q5 hc q6 c0 (R := R) (n := n) (m := m) fun i hi i' hi' a b j hj => by
        rw [(xor_bit r hr s s1 s2 i (by omega)).2.1, Bool.and_eq_true] at a
        rw [(xor_bit r hr s s1 s2 i' (by omega)).2.1, Bool.and_eq_true] at b
        rw [hno i hi a.1 (by simpa using a.2) j hj, hno i' hi' b.1 (by simpa using b.2) j hj]
      omega
theorem two_bits : ∀ r : Nat, r < 16 → pcT r ≤ 2 → ∃ x, x < 4 ∧ ∃ y, y < 4 ∧ ∀ i, i < 4 → hbT r i = true → i = x ∨ i = y := by decide +kernel
theorem half_cut : ∀ r : Nat, r < 16 → 3 ≤ pcT r → ∃ s, s < 16 ∧ s ≠ 0 ∧ s ≠ r ∧ s &&& r = s ∧ pcT s ≤ 2 ∧ pcT (r ^^^ s) ≤ 2 := by decide +kernel
theorem up_few {R : Nat → SB} {n m r c : Nat} (hn : n ≤ 4) (hm : m ≤ 4) (hr : r < 16) (hc : c < 16) (r0 : r ≠ 0) (c0 : c ≠ 0) (h : pcT r ≤ 2) : SY (alT R n m) r c ≤ 2 := by
  obtain ⟨x, hx, y, hy, hxy⟩ := two_bits r hr h
  refine up_two hn hm hr hc r0 c0 (fun j => (R x).f j) (fun j => (R y).f j) fun i hi a => ?_
  rcases hxy i (by omega) a with e | e
  · exact .inl fun j _ => by rw [e]
  · exact .inr fun j _ => by rw [e]
theorem up_all {R : Nat → SB} {n m r c : Nat} (hn : n ≤ 4) (hm : m ≤ 4) (hr : r < 16) (hc : c < 16) (r0 : r ≠ 0) (c0 : c ≠ 0) : SY (alT R n m) r c ≤ 3 := by
  by_cases h : pcT r ≤ 2
  · have := up_few (R := R) (n := n) (m := m) hn hm hr hc r0 c0 h; omega
  · obtain ⟨s, s1, e0, e1, s2, p1, p2⟩ := half_cut r hr (by omega)
    obtain ⟨_, _, _, _, q5, q6, _⟩ := cut_facts r hr s s1 e0 e1 s2
    have a := SY_rows (al := alT R n m) hr hc r0 c0 s1 e0 e1 s2
    have b := up_few (R := R) (n := n) (m := m) hn hm s1 hc e0 c0 p1
    have d := up_few (R := R) (n := n) (m := m) hn hm q5 hc q6 c0 p2
    omega
/-- the least number of which the power of 2 is no less -/
def pwQ (x : Nat) : Nat := if x ≤ 1 then 0 else if x ≤ 2 then 1 else if x ≤ 4 then 2 else if x ≤ 8 then 3 else 4
theorem pwQ_le {x k : Nat} (h : x ≤ 2 ^ k) (hx : x ≤ 16) : pwQ x ≤ k := by
  unfold pwQ
  rcases Nat.lt_or_ge k 4 with l | l
  · have : k = 0 ∨ k = 1 ∨ k = 2 ∨ k = 3 := by omega
    rcases this with rfl | rfl | rfl | rfl
    · rw [if_pos h]; exact Nat.le_refl _
    · rw [if_pos (show x ≤ 2 from h)]; split <;> omega
    · rw [if_pos (show x ≤ 4 from h)]; (repeat' split) <;> omega
    · rw [if_pos (show x ≤ 8 from h)]; (repeat' split) <;> omega
  · (repeat' split) <;> omega
theorem le_rows {R : Nat → SB} {n m : Nat} (hn : 1 ≤ n ∧ n ≤ 4) (hm : 1 ≤ m ∧ m ≤ 4) (e x : Nat → Nat) (h1 : ∀ i, i < n → e i < cntR R m n ∧ ∀ j, j < m → (R i).f j = (R (x (e i))).f j) : LeT n m R ≤ pwQ (cntR R m n) + 1 := by
  have f1 := pc_full n hn.2 hn.1
  have f2 := pc_full m hm.2 hm.1
  obtain ⟨q, hq⟩ : ∃ q, q = cntR R m n := ⟨_, rfl⟩
  rw [← hq] at h1 ⊢
  unfold LeT pwQ
  by_cases a1 : q ≤ 1
  · rw [if_pos a1]
    exact up_same hn.2 hm.2 f1.2 f2.2 (by omega) (by omega) fun i hi i' hi' _ _ j hj => by
      rw [(h1 i hi).2 j hj, (h1 i' hi').2 j hj]
      have := (h1 i hi).1
      have := (h1 i' hi').1
      rw [show e i = e i' by omega]
  · rw [if_neg a1]
    by_cases a2 : q ≤ 2
    · rw [if_pos a2]
      refine up_two hn.2 hm.2 f1.2 f2.2 (by omega) (by omega) (fun j => (R (x 0)).f j) (fun j => (R (x 1)).f j) fun i hi _ => ?_
      have := (h1 i hi).1
      have hc : e i = 0 ∨ e i = 1 := by omega
      rcases hc with k | k
      · exact .inl fun j hj => by rw [(h1 i hi).2 j hj, k]
      · exact .inr fun j hj => by rw [(h1 i hi).2 j hj, k]
    · rw [if_neg a2]
      have := up_all (R := R) (n := n) (m := m) hn.2 hm.2 f1.2 f2.2 (r := 2 ^ n - 1) (c := 2 ^ m - 1) (by omega) (by omega)
      (repeat' split) <;> omega
set_option maxRecDepth 100000 in
theorem power_any (x : Nat) (hx : x ≤ 16) (w : World) : Calls Try.prog 12 #[.int .i64 (x : Nat)] w fun e w' => e = .returned (.int .i64 (pwQ x : Nat)) ∧ w = w' := by
  have hq : (x ≤ 1 ∧ pwQ x = 0) ∨ (1 < x ∧ x ≤ 2 ∧ pwQ x = 1) ∨ (2 < x ∧ x ≤ 4 ∧ pwQ x = 2) ∨ (4 < x ∧ x ≤ 8 ∧ pwQ x = 3) ∨ (8 < x ∧ pwQ x = 4) := by
    unfold pwQ
    (repeat' split) <;> omega
  obtain ⟨q, hqe⟩ : ∃ q, q = pwQ x := ⟨_, rfl⟩
  rw [← hqe] at hq ⊢
  have HQ := Lib.hid hq
  clear hq hqe
  go_enter Try.func12, Try.ntmps12
  go_wp2_with fail
  go_loop [3] (fun s3 => ∃ k : Int, (k = 0 ∨ k = 1 ∨ k = 2 ∨ k = 3 ∨ k = 4) ∧ s3 = .int .i64 k ∧ Hid (k ≤ (q : Int))) (fun s3 => 5 - (intOf s3).toNat)
  case atStart => exact ⟨0, .inl rfl, rfl, Lib.hid (by omega)⟩
  case round =>
    obtain ⟨k, hk, rfl, HK⟩ := hrel
    rcases hk with rfl | rfl | rfl | rfl | rfl
    · by_cases hx1 : 1 < x
      · go_wp2_with fail
        go_round
        case rel => exact ⟨1, by omega, rfl, Lib.hid (by have := HQ.out; omega)⟩
        case measure => simp [intOf]
      · have he : (0 : Int) = (q : Int) := by have := HQ.out; omega
        have HE := Lib.hid he
        clear he
        go_wp2_with fail
        go_ret
        exact ⟨ret_int HE.out, rfl⟩
    · by_cases hx1 : 2 < x
      · go_wp2_with fail
        go_round
        case rel => exact ⟨2, by omega, rfl, Lib.hid (by have := HQ.out; omega)⟩
        case measure => simp [intOf]
      · have he : (1 : Int) = (q : Int) := by have := HQ.out; have := HK.out; omega
        have HE := Lib.hid he
        clear he
        go_wp2_with fail
        go_ret
        exact ⟨ret_int HE.out, rfl⟩
    · by_cases hx1 : 4 < x
      · go_wp2_with fail
        go_round
        case rel => exact ⟨3, by omega, rfl, Lib.hid (by have := HQ.out; omega)⟩
        case measure => simp [intOf]
      · have he : (2 : Int) = (q : Int) := by have := HQ.out; have := HK.out; omega
        have HE := Lib.hid he
        clear he
        go_wp2_with fail
        go_ret
        exact ⟨ret_int HE.out, rfl⟩
    · by_cases hx1 : 8 < x
      · go_wp2_with fail
        go_round
        case rel => exact ⟨4, by omega, rfl, Lib.hid (by have := HQ.out; omega)⟩
        case measure => simp [intOf]
      · have he : (3 : Int) = (q : Int) := by have := HQ.out; have := HK.out; omega
        have HE := Lib.hid he
        clear he
        go_wp2_with fail
        go_ret
        exact ⟨ret_int HE.out, rfl⟩
    · have he : (4 : Int) = (q : Int) := by have := HQ.out; have := HK.out; omega
      have HE := Lib.hid he
      clear he
      go_wp2_with fail
      go_ret
      exact ⟨ret_int HE.out, rfl⟩
end Go.Proofs.Ytnfibchffbdmpaa
