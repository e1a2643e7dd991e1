/- What two.prime, two.Pack and two.Open compute. Conditions: as each theorem states. -/
import Derived.Test.YtcbifknjoijlkaaInts
import Derived.Test.YtcbifknjoijlkaaTwoMath
namespace Go.Proofs.Ytcbifknjoijlkaa
open TwoM Go.ChangeShapes Go.WideShapes Go.ChangeAt Go.RowKit
set_option linter.unusedVariables false
set_option maxRecDepth 100000 in
theorem prime_any (i : Nat) (w : World) (hi : i < 4) :
    Calls Try.prog 8 #[.int .i64 i] w fun e w' => e = .returned (.int .i64 (pr i)) ∧ Below w.heap.size w w' := by
  match i, hi with
  | 0, _ =>
    go_enter Try.func8, Try.ntmps8
    go_wp2
    go_ret
    exact ⟨rfl, (Below.refl _ _).alloc (Nat.le_refl _) _⟩
  | 1, _ =>
    go_enter Try.func8, Try.ntmps8
    go_wp2
    go_ret
    exact ⟨rfl, (Below.refl _ _).alloc (Nat.le_refl _) _⟩
  | 2, _ =>
    go_enter Try.func8, Try.ntmps8
    go_wp2
    go_ret
    exact ⟨rfl, (Below.refl _ _).alloc (Nat.le_refl _) _⟩
  | 3, _ =>
    go_enter Try.func8, Try.ntmps8
    go_wp2
    go_ret
    exact ⟨rfl, (Below.refl _ _).alloc (Nat.le_refl _) _⟩
set_option maxRecDepth 100000 in
theorem pack_long (A : Option Addr) (n c : Nat) (w : World) (hn : ¬ (1 ≤ n ∧ n ≤ 4)) (hm : n ≤ maxLen) :
    Calls Try.prog 5 #[.slice A n c] w fun e w' => e = .returned (.tuple #[.int .i64 0, .int .i64 1]) ∧ w = w' := by
  unfold maxLen at hm
  by_cases h0 : n < 1
  · clear hn
    go_enter Try.func5, Try.ntmps5
    go_wp2_with fail
    go_ret2
    exact ⟨rfl, rfl⟩
  · have h1 : 4 < n := by omega
    clear hn
    go_enter Try.func5, Try.ntmps5
    go_wp2_with fail
    go_ret2
    exact ⟨rfl, rfl⟩
def F (f : Nat → Int) : Nat → Nat := fun i => (f i).toNat
def okP (n : Nat) (f : Nat → Int) : Prop := ∀ i, i < n → 0 ≤ f i ∧ f i ≤ 4
def PackRes (n : Nat) (f : Nat → Int) (w : World) (e : Ending) (w' : World) : Prop :=
  ((okP n f ∧ e = .returned (.tuple #[.int .i64 (T (F f) 0 n : Nat), .int .i64 0])) ∨ (¬ okP n f ∧ e = .returned (.tuple #[.int .i64 0, .int .i64 4]))) ∧ Below w.heap.size w w'
set_option maxRecDepth 100000 in
theorem pack_any (A : Option Addr) (n c : Nat) (f : Nat → Int) (w : World) (h : Rd w A n (fun i => .int .i64 (f i))) (n1 : 1 ≤ n) (n4 : n ≤ 4) :
    Calls Try.prog 5 #[.slice A n c] w (PackRes n f w) := by
  go_enter Try.func5, Try.ntmps5
  go_wp2_with fail
  go_loopw [17, 4] (fun i v wr => ∃ k : Nat, k ≤ n ∧ i = .int .i64 k ∧ v = .int .i64 (T (F f) 0 k : Nat) ∧ okP k f ∧ Below w.heap.size w wr) (fun i _ _ => n - (intOf i).toNat)
  case atStart => exact ⟨0, Nat.zero_le _, rfl, rfl, fun j hj => absurd hj (Nat.not_lt_zero _), Below.refl _ _⟩
  case round =>
    obtain ⟨wo, rfl⟩ : ∃ wo : World, wo = wr := ⟨_, rfl⟩
    obtain ⟨k, hk, rfl, rfl, hall0, hbel⟩ := hrel
    have hall := Lib.hid hall0
    clear hall0
    by_cases hlt : k < n
    · obtain ⟨b, off, rfl, hb, hc0⟩ := h.at_ hlt
      have hc : wo.cell? ⟨b, off + k, none⟩ = some (.int .i64 (f k)) := (hbel.cell (p := ⟨b, off + k, none⟩) hb).trans hc0
      have H := Lib.hid h
      clear h hc0
      by_cases h0 : f k < 0
      · go_wp2_with fail
        go_ret2
        exact ⟨.inr ⟨fun hh => by have := hh k hlt; omega, rfl⟩, hbel⟩
      · by_cases h4 : 4 < f k
        · go_wp2_with fail
          go_ret2
          exact ⟨.inr ⟨fun hh => by have := hh k hlt; omega, rfl⟩, hbel⟩
        · have hF : ((F f k : Nat) : Int) = f k := by simp only [F]; omega
          have hF4 : F f k ≤ 4 := by simp only [F]; omega
          have HF := Lib.hid hF
          clear hF
          have hall' : ∀ i, i < k → F f i ≤ 4 := fun i hi => by have := hall.out i hi; simp only [F]; omega
          obtain ⟨P, hP⟩ : ∃ P, P = T (F f) 0 k := ⟨_, rfl⟩
          have hst : ∀ t, t ≤ 4 → P * pr k ^ t ≤ 1944810000 := fun t ht => by rw [hP]; exact step_bd (by omega) hall' ht
          have HS := Lib.hid hst
          have e0 : P * pr k ^ 0 = P := by simp
          rw [← hP]
          have HP := Lib.hid hP
          clear hst hP hall'
          go_wp2_with fail
          go_loopw [29, 4] (fun i v wr => ∃ t : Nat, t ≤ F f k ∧ i = .int .i64 t ∧ v = .int .i64 ((P * pr k ^ t : Nat) : Int) ∧ Below w.heap.size w wr) (fun i _ _ => F f k - (intOf i).toNat)
          case atStart => exact ⟨0, Nat.zero_le _, rfl, by rw [e0], hbel⟩
          case round =>
            obtain ⟨t, ht, rfl, rfl, hbel1⟩ := hrel
            by_cases htl : (t : Int) < f k
            · have htF : t < F f k := by have := HF.out; omega
              have hb1 := HS.out (t + 1) (by omega)
              have hb0 := HS.out t (by omega)
              rw [Nat.pow_succ, ← Nat.mul_assoc] at hb1
              obtain ⟨V, hV⟩ : ∃ V, V = P * pr k ^ t := ⟨_, rfl⟩
              rw [← hV] at hb0 hb1 ⊢
              have m0 : (0 : Int) ≤ (V : Int) * (pr k : Int) := by rw [← Int.natCast_mul]; omega
              have m1 : (V : Int) * (pr k : Int) ≤ 1944810000 := by rw [← Int.natCast_mul]; omega
              have HV := Lib.hid hV
              clear hV hb1 e0
              go_wp2_with (go_at_call 8; refine (prime_any k _ (by omega)).mono ?_; rintro e w2 ⟨rfl, hb2⟩)
              go_roundw
              case rel => exact ⟨t + 1, by omega, by go_num, by rw [Nat.pow_succ, ← Nat.mul_assoc, ← HV.out, Int.natCast_mul], hbel1.trans (hb2.mono hbel1.size)⟩
              case measure => simp [intOf]; omega
            · have htF : t = F f k := by have := HF.out; omega
              have HT := Lib.hid htF
              clear htF
              go_wp2_with fail
              go_roundw
              case rel => exact ⟨k + 1, by omega, by go_num, by rw [T_snoc, Nat.zero_add, ← HP.out, ← HT.out], fun j hj => by
                by_cases e : j = k
                · subst e; omega
                · exact hall.out j (by omega), hbel1⟩
              case measure => simp [intOf]; omega
    · obtain rfl : k = n := by omega
      go_wp2_with fail
      go_ret2
      exact ⟨.inl ⟨hall.out, rfl⟩, hbel⟩
theorem info_int : (Try.prog.info? 3).map (fun i => (i.zero, i.size, i.bytes)) = some (some (.int .i64 0), 1, 8) := by kernel_rfl
set_option maxRecDepth 100000 in
theorem open_good (m : Nat) (e : Nat → Nat) (w : World) (m1 : 1 ≤ m) (m4 : m ≤ 4) (he : ∀ i, i < m → e i ≤ 100) (hN : T e 0 m ≤ 9223372036854775807) :
    Calls Try.prog 6 #[.int .i64 m, .int .i64 (T e 0 m : Nat)] w fun r w' => ∃ A' c', r = .returned (.tuple #[.slice A' m c', .int .i64 0]) ∧ Rd w' A' m (fun i => .int .i64 (e i : Nat)) ∧ Below w.heap.size w w' := by
  have hmk := fun W => run_make_row' (P := Try.prog) 22 3 (.int .i64 0) 8 Try.underlying22 info_int rfl .i64 .i64 m (by omega) (by omega) W
  have htail : ∀ k, k ≤ m → 1 ≤ T e k (m - k) ∧ T e k (m - k) ≤ 9223372036854775807 := fun k hk => ⟨T_pos e k _, Nat.le_trans (T_tail_le e hk) hN⟩
  have hleft : ∀ k t, k < m → 1 ≤ pr k ^ (e k - t) * T e (k + 1) (m - (k + 1)) ∧ pr k ^ (e k - t) * T e (k + 1) (m - (k + 1)) ≤ 9223372036854775807 := fun k t hk =>
    ⟨Nat.mul_pos (Nat.pow_pos (pr_pos k)) (T_pos e _ _), Nat.le_trans (left_le e hk) hN⟩
  have HT := Lib.hid htail
  have HL := Lib.hid hleft
  have HE := Lib.hid he
  have h0 := htail 0 (by omega)
  rw [Nat.sub_zero] at h0
  obtain ⟨N0, hN0⟩ : ∃ N0, N0 = T e 0 m := ⟨_, rfl⟩
  rw [← hN0] at h0 ⊢
  have HN := Lib.hid hN0
  obtain ⟨h00, h01⟩ := h0
  clear htail hleft he hN hN0
  go_enter Try.func6, Try.ntmps6
  go_wp2_with fail
  go_loopw [21, 1] (fun i v wr => ∃ k : Nat, k ≤ m ∧ i = .int .i64 k ∧ v = .int .i64 (T e k (m - k) : Nat) ∧ wr.rowIs w.heap.size 3 m (fun j => .int .i64 (if j < k then (e j : Int) else 0)) ∧ Below w.heap.size w wr) (fun i _ _ => m - (intOf i).toNat)
  case atStart => exact ⟨0, Nat.zero_le _, rfl, by rw [HN.out, Nat.sub_zero], (World.rowIs_made w (.int .i64 0) m 3).congr (fun i hi => by simp), (Below.refl _ _).alloc (Nat.le_refl _) _⟩
  case round =>
    obtain ⟨wo, rfl⟩ : ∃ wo : World, wo = wr := ⟨_, rfl⟩
    obtain ⟨k, hk, rfl, rfl, hrow, hbel⟩ := hrel
    by_cases hlt : k < m
    · have hbt := HT.out k hk
      obtain ⟨hb0, hb1⟩ := hbt
      have hsp : T e k (m - k) = pr k ^ (e k - 0) * T e (k + 1) (m - (k + 1)) := by rw [show m - k = (m - (k + 1)) + 1 by omega]; rfl
      obtain ⟨V, hV⟩ : ∃ V : Nat → Nat, ∀ t, V t = pr k ^ (e k - t) * T e (k + 1) (m - (k + 1)) := ⟨_, fun _ => rfl⟩
      rw [← hV] at hsp
      rw [hsp] at hb0 hb1 ⊢
      have HVV := Lib.hid hV
      have pk2 := pr_two (show k < 4 by omega)
      have pk7 : pr k ≤ 7 := by
        match k, (show k < 4 by omega) with
        | 0, _ => decide
        | 1, _ => decide
        | 2, _ => decide
        | 3, _ => decide
      clear hV hsp
      go_wp2_with (go_at_call 8; refine (prime_any k _ (by omega)).mono ?_; rintro r w2 ⟨rfl, hb2⟩)
      have hrow2 := row_below hrow hb2 hrow.lt
      have hbel2 := hbel.trans (hb2.mono hbel.size)
      go_loopw [1] (fun v wr => ∃ t : Nat, t ≤ e k ∧ v = .int .i64 (V t : Nat) ∧ wr.rowIs w.heap.size 3 m (fun j => .int .i64 (if j < k then (e j : Int) else if j = k then (t : Int) else 0)) ∧ Below w.heap.size w wr) (fun v _ => (intOf v).toNat)
      case atStart => exact ⟨0, Nat.zero_le _, rfl, hrow2.congr (fun j hj => by by_cases h1 : j < k <;> by_cases h2 : j = k <;> simp [h1, h2]), hbel2⟩
      case round =>
        obtain ⟨t, ht, rfl, hrow3, hbel3⟩ := hrel
        have hl3 := HL.out k t hlt
        rw [← HVV.out] at hl3
        obtain ⟨l0, l1⟩ := hl3
        by_cases hte : t < e k
        · have hm0 : V t % pr k = 0 := by rw [HVV.out]; exact (left_mod e (by omega)).2 (by omega)
          have hdv : V t / pr k = V (t + 1) := by
            rw [HVV.out, HVV.out, show e k - t = (e k - (t + 1)) + 1 by omega]; exact left_div e
          have hq : ((V t : Int) % (pr k : Int) == 0) = true := by rw [← Int.natCast_emod, hm0]; rfl
          have hdv' : (V t : Int) / (pr k : Int) = (V (t + 1) : Nat) := by rw [← Int.natCast_ediv, hdv]
          have hlt2 : V (t + 1) < V t := by rw [← hdv]; exact Nat.div_lt_self (by omega) (by omega)
          have hcell := hrow3.cell (i := k) hlt
          have hfrz := hrow3.frozen k
          have he100 := HE.out k hlt
          simp only [Nat.lt_irrefl, if_false, if_true] at hcell
          have hd0 : 0 ≤ (V t : Int) / (pr k : Int) := by rw [hdv']; omega
          have hd1 : (V t : Int) / (pr k : Int) ≤ 9223372036854775807 := by rw [hdv']; omega
          have HD := Lib.hid hdv'
          have hsz := hrow3.lt
          clear hm0 hdv hdv'
          go_wp2_with fail
          go_roundw
          case rel => exact ⟨t + 1, by omega, by rw [HD.out], (hrow3.set k _).congr (fun j hj => by
            by_cases h1 : j = k
            · subst h1; simp
            · by_cases h2 : j < k <;> simp [h1, h2]), hbel3.setCell (by simp) _⟩
          case measure => rw [HD.out]; simp [intOf]; omega
        · obtain rfl : t = e k := by omega
          have hm0 : V (e k) % pr k ≠ 0 := by
            rw [HVV.out, Nat.sub_self]
            intro hh
            have := (left_mod e (i := k) (k := m - (k + 1)) (e := 0) (by omega)).1 hh
            omega
          have hq : ((V (e k) : Int) % (pr k : Int) == 0) = false := by rw [← Int.natCast_emod, beq_eq_false_iff_ne]; omega
          clear hm0
          go_wp2_with fail
          go_roundw
          case rel => exact ⟨k + 1, by omega, by go_num, by rw [HVV.out, Nat.sub_self, Nat.pow_zero, Nat.one_mul], hrow3.congr (fun j hj => by
            by_cases h1 : j = k
            · subst h1; simp
            · by_cases h2 : j < k
              · simp [h2, show j < k + 1 by omega]
              · simp [h1, h2, show ¬ j < k + 1 by omega]), hbel3⟩
          case measure => simp [intOf]; omega
    · obtain rfl : k = m := by omega
      have e1 : T e k (k - k) = 1 := by rw [Nat.sub_self]; rfl
      rw [e1]
      clear e1
      go_wp2_with fail
      go_ret2
      exact ⟨_, _, rfl, Rd.of_row (hrow.congr fun j hj => by simp [hj]) (Nat.le_refl _), hbel⟩
end Go.Proofs.Ytcbifknjoijlkaa
