/- What cell.Step computes. Conditions: as each theorem states. -/
import Derived.Test.YtnagdnbdpknniaaCellBit
import Derived.Test.YtnagdnbdpknniaaApp
namespace Go.Proofs.Ytnagdnbdpknniaa
open Go.ChangeShapes Go.WideShapes Go.ChangeAt Go.RowKit
set_option linter.unusedVariables false
theorem EB : Elem Try.prog 22 4 1 1 := Elem.of Try.underlying22 (by kernel_rfl : (Try.prog.info? 4).map (fun i => (i.zero, i.size, i.bytes)) = some (some (.bool false), 1, 1)) rfl (by omega)
theorem bitI_bd (b : Bool) : 0 ≤ bitI b ∧ bitI b ≤ 1 := by cases b <;> simp [bitI]
def three (a b c : Bool) : Int := 4 * bitI a + 2 * bitI b + bitI c
def st (r : Int) (n : Nat) (f : Nat → Bool) (i : Nat) : Bool := (r / 2 ^ (three (f ((i + n - 1) % n)) (f i) (f ((i + 1) % n))).toNat) % 2 == 1
theorem step_ok (r : Int) (A : Option Addr) (n c : Nat) (f : Nat → Bool) (w : World) (h : Rd w A n (fun i => .bool (f i))) (hn1 : 1 ≤ n) (hn : n ≤ 12) (r0 : 0 ≤ r) (r1 : r ≤ 255) :
    Calls Try.prog 7 #[.int .i64 r, .slice A n c] w fun e w' => ∃ A' c', e = .returned (.tuple #[.slice A' n c', .int .i64 0]) ∧ Rd w' A' n (fun i => .bool (st r n f i)) ∧ n ≤ c' ∧ c' ≤ maxLen ∧ Below w.heap.size w w' := by
  have hr := inB_yes r0 r1
  go_enter Try.func7, Try.ntmps7
  go_wp2_with (go_at_call 14; refine (wrong_any _ _).mono ?_; rintro e w' ⟨rfl, rfl⟩)
  go_loopw [7, 22] (fun o i wr => ∃ (k : Nat) (A' : Option Addr) (c' : Nat), k ≤ n ∧ i = .int .i64 k ∧ o = .slice A' k c' ∧ Own wr w.heap.size 4 1 A' k c' k (fun i => .bool (st r n f i)) ∧ Below w.heap.size w wr) (fun _ i _ => n - (intOf i).toNat)
  case atStart => exact ⟨0, none, 0, Nat.zero_le _, rfl, rfl, Own.nil _ _ _ _ _, Below.refl _ _⟩
  case round =>
    obtain ⟨k, A', c', hk, rfl, rfl, hown, hbel⟩ := hrel
    by_cases hlt : k < n
    · obtain ⟨b, off, hA, hb, hc0⟩ := h (by omega)
      subst hA
      have hcell : ∀ i, i < n → wr.cell? ⟨b, off + i, none⟩ = some (.bool (f i)) := fun i hi => (hbel.cell (p := ⟨b, off + i, none⟩) hb).trans (hc0 i hi)
      obtain ⟨p, hp⟩ : ∃ p, p = (k + n - 1) % n := ⟨_, rfl⟩
      obtain ⟨q, hq⟩ : ∃ q, q = (k + 1) % n := ⟨_, rfl⟩
      have hpl : p < n := by rw [hp]; exact Nat.mod_lt _ (by omega)
      have hql : q < n := by rw [hq]; exact Nat.mod_lt _ (by omega)
      have c1 := hcell k hlt
      have c2 := hcell p hpl
      have c3 := hcell q hql
      have i2 : ((k : Int) + n - 1).tmod n = (p : Int) := by
        rw [Int.tmod_eq_emod_of_nonneg (by omega), hp, Int.natCast_emod]; congr 1; omega
      have i3 : ((k : Int) + 1).tmod n = (q : Int) := by
        rw [Int.tmod_eq_emod_of_nonneg (by omega), hq, Int.natCast_emod]; congr 1
      have e1 : IntKind.i64.wrap ((k : Int) + n) = (k : Int) + n := IntWalk.i64_in _ (by omega)
      have e2 : IntKind.i64.wrap ((k : Int) + n - 1) = (k : Int) + n - 1 := IntWalk.i64_in _ (by omega)
      have e3 : IntKind.i64.wrap ((k : Int) + 1) = (k : Int) + 1 := IntWalk.i64_in _ (by omega)
      have e4 : IntKind.i64.wrap (p : Int) = (p : Int) := IntWalk.i64_in _ (by omega)
      have e5 : IntKind.i64.wrap (q : Int) = (q : Int) := IntWalk.i64_in _ (by omega)
      have bp := bitI_bd (f p)
      have bk := bitI_bd (f k)
      have bq := bitI_bd (f q)
      have HP := Lib.hid hp
      have HQ := Lib.hid hq
      have H := Lib.hid h
      clear h hc0 hcell hp hq
      go_wp2_with fail
      go_quiet ((go_at_call 15; exact Calls.quiet_of_same (bit_any' _ _)))
      have hsw := hbel.size
      have hdiv := div_pow_bd r0 (4 * bitI (f p) + 2 * bitI (f k) + bitI (f q)).toNat
      have hval : (bits BinOp.and IntKind.i64 (r / 2 ^ (4 * bitI (f p) + 2 * bitI (f k) + bitI (f q)).toNat) 1 == 1) = st r n f k := by
        rw [and_one (by omega) (by omega)]; unfold st three; rw [← HP.out, ← HQ.out]
      have HV := Lib.hid hval
      clear hval
      go_wp2_with (at_builtin; refine wpList_app _ rfl (.tmp 52) (.tmp 58) 22 rfl EB rfl ((hown.drewN nq).alloc _) rfl (l := 1) (by omega) (Rd.one _ _ _) (fun _ _ => rfl) (by unfold maxLen; omega) (by omega) (by simp; omega) (k + 1) (k + 1) rfl rfl ?_; intro A2 c2 w3 hown2 hg2 hat2 hbl2)
      go_roundw
      case rel => exact ⟨k + 1, A2, c2, by omega, by go_num, rfl, hown2.congr (fun i hi => by
        by_cases hik : i < k
        · rw [cat_lt hik]
        · obtain rfl : i = k := by omega
          rw [cat_ge (by omega), HV.out]), (((below_drewN hbel nq).alloc (by simp; omega) _)).trans hbl2⟩
      case measure => simp [intOf]; omega
    · obtain rfl : k = n := by omega
      go_wp2_with fail
      go_ret2
      exact ⟨_, _, rfl, hown.rd, hown.le.1, hown.le.2, hbel⟩
theorem step_len (r : Int) (A : Option Addr) (n c : Nat) (w : World) (hn : ¬ (1 ≤ n ∧ n ≤ 12)) (hm : n ≤ maxLen) (r0 : 0 ≤ r) (r1 : r ≤ 255) :
    Calls Try.prog 7 #[.int .i64 r, .slice A n c] w fun e w' => e = .returned (.tuple #[.slice none 0 0, .int .i64 1]) ∧ w = w' := by
  have hr := inB_yes r0 r1
  unfold maxLen at hm
  by_cases h0 : n < 1
  · clear hn
    go_enter Try.func7, Try.ntmps7
    go_wp2_with (go_at_call 14; refine (wrong_any _ _).mono ?_; rintro e w' ⟨rfl, rfl⟩)
    go_ret2
    exact ⟨rfl, rfl⟩
  · have h1 : 12 < n := by omega
    clear hn
    go_enter Try.func7, Try.ntmps7
    go_wp2_with (go_at_call 14; refine (wrong_any _ _).mono ?_; rintro e w' ⟨rfl, rfl⟩)
    go_ret2
    exact ⟨rfl, rfl⟩
theorem step_wrong (r : Int) (A : Option Addr) (n c : Nat) (w : World) (hr0 : ¬ (0 ≤ r ∧ r ≤ 255)) :
    Calls Try.prog 7 #[.int .i64 r, .slice A n c] w fun e w' => e = .returned (.tuple #[.slice none 0 0, .int .i64 4]) ∧ w = w' := by
  have hr := inB_no hr0
  clear hr0
  go_enter Try.func7, Try.ntmps7
  go_wp2_with (go_at_call 14; refine (wrong_any _ _).mono ?_; rintro e w' ⟨rfl, rfl⟩)
  go_ret2
  exact ⟨rfl, rfl⟩
/-- are two words the same -/
def sameB (n m : Nat) (f g : Nat → Bool) : Bool := decide (n = m ∧ ∀ i, i < n → f i = g i)
theorem sameB_iff {n m : Nat} {f g : Nat → Bool} : sameB n m f g = true ↔ (n = m ∧ ∀ i, i < n → f i = g i) := by simp [sameB]
theorem bools_any (A B : Option Addr) (n c m d : Nat) (f g : Nat → Bool) (w : World) (h : Rd w A n (fun i => .bool (f i))) (h' : Rd w B m (fun i => .bool (g i))) (hn : n ≤ maxLen) (hm : m ≤ maxLen) :
    Calls Try.prog 9 #[.slice A n c, .slice B m d] w fun e w' => e = .returned (.bool (sameB n m f g)) ∧ Below w.heap.size w w' := by
  unfold maxLen at hn hm
  by_cases hnm : n = m
  · subst hnm
    go_enter Try.func9, Try.ntmps9
    go_wp2
    go_loopw [5] (fun i wr => ∃ k : Nat, k ≤ n ∧ i = .int .i64 k ∧ (∀ j, j < k → f j = g j) ∧ Below w.heap.size w wr) (fun i _ => n - (intOf i).toNat)
    case atStart => exact ⟨0, Nat.zero_le _, rfl, fun j hj => absurd hj (Nat.not_lt_zero _), Below.refl _ _⟩
    case round =>
      obtain ⟨k, hk, rfl, hall0, hbel⟩ := hrel
      have hall := Lib.hid hall0
      clear hall0
      by_cases hlt : k < n
      · obtain ⟨b, off, rfl, hb, hc0⟩ := h.at_ hlt
        obtain ⟨b', off', rfl, hb', hc0'⟩ := h'.at_ hlt
        have hc : wr.cell? ⟨b, off + k, none⟩ = some (.bool (f k)) := (hbel.cell (p := ⟨b, off + k, none⟩) hb).trans hc0
        have hc' : wr.cell? ⟨b', off' + k, none⟩ = some (.bool (g k)) := (hbel.cell (p := ⟨b', off' + k, none⟩) hb').trans hc0'
        have H := Lib.hid h
        have H' := Lib.hid h'
        clear h h' hc0 hc0'
        by_cases he : f k = g k
        · have hq : (f k == g k) = true := by simp [he]
          have HE := Lib.hid he
          clear he
          go_wp2
          go_quiet (fail)
          go_wp2
          go_roundw
          case rel => exact ⟨k + 1, by omega, by go_num, fun j hj => by
            by_cases e : j = k
            · subst e; exact HE.out
            · exact hall.out j (by omega), below_drewN hbel nq⟩
          case measure => simp [intOf]; omega
        · have hq : (f k == g k) = false := by simp [he]
          have HE := Lib.hid he
          clear he
          go_wp2
          go_quiet (fail)
          go_wp2
          go_ret
          exact ⟨ret_bool (by
            cases hs : sameB n n f g
            · rfl
            · exact absurd ((sameB_iff.1 hs).2 k hlt) HE.out), below_drewN hbel nq⟩
      · obtain rfl : k = n := by omega
        go_wp2
        go_ret
        exact ⟨ret_bool (sameB_iff.2 ⟨rfl, hall.out⟩).symm, hbel⟩
  · have hq : ((n : Int) != m) = true := by simp; omega
    have hs : sameB n m f g = false := by simp [sameB, hnm]
    have HS := Lib.hid hs
    clear hnm hs
    go_enter Try.func9, Try.ntmps9
    go_wp2
    go_ret
    exact ⟨ret_bool HS.out.symm, Below.refl _ _⟩
end Go.Proofs.Ytnagdnbdpknniaa
