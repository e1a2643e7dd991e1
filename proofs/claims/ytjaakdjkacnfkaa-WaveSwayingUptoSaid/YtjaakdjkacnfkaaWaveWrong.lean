/- What wave.wrong computes, and the references' WaveCheck. No condition. -/
import Derived.Test.YtjaakdjkacnfkaaInside
import Derived.Test.YtjaakdjkacnfkaaApp
import Derived.WalkSpells
import Derived.WalkLawsBesides
import Derived.BigQuiet
import Derived.Deep.QuietTactic
namespace Go.Proofs.Ytjaakdjkacnfkaa
open Go.ChangeShapes Go.WideShapes Go.ChangeAt Go.RowKit
set_option linter.unusedVariables false
def okR (m : Nat) (f : Nat → Int) : Prop := ∀ i, i < m → -1000000000 ≤ f i ∧ f i ≤ 1000000000
instance (m : Nat) (f : Nat → Int) : Decidable (okR m f) := by unfold okR; infer_instance
def wvE (n : Int) (m : Nat) (f : Nat → Int) : Int := if 0 ≤ n ∧ n ≤ 4 then (if m = 2 ^ n.toNat then (if okR m f then 0 else 4) else 3) else 1
def badB (m : Nat) (f : Nat → Int) : Bool := decide (¬ okR m f)
theorem badB_yes {m : Nat} {f : Nat → Int} (h : ¬ okR m f) : badB m f = true := by simp [badB, h]
theorem badB_no {m : Nat} {f : Nat → Int} (h : okR m f) : badB m f = false := by simp [badB, h]
set_option maxRecDepth 100000 in
theorem closure_any (x : Int) (w : World) : Calls Try.prog 22 #[.int .i64 x] w fun e w' => e = .returned (.bool (!(inB (-1000000000) x 1000000000))) ∧ w = w' := by
  by_cases h0 : x < -1000000000
  · rw [inB_no (by omega)]
    go_enter Try.func22, Try.ntmps22
    go_wp2_with fail
    go_ret
    exact ⟨rfl, rfl⟩
  · by_cases h1 : 1000000000 < x
    · rw [inB_no (by omega)]
      go_enter Try.func22, Try.ntmps22
      go_wp2_with fail
      go_ret
      exact ⟨rfl, rfl⟩
    · rw [inB_yes (by omega) (by omega)]
      go_enter Try.func22, Try.ntmps22
      go_wp2_with fail
      go_ret
      exact ⟨rfl, rfl⟩
/-- IndexFunc: below 0 just if all are in range -/
def IdxRes (m : Nat) (f : Nat → Int) (w : World) (e : Ending) (w' : World) : Prop :=
  w = w' ∧ ((okR m f ∧ e = .returned (.int .i64 (-1))) ∨ ∃ k : Nat, k < m ∧ ¬ okR m f ∧ e = .returned (.int .i64 k))
set_option maxRecDepth 100000 in
theorem index_any (A : Option Addr) (m c : Nat) (f : Nat → Int) (w : World) (h : Rd w A m (fun i => .int .i64 (f i))) (hm : m ≤ maxLen) :
    Calls Try.prog 26 #[.slice A m c, .func (.func 22) #[] #[]] w (IdxRes m f w) := by
  unfold maxLen at hm
  go_enter Try.func26, Try.ntmps26
  go_wp2_with fail
  go_loop [8] (fun i => ∃ k : Nat, k ≤ m ∧ i = .int .i64 k ∧ okR k f) (fun i => m - (intOf i).toNat)
  case atStart => exact ⟨0, Nat.zero_le _, rfl, fun j hj => absurd hj (Nat.not_lt_zero _)⟩
  case round =>
    obtain ⟨k, hk, rfl, hall0⟩ := hrel
    have hall := Lib.hid hall0
    clear hall0
    by_cases hlt : k < m
    · obtain ⟨b, off, rfl, _, hc⟩ := h.at_ hlt
      have H := Lib.hid h
      clear h
      by_cases hr : -1000000000 ≤ f k ∧ f k ≤ 1000000000
      · have hi := inB_yes hr.1 hr.2
        have HR := Lib.hid hr
        clear hr
        go_wp2_with (go_at_call 22; refine (closure_any _ _).mono ?_; rintro e w' ⟨rfl, rfl⟩)
        go_round
        case rel => exact ⟨k + 1, by omega, by go_num, fun j hj => by
          by_cases e : j = k
          · subst e; exact HR.out
          · exact hall.out j (by omega)⟩
        case measure => simp [intOf]; omega
      · have hi := inB_no hr
        have HR := Lib.hid hr
        clear hr
        go_wp2_with (go_at_call 22; refine (closure_any _ _).mono ?_; rintro e w' ⟨rfl, rfl⟩)
        go_ret
        exact ⟨rfl, .inr ⟨k, hlt, fun hh => HR.out (hh k hlt), rfl⟩⟩
    · obtain rfl : k = m := by omega
      go_wp2_with fail
      go_ret
      exact ⟨rfl, .inl ⟨hall.out, rfl⟩⟩
set_option maxRecDepth 100000 in
theorem contains_any (A : Option Addr) (m c : Nat) (f : Nat → Int) (w : World) (h : Rd w A m (fun i => .int .i64 (f i))) (hm : m ≤ maxLen) :
    Calls Try.prog 21 #[.slice A m c, .func (.func 22) #[] #[]] w fun e w' => e = .returned (.bool (badB m f)) ∧ w = w' := by
  have H := Lib.hid h
  clear h
  go_enter Try.func21, Try.ntmps21
  go_wp2_with fail
  refine (index_any A m c f w H.out hm).mono ?_
  rintro e w' ⟨rfl, ⟨hok, rfl⟩ | ⟨k, hk, hok, rfl⟩⟩
  · have HO := Lib.hid hok
    clear hok
    go_wp2_with fail
    go_ret
    exact ⟨ret_bool (badB_no HO.out).symm, rfl⟩
  · have HO := Lib.hid hok
    clear hok
    go_wp2_with fail
    go_ret
    exact ⟨ret_bool (badB_yes HO.out).symm, rfl⟩
theorem pow_bd {N : Nat} (h : N ≤ 4) : (1 : Int) ≤ 2 ^ N ∧ (2 : Int) ^ N ≤ 16 ∧ 1 ≤ 2 ^ N ∧ 2 ^ N ≤ 16 := by
  match N, h with
  | 0, _ => decide
  | 1, _ => decide
  | 2, _ => decide
  | 3, _ => decide
  | 4, _ => decide
set_option maxRecDepth 100000 in
theorem wrong_any (n : Int) (A : Option Addr) (m c : Nat) (f : Nat → Int) (w : World) (h : Rd w A m (fun i => .int .i64 (f i))) (hm : m ≤ maxLen) :
    Calls Try.prog 15 #[.int .i64 n, .slice A m c] w fun e w' => e = .returned (.int .i64 (wvE n m f)) ∧ w = w' := by
  have H := Lib.hid h
  have HM := Lib.hid hm
  unfold maxLen at hm
  clear h
  unfold wvE
  by_cases hn : 0 ≤ n ∧ n ≤ 4
  · rw [if_pos hn]
    obtain ⟨n0, n4⟩ := hn
    obtain ⟨N, rfl⟩ := Int.eq_ofNat_of_zero_le n0
    obtain ⟨p0, p1, _, _⟩ := pow_bd (N := N) (by omega)
    rw [Int.toNat_natCast]
    by_cases he : m = 2 ^ N
    · rw [if_pos he]
      have hq : ((m : Int) != 2 ^ N) = false := by rw [bne_eq_false_iff_eq, he]; simp
      by_cases hok : okR m f
      · have hb := badB_no hok
        rw [if_pos hok]
        clear he hok
        go_enter Try.func15, Try.ntmps15
        go_wp2_with (go_at_call 21; refine (contains_any A m c f w H.out HM.out).mono ?_; rintro e w' ⟨rfl, rfl⟩)
        go_ret
        exact ⟨rfl, rfl⟩
      · have hb := badB_yes hok
        rw [if_neg hok]
        clear he hok
        go_enter Try.func15, Try.ntmps15
        go_wp2_with (go_at_call 21; refine (contains_any A m c f w H.out HM.out).mono ?_; rintro e w' ⟨rfl, rfl⟩)
        go_ret
        exact ⟨rfl, rfl⟩
    · rw [if_neg he]
      have hq : ((m : Int) != 2 ^ N) = true := by rw [bne_iff_ne]; intro hh; exact he (by exact_mod_cast hh)
      clear he
      go_enter Try.func15, Try.ntmps15
      go_wp2_with fail
      go_ret
      exact ⟨rfl, rfl⟩
  · rw [if_neg hn]
    by_cases h0 : n < 0
    · clear hn
      go_enter Try.func15, Try.ntmps15
      go_wp2_with fail
      go_ret
      exact ⟨rfl, rfl⟩
    · have h1 : 4 < n := by omega
      clear hn
      go_enter Try.func15, Try.ntmps15
      go_wp2_with fail
      go_ret
      exact ⟨rfl, rfl⟩
set_option maxRecDepth 100000 in
theorem waveCheck_any (n : Int) (A : Option Addr) (m c : Nat) (f : Nat → Int) (w : World) (h : Rd w A m (fun i => .int .i64 (f i))) (hm : m ≤ maxLen) :
    Calls Try.prog 18 #[.int .i64 n, .slice A m c] w fun e w' => e = .returned (.int .i64 (wvE n m f)) ∧ w = w' := by
  unfold maxLen at hm
  unfold wvE
  by_cases hn : 0 ≤ n ∧ n ≤ 4
  · rw [if_pos hn]
    have hi := inB_yes hn.1 hn.2
    obtain ⟨n0, n4⟩ := hn
    obtain ⟨N, rfl⟩ := Int.eq_ofNat_of_zero_le n0
    obtain ⟨p0, p1, _, _⟩ := pow_bd (N := N) (by omega)
    rw [Int.toNat_natCast]
    by_cases he : m = 2 ^ N
    · rw [if_pos he]
      have hq : ((m : Int) != 2 ^ N) = false := by rw [bne_eq_false_iff_eq, he]; simp
      obtain ⟨E, hE⟩ : ∃ E : Int, E = if okR m f then 0 else 4 := ⟨_, rfl⟩
      rw [← hE]
      have HE := Lib.hid hE
      clear he hE
      go_enter Try.func18, Try.ntmps18
      go_wp2_with (go_at_call 24; refine (within_any _ _ _ _).mono ?_; rintro e w' ⟨rfl, rfl⟩)
      go_loop [18] (fun i => ∃ k : Nat, k ≤ m ∧ i = .int .i64 k ∧ okR k f) (fun i => m - (intOf i).toNat)
      case atStart => exact ⟨0, Nat.zero_le _, rfl, fun j hj => absurd hj (Nat.not_lt_zero _)⟩
      case round =>
        obtain ⟨k, hk, rfl, hall0⟩ := hrel
        have hall := Lib.hid hall0
        clear hall0
        by_cases hlt : k < m
        · obtain ⟨b, off, rfl, _, hc⟩ := h.at_ hlt
          have H := Lib.hid h
          clear h
          by_cases hr : -1000000000 ≤ f k ∧ f k ≤ 1000000000
          · have hi := inB_yes hr.1 hr.2
            have HR := Lib.hid hr
            clear hr
            go_wp2_with (go_at_call 24; refine (within_any _ _ _ _).mono ?_; rintro e w' ⟨rfl, rfl⟩)
            go_round
            case rel => exact ⟨k + 1, by omega, by go_num, fun j hj => by
              by_cases e : j = k
              · subst e; exact HR.out
              · exact hall.out j (by omega)⟩
            case measure => simp [intOf]; omega
          · have hi := inB_no hr
            have HR := Lib.hid hr
            clear hr
            go_wp2_with (go_at_call 24; refine (within_any _ _ _ _).mono ?_; rintro e w' ⟨rfl, rfl⟩)
            go_ret
            exact ⟨ret_int (by rw [HE.out, if_neg (fun hh => HR.out (hh k hlt))]), rfl⟩
        · obtain rfl : k = m := by omega
          go_wp2_with fail
          go_ret
          exact ⟨ret_int (by rw [HE.out, if_pos hall.out]), rfl⟩
    · rw [if_neg he]
      have hq : ((m : Int) != 2 ^ N) = true := by rw [bne_iff_ne]; intro hh; exact he (by exact_mod_cast hh)
      clear he
      go_enter Try.func18, Try.ntmps18
      go_wp2_with (go_at_call 24; refine (within_any _ _ _ _).mono ?_; rintro e w' ⟨rfl, rfl⟩)
      go_ret
      exact ⟨rfl, rfl⟩
  · rw [if_neg hn]
    have hi := inB_no hn
    clear hn
    go_enter Try.func18, Try.ntmps18
    go_wp2_with (go_at_call 24; refine (within_any _ _ _ _).mono ?_; rintro e w' ⟨rfl, rfl⟩)
    go_ret
    exact ⟨rfl, rfl⟩
end Go.Proofs.Ytjaakdjkacnfkaa
