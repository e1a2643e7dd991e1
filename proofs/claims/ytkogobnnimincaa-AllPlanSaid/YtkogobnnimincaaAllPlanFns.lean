/- What the references' Plans, Bit and Bits compute. Conditions: as each theorem states. -/
import Derived.Test.YtkogobnnimincaaAllPlanLaw
import Derived.Test.YtkogobnnimincaaBits
namespace Go.Proofs.Ytkogobnnimincaa
open Go.ChangeShapes Go.WideShapes Go.ChangeAt Go.RowKit
set_option linter.unusedVariables false
set_option maxRecDepth 100000 in
set_option maxHeartbeats 1000000 in
theorem plans_any (KA : Option Addr) (m kc : Nat) (K : Nat → Bool) (w : World) (hK : Rd w KA m (fun i => .bool (K i))) (hm : m ≤ 8) :
    Calls Try.prog 9 #[.slice KA m kc] w fun e w' => e = .returned (.tuple #[.int .i64 (offK K m), .int .i64 (cntF K m)]) ∧ w = w' := by
  have GK := Lib.hid hK
  clear hK
  go_enter Try.func9, Try.ntmps9
  go_wp2_with fail
  go_loop [4, 5, 10] (fun s4 s5 s10 => ∃ v : Nat, v ≤ m ∧ s10 = .int .i64 v ∧ s4 = .int .i64 (offK K v) ∧ s5 = .int .i64 (cntF K v)) (fun _ _ s10 => m - (intOf s10).toNat)
  case atStart => exact ⟨0, Nat.zero_le _, rfl, rfl, rfl⟩
  case round =>
    obtain ⟨v, hv, rfl, rfl, rfl⟩ := hrel
    have ho := offK_lt K v
    have hc := cntF_le K v
    have ho1 := @offK_yes K v
    have ho2 := @offK_no K v
    have hc1 := @cntF_yes K v
    have hc2 := @cntF_no K v
    obtain ⟨p0, p1, p2, p3⟩ := pow8 (V := v) (by omega)
    obtain ⟨P, hP⟩ : ∃ P, P = 2 ^ v := ⟨_, rfl⟩
    have hPI : (2 : Int) ^ v = (P : Int) := by rw [hP]; simp
    rw [hPI] at p0 p1
    rw [← hP] at ho p2 p3 ho1
    obtain ⟨o, hO⟩ : ∃ o, o = offK K v := ⟨_, rfl⟩
    obtain ⟨f, hF⟩ : ∃ f, f = cntF K v := ⟨_, rfl⟩
    rw [← hO] at ho ho1 ho2 ⊢
    rw [← hF] at hc hc1 hc2 ⊢
    have HO := Lib.hid hO
    have HF := Lib.hid hF
    by_cases hlt : v < m
    · obtain ⟨b, off, rfl, _, hcl⟩ := GK.out.at_ hlt
      cases hk : K v with
      | true =>
        rw [hk] at hcl
        have X := Lib.hid (And.intro (ho1 hk) (hc1 hk))
        clear ho1 ho2 hc1 hc2 hO hF hk hP
        go_wp2_with fail
        go_round
        case rel => exact ⟨v + 1, by omega, by go_num, by rw [X.out.1, ← hPI]; first | rfl | go_num, by rw [X.out.2]⟩
        case measure => simp [intOf]; omega
      | false =>
        rw [hk] at hcl
        have X := Lib.hid (And.intro (ho2 hk) (hc2 hk))
        clear ho1 ho2 hc1 hc2 hO hF hk hP
        go_wp2_with fail
        go_round
        case rel => exact ⟨v + 1, by omega, by go_num, by rw [X.out.1], by rw [X.out.2]; first | rfl | go_num⟩
        case measure => simp [intOf]; omega
    · obtain rfl : v = m := by omega
      clear ho1 ho2 hc1 hc2 hO hF hP
      go_wp2_with fail
      go_ret2
      exact ⟨by rw [HO.out, HF.out]; rfl, rfl⟩
set_option maxRecDepth 100000 in
theorem bit_any (x : Int) (i : Nat) (hi : i ≤ 8) (w : World) :
    Calls Try.prog 18 #[.int .i64 x, .int .i64 i] w fun e w' => (∃ b, e = .returned (.bool b)) ∧ w = w' := by
  obtain ⟨p0, p1, p2, p3⟩ := pow8 (V := i) hi
  go_enter Try.func18, Try.ntmps18
  go_wp2_with fail
  go_ret
  exact ⟨⟨_, rfl⟩, rfl⟩
set_option maxRecDepth 100000 in
set_option maxHeartbeats 1000000 in
theorem bits_any (k : Nat) (x : Int) (hk : k ≤ 8) (w : World) :
    Calls Try.prog 11 #[.int .i64 k, .int .i64 x] w fun e w' => (∃ (S : Option Addr) (sc : Nat) (F : Nat → Bool), e = .returned (.slice S k sc) ∧ k ≤ sc ∧ sc ≤ maxLen ∧ Rd w' S k (fun i => .bool (F i))) ∧ Below w.heap.size w w' := by
  go_enter Try.func11, Try.ntmps11
  go_wp2_with fail
  go_loopw [5, 6] (fun s5 s6 wr => ∃ (i : Nat) (S : Option Addr) (sc : Nat) (F : Nat → Bool), i ≤ k ∧ s6 = .int .i64 i ∧ s5 = .slice S i sc ∧ Own wr w.heap.size 4 1 S i sc i (fun q => .bool (F q)) ∧ Below w.heap.size w wr) (fun _ s6 _ => k - (intOf s6).toNat)
  case atStart => exact ⟨0, none, 0, fun _ => false, Nat.zero_le _, rfl, rfl, Own.nil _ _ _ _ _, Below.refl _ _⟩
  case round =>
    obtain ⟨wo, rfl⟩ : ∃ wo : World, wo = wr := ⟨_, rfl⟩
    obtain ⟨i, S, sc, F, hi, rfl, rfl, hown, hbel⟩ := hrel
    by_cases hlt : i < k
    · go_wp2_with fail
      refine (bit_any x i (by omega) _).mono ?_
      rintro e w1 ⟨⟨b, rfl⟩, rfl⟩
      have sz := hbel.size
      have B3 := hbel.alloc hbel.size (.cells #[.bool b] 4)
      go_wp2_with (at_builtin; refine wpList_app _ rfl (.tmp 12) (.tmp 16) 23 rfl EBa rfl (hown.alloc _) rfl (l := 1) (by omega) (Rd.one wo (.bool b) _) (fun _ _ => rfl) (by unfold maxLen; omega) (by omega) (by simp; omega) (i + 1) (i + 1) rfl (by omega) ?_; intro A2 c2 w3 hown2 hg2 hat2 hbl2)
      go_roundw
      case rel => exact ⟨i + 1, A2, c2, setB F i b, by omega, by go_num, rfl, hown2.congr (cat_set F i b), B3.trans hbl2⟩
      case measure => simp [intOf]; omega
    · obtain rfl : i = k := by omega
      have R := Lib.hid hown.rd
      have L := Lib.hid hown.le
      clear hown
      go_wp2_with fail
      go_ret
      exact ⟨⟨S, sc, F, rfl, L.out.1, L.out.2, R.out⟩, hbel⟩
end Go.Proofs.Ytkogobnnimincaa
