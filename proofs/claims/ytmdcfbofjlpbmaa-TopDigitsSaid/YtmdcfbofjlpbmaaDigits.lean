/- What code.digits and code.Number compute. Conditions: the orders read as told. -/
import Derived.Test.YtmdcfbofjlpbmaaOrders
import Derived.Test.YtmdcfbofjlpbmaaApp
namespace Go.Proofs.Ytmdcfbofjlpbmaa
open Go.ChangeShapes Go.WideShapes Go.ChangeAt Go.RowKit
set_option linter.unusedVariables false
theorem EIg : Elem Try.prog 23 3 1 8 := Elem.of Try.underlying23 (by kernel_rfl : (Try.prog.info? 3).map (fun i => (i.zero, i.size, i.bytes)) = some (some (.int .i64 0), 1, 8)) rfl (by omega)
theorem rd4 (W : World) {K : Nat} (hK : W.heap.size = K) (a b c d : Value) (e : TypeId) : Rd (W.alloc (.cells #[a, b, c, d] e)) (some ⟨K, 0, none⟩) 4 (fun i => if i = 0 then a else if i = 1 then b else if i = 2 then c else d) := by
  subst hK
  exact Rd.of_row (row4 W e a b c d _ rfl rfl rfl rfl) (Nat.le_refl _)
/-- the digits of orders: the fourth one of 'one more' is 0 -/
def dgF (F : Nat → Int) (q : Nat) : Int := if q % 4 = 3 ∧ F (q - 3) = 1 then 0 else F q
theorem dgF_at (F : Nat → Int) (k : Nat) : dgF F (4 * k) = F (4 * k) ∧ dgF F (4 * k + 1) = F (4 * k + 1) ∧ dgF F (4 * k + 2) = F (4 * k + 2) ∧ dgF F (4 * k + 3) = if F (4 * k) = 1 then 0 else F (4 * k + 3) := by
  unfold dgF
  refine ⟨if_neg (by omega), if_neg (by omega), if_neg (by omega), ?_⟩
  by_cases h : F (4 * k) = 1
  · rw [if_pos ⟨by omega, by rw [show 4 * k + 3 - 3 = 4 * k by omega]; exact h⟩, if_pos h]
  · rw [if_neg (fun hh => h (by have := hh.2; rwa [show 4 * k + 3 - 3 = 4 * k by omega] at this)), if_neg h]
set_option maxRecDepth 100000 in
set_option maxHeartbeats 1000000 in
theorem digits_any (A : Option Addr) (n c : Nat) (F : Nat → Int) (w : World) (h : Rd w A (n * 4) (fun q => .int .i64 (F q))) (hn : n ≤ 1000) :
    Calls Try.prog 13 #[.slice A n c] w fun e w' => ∃ A' c', e = .returned (.slice A' (4 * n) c') ∧ Own w' w.heap.size 3 1 A' (4 * n) c' (4 * n) (fun q => .int .i64 (dgF F q)) ∧ Below w.heap.size w w' := by
  have H := Lib.hid h
  clear h
  go_enter Try.func13, Try.ntmps13
  go_wp2_with fail
  go_loopw [3, 8] (fun s3 s8 wr => ∃ (k m : Nat) (A' : Option Addr) (c' : Nat), k ≤ n ∧ Hid (m = 4 * k) ∧ m ≤ 4000 ∧ s8 = .int .i64 (k : Nat) ∧ s3 = .slice A' m c' ∧ Hid (Own wr w.heap.size 3 1 A' m c' m (fun q => .int .i64 (dgF F q))) ∧ Hid (Below w.heap.size w wr)) (fun _ s8 _ => n - (intOf s8).toNat)
  case atStart => exact ⟨0, 0, none, 0, Nat.zero_le _, Lib.hid rfl, by omega, rfl, rfl, Lib.hid (Own.nil _ _ _ _ _), Lib.hid (Below.refl _ _)⟩
  case round =>
    obtain ⟨wo, rfl⟩ : ∃ wo : World, wo = wr := ⟨_, rfl⟩
    obtain ⟨k, m, A', c', hk, HM, hm, rfl, rfl, HO, HB⟩ := hrel
    by_cases hlt : k < n
    · obtain ⟨b, off, rfl, hb, f0, f1, f2, f3⟩ := (H.out.below HB.out).at4 hlt
      have hd := dgF_at F k
      obtain ⟨x0, h0⟩ : ∃ x, x = F (4 * k) := ⟨_, rfl⟩
      obtain ⟨x1, h1⟩ : ∃ x, x = F (4 * k + 1) := ⟨_, rfl⟩
      obtain ⟨x2, h2⟩ : ∃ x, x = F (4 * k + 2) := ⟨_, rfl⟩
      obtain ⟨x3, h3⟩ : ∃ x, x = F (4 * k + 3) := ⟨_, rfl⟩
      rw [← h0] at f0
      rw [← h1] at f1
      rw [← h2] at f2
      rw [← h3] at f3
      rw [← h0, ← h1, ← h2, ← h3] at hd
      have HD := Lib.hid hd
      clear hd h0 h1 h2 h3
      have hsz := HB.out.size
      by_cases g : x0 = 1
      · have q0 : (x0 == 1) = true := by rw [beq_iff_eq]; exact g
        have G := Lib.hid g
        clear g
        go_wp2_with (at_builtin; refine wpList_app _ rfl (.tmp 16) (.tmp 25) 23 rfl EIg rfl ((HO.out.alloc _).alloc _) rfl (l := 4) (by omega) (rd4 _ (by simp) (.int .i64 x0) (.int .i64 x1) (.int .i64 x2) (.int .i64 0) 3) (fun i _ => by split <;> (try split) <;> (try split) <;> rfl) (by unfold maxLen; omega) (by omega) (by simp; omega) (m + 4) (m + 4) rfl rfl ?_; intro A2 c2 w3 hown2 hg2 hat2 hbl2)
        go_roundw
        case rel => exact ⟨k + 1, m + 4, A2, c2, by omega, Lib.hid (by have := HM.out; omega), by have := HM.out; omega, by go_num, rfl, Lib.hid (hown2.congr fun i hi => by
          have hM := HM.out
          obtain ⟨d0, d1, d2, d3⟩ := HD.out
          by_cases e : i < m
          · rw [cat_lt e]
          · rw [cat_ge (by omega)]
            have : i = 4 * k ∨ i = 4 * k + 1 ∨ i = 4 * k + 2 ∨ i = 4 * k + 3 := by omega
            rcases this with rfl | rfl | rfl | rfl
            · rw [if_pos (by omega), d0]
            · rw [if_neg (by omega), if_pos (by omega), d1]
            · rw [if_neg (by omega), if_neg (by omega), if_pos (by omega), d2]
            · rw [if_neg (by omega), if_neg (by omega), if_neg (by omega), d3, if_pos G.out]), Lib.hid ((((HB.out.alloc HB.out.size _).alloc (by simp; omega) _)).trans hbl2)⟩
        case measure => simp [intOf]; omega
      · have q0 : (x0 == 1) = false := by rw [beq_eq_false_iff_ne]; exact g
        have G := Lib.hid g
        clear g
        go_wp2_with (at_builtin; refine wpList_app _ rfl (.tmp 16) (.tmp 25) 23 rfl EIg rfl ((HO.out.alloc _).alloc _) rfl (l := 4) (by omega) (rd4 _ (by simp) (.int .i64 x0) (.int .i64 x1) (.int .i64 x2) (.int .i64 x3) 3) (fun i _ => by split <;> (try split) <;> (try split) <;> rfl) (by unfold maxLen; omega) (by omega) (by simp; omega) (m + 4) (m + 4) rfl rfl ?_; intro A2 c2 w3 hown2 hg2 hat2 hbl2)
        go_roundw
        case rel => exact ⟨k + 1, m + 4, A2, c2, by omega, Lib.hid (by have := HM.out; omega), by have := HM.out; omega, by go_num, rfl, Lib.hid (hown2.congr fun i hi => by
          have hM := HM.out
          obtain ⟨d0, d1, d2, d3⟩ := HD.out
          by_cases e : i < m
          · rw [cat_lt e]
          · rw [cat_ge (by omega)]
            have : i = 4 * k ∨ i = 4 * k + 1 ∨ i = 4 * k + 2 ∨ i = 4 * k + 3 := by omega
            rcases this with rfl | rfl | rfl | rfl
            · rw [if_pos (by omega), d0]
            · rw [if_neg (by omega), if_pos (by omega), d1]
            · rw [if_neg (by omega), if_neg (by omega), if_pos (by omega), d2]
            · rw [if_neg (by omega), if_neg (by omega), if_neg (by omega), d3, if_neg G.out]), Lib.hid ((((HB.out.alloc HB.out.size _).alloc (by simp; omega) _)).trans hbl2)⟩
        case measure => simp [intOf]; omega
    · obtain rfl : k = n := by omega
      obtain rfl : m = 4 * k := HM.out
      go_wp2_with fail
      go_ret
      exact ⟨A', c', rfl, HO.out, HB.out⟩
def NumRet (cs : Int) (n : Nat) (F : Nat → Int) (w : World) (e : Ending) (w' : World) : Prop :=
  Below w.heap.size w w' ∧ ((ckO cs n F ≠ 0 ∧ e = .returned (.tuple #[.slice none 0 0, .int .i64 (ckO cs n F)])) ∨ (ckO cs n F = 0 ∧ ∃ A c, e = .returned (.tuple #[.slice A (4 * n) c, .int .i64 0]) ∧ Rd w' A (4 * n) (fun q => .int .i64 (dgF F q)) ∧ 4 * n ≤ c ∧ c ≤ maxLen))
set_option maxRecDepth 100000 in
theorem number_any (cs : Int) (A : Option Addr) (n c : Nat) (F : Nat → Int) (w : World) (h : Rd w A (n * 4) (fun q => .int .i64 (F q))) (hn : n ≤ maxLen) :
    Calls Try.prog 4 #[.int .i64 cs, .slice A n c] w (NumRet cs n F w) := by
  have HC := Lib.hid (check_any cs A n c F w h hn)
  by_cases h0 : ckO cs n F = 0
  · have hn12 : n ≤ 1000 := by
      unfold ckO at h0
      by_cases e : cs < 1 ∨ 4 < cs ∨ n < 1 ∨ 12 < n
      · rw [if_pos e] at h0; cases h0
      · omega
    have HDG := Lib.hid (fun W (hW : Below w.heap.size w W) => digits_any A n c F W (h.below hW) hn12)
    have H0 := Lib.hid h0
    obtain ⟨E, hE⟩ : ∃ E, E = ckO cs n F := ⟨_, rfl⟩
    rw [← hE] at HC
    have q0 : (E != 0) = false := by rw [hE, h0]; rfl
    clear h0 hE h
    go_enter Try.func4, Try.ntmps4
    go_wp2_with fail
    refine HC.out.mono ?_
    rintro e w1 ⟨rfl, hb1⟩
    have HB1 := Lib.hid hb1
    clear hb1 HC
    go_wp2_with fail
    refine (HDG.out _ HB1.out).mono ?_
    rintro e w2 ⟨A2, c2, rfl, hown, hb2⟩
    have HB2 := Lib.hid (HB1.out.trans (hb2.mono HB1.out.size))
    have HR := Lib.hid hown.rd
    have hle := hown.le
    clear hb2 hown HDG
    go_wp2_with fail
    go_ret2
    exact ⟨HB2.out, .inr ⟨H0.out, A2, c2, rfl, HR.out, hle.1, hle.2⟩⟩
  · obtain ⟨E, hE⟩ : ∃ E, E = ckO cs n F := ⟨_, rfl⟩
    have HE := Lib.hid hE
    rw [← hE] at HC h0
    have q0 : (E != 0) = true := by rw [bne_iff_ne]; exact h0
    have H0 := Lib.hid h0
    clear h0 hE h
    go_enter Try.func4, Try.ntmps4
    go_wp2_with fail
    refine HC.out.mono ?_
    rintro e w1 ⟨rfl, hb1⟩
    have HB1 := Lib.hid hb1
    clear hb1 HC
    go_wp2_with fail
    go_ret2
    exact ⟨HB1.out, .inl ⟨by rw [← HE.out]; exact H0.out, HE.out ▸ rfl⟩⟩
end Go.Proofs.Ytmdcfbofjlpbmaa
