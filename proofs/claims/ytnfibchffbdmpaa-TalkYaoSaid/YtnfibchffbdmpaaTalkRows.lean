/- talk.Rows: how many rows differ. Condition: the rows read as told. -/
import Derived.Test.YtnfibchffbdmpaaTalkTop
import Derived.Test.YtnfibchffbdmpaaPredWB
import Derived.BigQuiet
namespace Go.Proofs.Ytnfibchffbdmpaa
open Go.ChangeShapes Go.WideShapes Go.ChangeAt Go.RowKit
set_option linter.unusedVariables false
set_option linter.unusedSimpArgs false
def eqB (f g : Nat → Bool) (m : Nat) : Bool := decide (∀ j, j < m → f j = g j)
set_option maxRecDepth 100000 in
theorem equalB_any (A B : Option Addr) (m c d : Nat) (f g : Nat → Bool) (w : World) (h : Rd w A m (fun i => .bool (f i))) (k : Rd w B m (fun i => .bool (g i))) (hm : m ≤ maxLen) :
    Calls Try.prog 27 #[.slice A m c, .slice B m d] w fun e w' => e = .returned (.bool (eqB f g m)) ∧ Below w.heap.size w w' := by
  have H := Lib.hid h
  have K := Lib.hid k
  have hmx : m ≤ 9223372036854775807 := by unfold maxLen at hm; omega
  have qnn : ((m : Int) != (m : Int)) = false := by simp
  clear h k hm
  go_enter Try.func27, Try.ntmps27
  go_wp2_with fail
  go_loopw [13] (fun s13 wr => ∃ i : Nat, i ≤ m ∧ s13 = .int .i64 (i : Nat) ∧ Hid (∀ j, j < i → f j = g j) ∧ Hid (Below w.heap.size w wr)) (fun s13 _ => m - (intOf s13).toNat)
  case atStart => exact ⟨0, Nat.zero_le _, rfl, Lib.hid fun j hj => absurd hj (Nat.not_lt_zero _), Lib.hid (Below.refl _ _)⟩
  case round =>
    obtain ⟨wo, rfl⟩ : ∃ wo : World, wo = wr := ⟨_, rfl⟩
    obtain ⟨i, hi, rfl, HALL, HB⟩ := hrel
    by_cases him : i < m
    · obtain ⟨b1, o1, rfl, _, c1⟩ := (H.out.below HB.out).at_ him
      obtain ⟨b2, o2, rfl, _, c2⟩ := (K.out.below HB.out).at_ him
      obtain ⟨x, hx⟩ : ∃ x, x = f i := ⟨_, rfl⟩
      obtain ⟨y, hy⟩ : ∃ x, x = g i := ⟨_, rfl⟩
      rw [← hx] at c1
      rw [← hy] at c2
      have HX := Lib.hid hx
      have HY := Lib.hid hy
      clear hx hy
      by_cases hxy : x = y
      · subst hxy
        have qb : (x == x) = true := by simp
        have qn : (x != x) = false := by simp
        have HXY : Hid (f i = g i) := Lib.hid (by rw [← HX.out, ← HY.out])
        go_wp2_with fail
        go_quiet (fail)
        go_wp2_with fail
        go_roundw
        case rel => exact ⟨i + 1, by omega, by go_num, Lib.hid fun j hj => by
          by_cases e : j = i
          · rw [e]; exact HXY.out
          · exact HALL.out j (by omega), Lib.hid (below_drewN HB.out nq)⟩
        case measure => simp [intOf]; omega
      · have qb : (x == y) = false := by cases x <;> cases y <;> first | rfl | exact absurd rfl hxy
        have qn : (x != y) = true := by cases x <;> cases y <;> first | rfl | exact absurd rfl hxy
        have HE : Hid (eqB f g m = false) := Lib.hid (decide_eq_false fun hall => hxy (by rw [HX.out, HY.out]; exact hall i him))
        clear hxy
        go_wp2_with fail
        go_quiet (fail)
        go_wp2_with fail
        go_ret
        exact ⟨ret_bool HE.out.symm, below_drewN HB.out nq⟩
    · obtain rfl : i = m := by omega
      have HE : Hid (eqB f g i = true) := Lib.hid (decide_eq_true HALL.out)
      go_wp2_with fail
      go_ret
      exact ⟨ret_bool HE.out.symm, HB.out⟩
set_option maxRecDepth 100000 in
theorem indexWBd_any (K : FuncId) (caps : Array Value) (A : Option Addr) (m c : Nat) (V : Nat → Value) (p : Nat → Bool) (w : World) (h : Rd w A m V) (hm : m ≤ maxLen) (hK : ∀ xs W, Sem.run Try.prog (callFunc K xs) W = .ok (.enter K xs) W)
    (hp : ∀ i, i < m → ∀ W, Below w.heap.size w W → Calls Try.prog K (#[V i] ++ caps) W fun e w' => e = .returned (.bool (p i)) ∧ Below W.heap.size W w') :
    Calls Try.prog 34 #[.slice A m c, .func (.func K) #[] caps] w fun e w' => ((e = .returned (.int .i64 (-1)) ∧ anyB p m = false) ∨ ∃ k : Nat, k < m ∧ anyB p m = true ∧ e = .returned (.int .i64 k)) ∧ Below w.heap.size w w' := by
  unfold maxLen at hm
  have HP := Lib.hid hp
  have H := Lib.hid h
  clear hp h
  go_enter Try.func34, Try.ntmps34
  go_wp2_with fail
  go_loopw [8] (fun i wr => ∃ k : Nat, k ≤ m ∧ i = .int .i64 k ∧ Hid (∀ j, j < k → p j = false) ∧ Hid (Below w.heap.size w wr)) (fun i _ => m - (intOf i).toNat)
  case atStart => exact ⟨0, Nat.zero_le _, rfl, Lib.hid fun j hj => absurd hj (Nat.not_lt_zero _), Lib.hid (Below.refl _ _)⟩
  case round =>
    obtain ⟨wo, rfl⟩ : ∃ wo : World, wo = wr := ⟨_, rfl⟩
    obtain ⟨k, hk, rfl, HALL, HB⟩ := hrel
    by_cases hlt : k < m
    · obtain ⟨b, off, rfl, _, hc⟩ := (H.out.below HB.out).at_ hlt
      have hpk := HP.out k hlt wo HB.out
      cases hq : p k with
      | true =>
        have HQ := Lib.hid hq
        rw [hq] at hpk
        have HPK := Lib.hid hpk
        clear hq hpk
        go_wp2_with fail
        refine HPK.out.mono ?_
        rintro e w' ⟨rfl, hb⟩
        have HB2 := Lib.hid (HB.out.trans (hb.mono HB.out.size))
        clear hb
        go_wp2_with fail
        go_ret
        exact ⟨.inr ⟨k, hlt, anyB_yes hlt HQ.out, rfl⟩, HB2.out⟩
      | false =>
        have HQ := Lib.hid hq
        rw [hq] at hpk
        have HPK := Lib.hid hpk
        clear hq hpk
        go_wp2_with fail
        refine HPK.out.mono ?_
        rintro e w' ⟨rfl, hb⟩
        have HB2 := Lib.hid (HB.out.trans (hb.mono HB.out.size))
        clear hb
        go_wp2_with fail
        go_roundw
        case rel => exact ⟨k + 1, by omega, by go_num, Lib.hid fun j hj => by
          by_cases e : j = k
          · subst e; exact HQ.out
          · exact HALL.out j (by omega), HB2⟩
        case measure => simp [intOf]; omega
    · obtain rfl : k = m := by omega
      go_wp2_with fail
      go_ret
      exact ⟨.inl ⟨rfl, anyB_no HALL.out⟩, HB.out⟩
set_option maxRecDepth 100000 in
theorem containsWBd_any (K : FuncId) (caps : Array Value) (A : Option Addr) (m c : Nat) (V : Nat → Value) (p : Nat → Bool) (w : World) (h : Rd w A m V) (hm : m ≤ maxLen) (hK : ∀ xs W, Sem.run Try.prog (callFunc K xs) W = .ok (.enter K xs) W)
    (hp : ∀ i, i < m → ∀ W, Below w.heap.size w W → Calls Try.prog K (#[V i] ++ caps) W fun e w' => e = .returned (.bool (p i)) ∧ Below W.heap.size W w') :
    Calls Try.prog 25 #[.slice A m c, .func (.func K) #[] caps] w fun e w' => e = .returned (.bool (anyB p m)) ∧ Below w.heap.size w w' := by
  have H := Lib.hid h
  have HP := Lib.hid hp
  have HK := Lib.hid hK
  clear h hp hK
  go_enter Try.func25, Try.ntmps25
  go_wp2_with fail
  refine (indexWBd_any K caps A m c V p w H.out hm HK.out HP.out).mono ?_
  rintro e w' ⟨⟨rfl, hok⟩ | ⟨k, hk, hok, rfl⟩, hb⟩
  · have HO := Lib.hid hok
    clear hok
    go_wp2_with fail
    go_ret
    exact ⟨ret_bool (by rw [HO.out]), hb⟩
  · have HO := Lib.hid hok
    clear hok
    go_wp2_with fail
    go_ret
    exact ⟨ret_bool (by rw [HO.out]), hb⟩
set_option maxRecDepth 100000 in
theorem rows1_any (A B : Option Addr) (m c d g : Nat) (f f2 : Nat → Bool) (w : World) (h : Rd w A m (fun i => .bool (f i))) (k : Rd w B m (fun i => .bool (f2 i))) (hm : m ≤ maxLen) (hb : w.cell? ⟨g, 0, none⟩ = some (.slice B m d)) :
    Calls Try.prog 26 #[.slice A m c, .pointer (some ⟨g, 0, none⟩)] w fun e w' => e = .returned (.bool (eqB f f2 m)) ∧ Below w.heap.size w w' := by
  have HE := Lib.hid (equalB_any A B m c d f f2 w h k hm)
  clear h k
  go_enter Try.func26, Try.ntmps26
  go_wp2_with fail
  refine HE.out.mono ?_
  rintro e w1 ⟨rfl, hb1⟩
  go_wp2_with fail
  go_ret
  exact ⟨rfl, hb1⟩
/-- is row i among the rows before? -/
def oldR (R : Nat → SB) (m i : Nat) : Bool := anyB (fun k => eqB (R k).f (R i).f m) i
def cntR (R : Nat → SB) (m : Nat) : Nat → Nat
  | 0 => 0
  | i + 1 => if oldR R m i = true then cntR R m i else cntR R m i + 1
theorem cntR_le (R : Nat → SB) (m : Nat) : ∀ i, cntR R m i ≤ i
  | 0 => Nat.le_refl _
  | i + 1 => by
    have := cntR_le R m i
    unfold cntR
    split <;> omega
set_option maxRecDepth 100000 in
set_option maxHeartbeats 4000000 in
theorem rows_any (A : Option Addr) (n c : Nat) (R : Nat → SB) (w : World) (h : GrT w A n R) (hn : n ≤ maxLen) (hnc : n ≤ c) :
    Calls Try.prog 11 #[.slice A n c] w fun e w' => e = .returned (.tuple #[.int .i64 (if tkE n R = 0 then (cntR R (R 0).n n : Nat) else 0), .int .i64 (tkE n R)]) ∧ Below w.heap.size w w' := by
  have H := Lib.hid h
  have HN := Lib.hid hn
  obtain ⟨x, hx⟩ : ∃ x, x = tkE n R := ⟨_, rfl⟩
  have HX := Lib.hid hx
  have hz := fun (h0 : x = 0) => tkE_zero (n := n) (R := R) (by rw [← hx]; exact h0)
  rw [← hx]
  have hnx := hn
  unfold maxLen at hnx
  clear h hn
  by_cases hx0 : x = 0
  · obtain ⟨⟨n1, n4⟩, ⟨m1, m4⟩, hlen⟩ := hz hx0
    obtain ⟨m, hmm⟩ : ∃ mm, mm = (R 0).n := ⟨_, rfl⟩
    rw [← hmm] at m1 m4 hlen
    have HL := Lib.hid hlen
    rw [← hmm]
    subst hx0
    obtain ⟨rB, rO, rfl, hAlt, _⟩ := H.out.1.at_ (show 0 < n by omega)
    clear hx hz hlen hmm
    go_enter Try.func11, Try.ntmps11
    go_wp2_with fail
    refine (wrongT_any _ n c R w H.out HN.out).mono ?_
    rintro e w1 ⟨rfl, hb1⟩
    rw [← HX.out]
    have HB1 := Lib.hid hb1
    clear hb1
    go_wp2_with fail
    go_loopw [5, 15] (fun s5 s15 wr => ∃ (i q : Nat), i ≤ n ∧ q ≤ i ∧ s5 = .int .i64 (q : Nat) ∧ s15 = .int .i64 (i : Nat) ∧ Hid (q = cntR R m i) ∧ Hid (Below w.heap.size w wr)) (fun _ s15 _ => n - (intOf s15).toNat)
    case atStart => exact ⟨0, 0, Nat.zero_le _, Nat.le_refl _, rfl, rfl, Lib.hid rfl, HB1⟩
    case round =>
      obtain ⟨wo, rfl⟩ : ∃ wo : World, wo = wr := ⟨_, rfl⟩
      obtain ⟨i, q, hi, hq, rfl, rfl, HQ, HB⟩ := hrel
      by_cases hin : i < n
      · have hG := H.out.below HB.out
        have hAc : wo.cell? ⟨rB, rO + i, none⟩ = some (.slice (R i).A m (R i).c) := by
          obtain ⟨b', o', e, _, hc⟩ := hG.1.at_ hin
          cases e
          rw [hc]
          show some (Value.slice (R i).A (R i).n (R i).c) = _
          rw [HL.out i hin]
        obtain ⟨W2, hW2⟩ : ∃ X, X = wo.alloc (.cells #[.slice (R i).A m (R i).c] 28) := ⟨_, rfl⟩
        obtain ⟨g, hg⟩ : ∃ g, g = wo.heap.size := ⟨_, rfl⟩
        have hba : Below wo.heap.size wo W2 := by rw [hW2]; exact (Below.refl _ _).alloc (Nat.le_refl _) _
        have hgc : W2.cell? ⟨g, 0, none⟩ = some (.slice (R i).A m (R i).c) := by rw [hW2, hg]; simp
        have hgl : g < W2.heap.size := by rw [hW2, hg]; simp
        have hb2 := HB.out.trans (hba.mono HB.out.size)
        have hG2 := H.out.below hb2
        have hcall := containsWBd_any 26 #[.pointer (some ⟨g, 0, none⟩)] (some ⟨rB, rO, none⟩) i c (fun k => (R k).val) (fun k => eqB (R k).f (R i).f m) W2 (fun h => by
            obtain ⟨b, o, e, hl, hc⟩ := hG2.1 (show 0 < n by omega)
            exact ⟨b, o, e, hl, fun j hj => hc j (by omega)⟩) (by unfold maxLen; omega) (fun _ _ => rfl) (fun k hk X hX => by
            have hGX := H.out.below (hb2.trans (hX.mono hb2.size))
            have r1 := (hGX.2 k (by omega)).1
            have r2 := (hGX.2 i hin).1
            rw [HL.out k (by omega)] at r1
            rw [HL.out i hin] at r2
            have := rows1_any (R k).A (R i).A m (R k).c (R i).c g (R k).f (R i).f X r1 r2 (by unfold maxLen; omega) ((hX.cell (p := ⟨g, 0, none⟩) hgl).trans hgc)
            show Calls Try.prog 26 (#[.slice (R k).A (R k).n (R k).c] ++ #[.pointer (some ⟨g, 0, none⟩)]) X _
            rw [HL.out k (by omega)]
            exact this)
        have hcs : cntR R m (i + 1) = if anyB (fun k => eqB (R k).f (R i).f m) i = true then q else q + 1 := by rw [HQ.out]; rfl
        obtain ⟨yA, hyA⟩ : ∃ y, y = (R i).A := ⟨_, rfl⟩
        obtain ⟨yc, hyc⟩ : ∃ y, y = (R i).c := ⟨_, rfl⟩
        obtain ⟨bv, hbv⟩ : ∃ b, b = anyB (fun k => eqB (R k).f (R i).f m) i := ⟨_, rfl⟩
        rw [← hyA, ← hyc] at hAc hW2
        rw [← hbv] at hcall hcs
        have HCALL := Lib.hid hcall
        have HW2 := Lib.hid hW2
        have HGE := Lib.hid hg
        have HB2 := Lib.hid hb2
        have HCS := Lib.hid hcs
        clear hG hba hgc hgl hb2 hG2 hcall hcs hyA hyc hbv hW2 hg
        go_wp2_with fail
        rw [← HW2.out, ← HGE.out]
        refine HCALL.out.mono ?_
        rintro e w3 ⟨rfl, hb3⟩
        have HB3 := Lib.hid (HB2.out.trans (hb3.mono HB2.out.size))
        clear hb3 HCALL hAc
        cases bv with
        | true =>
          go_wp2_with fail
          go_roundw
          case rel => exact ⟨i + 1, q, by omega, by omega, rfl, by go_num, Lib.hid HCS.out.symm, HB3⟩
          case measure => simp [intOf]; omega
        | false =>
          go_wp2_with fail
          go_roundw
          case rel => exact ⟨i + 1, q + 1, by omega, by omega, by go_num, by go_num, Lib.hid HCS.out.symm, HB3⟩
          case measure => simp [intOf]; omega
      · obtain rfl : i = n := by omega
        go_wp2_with fail
        go_ret2
        exact ⟨by rw [HQ.out]; rfl, HB.out⟩
  · go_enter Try.func11, Try.ntmps11
    go_wp2_with fail
    refine (wrongT_any A n c R w H.out HN.out).mono ?_
    rintro e w1 ⟨rfl, hb1⟩
    have HB1 := Lib.hid hb1
    rw [← HX.out]
    clear hb1 hx
    go_wp2_with fail
    go_ret2
    exact ⟨rfl, HB1.out⟩
end Go.Proofs.Ytnfibchffbdmpaa
