/- What code.moved and code.Given compute. Conditions: as each theorem states. -/
import Derived.Test.YthdonbgimehkjaaDigits
import Derived.Test.YthdonbgimehkjaaCodeBack
namespace Go.Proofs.Ythdonbgimehkjaa
open Go.ChangeShapes Go.WideShapes Go.ChangeAt Go.RowKit
set_option linter.unusedVariables false
theorem EO4 : Elem Try.prog 22 30 4 32 := Elem.of Try.underlying22 infoOrd rfl (by omega)
/-- a slice of the call's own that is not empty is a row, elements of s cells -/
theorem Own.rowS {w : World} {base s : Nat} {e : TypeId} {A : Option Addr} {n c k : Nat} {C : Nat → Value} (h : Own w base e s A n c k C) (hn : 0 < n) :
    ∃ g F, A = some ⟨g, 0, none⟩ ∧ base ≤ g ∧ w.rowIs g e (c * s) F ∧ n ≤ c ∧ ∀ i, i < k → F i = C i := by
  rcases h.1.2 with ⟨_, h0⟩ | ⟨g, cap, cur, hv, hb, hg, hnc, hc, hs, ht⟩
  · omega
  · have hk := h.len
    injection hv with hA _ hcc
    subst hA; subst hcc
    have hle : n * s ≤ c * s := Nat.mul_le_mul_right s hnc
    refine ⟨g, fun i => (cur[i]?).getD default, rfl, hb, ⟨cur, hg, hs, fun i hi => ?_⟩, hnc, fun i hi => ?_⟩
    · have : i < cur.size := by omega
      simp [this]
    · obtain ⟨b, off, e1, _, hcell⟩ := h.rd.at_ hi
      simp at e1
      obtain ⟨rfl, rfl⟩ := e1
      rw [Nat.zero_add, cell_of_row w g i cur e (0, 0) hg] at hcell
      show (cur[i]?).getD default = _
      rw [hcell]; rfl
set_option maxRecDepth 100000 in
theorem cloneOrd_any (A : Option Addr) (m c : Nat) (F : Nat → Int) (w : World) (h : Rd w A (m * 4) (fun q => .int .i64 (F q))) (hm : m ≤ 1000000) :
    Calls Try.prog 28 #[.slice A m c] w fun e w' => ∃ A' c', e = .returned (.slice A' m c') ∧ Own w' w.heap.size 30 4 A' m c' (m * 4) (fun q => .int .i64 (F q)) ∧ Below w.heap.size w w' := by
  have hnil := fun (W : World) (a : Option Addr) (n c : Nat) => Lib.run_eql_slice_nil (P := Try.prog) W 22 30 a n c 0 0 Try.underlying22
  cases A with
  | none =>
    obtain rfl : m = 0 := by
      rcases Nat.eq_zero_or_pos m with h0 | h0
      · exact h0
      · obtain ⟨b, off, e, _⟩ := h (by omega); cases e
    go_enter Try.func28, Try.ntmps28
    go_wp2_with fail
    go_ret
    exact ⟨_, _, rfl, by rw [Nat.zero_mul]; exact Own.nil _ _ _ _ _, Below.refl _ _⟩
  | some a =>
    go_enter Try.func28, Try.ntmps28
    go_wp2_with (at_builtin; refine wpList_app _ rfl (.tmp 5) (.tmp 6) 22 rfl EO4 rfl (Own.empty w w.heap.size 30 4 (fun _ => .int .i64 0) (Nat.le_refl _)) rfl (l := m * 4) rfl (h.alloc _) (fun _ _ => rfl) (by unfold maxLen; omega) (by omega) (by simp) m (m * 4) (by omega) (by omega) ?_; intro A2 c2 w2 hown2 hg2 hat2 hbl2)
    go_ret
    exact ⟨_, _, rfl, hown2.congr (fun i hi => by rw [cat_ge (Nat.zero_le _), Nat.sub_zero]), ((Below.refl w.heap.size w).alloc (Nat.le_refl _) _).trans hbl2⟩
/-- orders that stand k farther on -/
def mvF (F : Nat → Int) (k : Int) (q : Nat) : Int := if q % 4 = 2 ∨ q % 4 = 3 then F q + k else F q
set_option maxRecDepth 100000 in
set_option maxHeartbeats 1000000 in
theorem moved_any (A : Option Addr) (m c : Nat) (F : Nat → Int) (k : Nat) (w : World) (h : Rd w A (m * 4) (fun q => .int .i64 (F q))) (hm0 : 0 < m) (hm : m ≤ 1000) (hk : k ≤ 1000) (hF : ∀ i, i < m → (-1000000000000000000 ≤ F (4 * i + 2) ∧ F (4 * i + 2) ≤ 1000000000000000000) ∧ (-1000000000000000000 ≤ F (4 * i + 3) ∧ F (4 * i + 3) ≤ 1000000000000000000)) :
    Calls Try.prog 20 #[.slice A m c, .int .i64 k] w fun e w' => ∃ A' c', e = .returned (.slice A' m c') ∧ Rd w' A' (m * 4) (fun q => .int .i64 (mvF F k q)) ∧ m ≤ c' ∧ c' ≤ maxLen ∧ Below w.heap.size w w' := by
  have HCL := Lib.hid (cloneOrd_any A m c F w h (by omega))
  have HF := Lib.hid hF
  clear h hF
  go_enter Try.func20, Try.ntmps20
  go_wp2_with fail
  refine HCL.out.mono ?_
  rintro e w1 ⟨A1, c1, rfl, hown, hb1⟩
  have hle := hown.le
  obtain ⟨g, R0, rfl, hg, hrow0, hmc, hR0⟩ := hown.rowS hm0
  have HB1 := Lib.hid hb1
  have HR0 := Lib.hid hR0
  clear hown hb1 HCL hR0
  go_wp2_with fail
  go_loopw [11] (fun s11 wr => ∃ i : Nat, i ≤ m ∧ s11 = .int .i64 (i : Nat) ∧ (∃ R, wr.rowIs g 30 (c1 * 4) R ∧ Hid (∀ q, q < m * 4 → R q = .int .i64 (if q < 4 * i then mvF F k q else F q))) ∧ Hid (Below w.heap.size w wr)) (fun s11 _ => m - (intOf s11).toNat)
  case atStart => exact ⟨0, Nat.zero_le _, rfl, ⟨R0, hrow0, Lib.hid fun q hq => by rw [HR0.out q hq, if_neg (by omega)]⟩, HB1⟩
  case round =>
    obtain ⟨wo, rfl⟩ : ∃ wo : World, wo = wr := ⟨_, rfl⟩
    obtain ⟨i, hi, rfl, ⟨R, hrow, HR⟩, HB⟩ := hrel
    clear hrow0
    by_cases hlt : i < m
    · obtain ⟨⟨u1, u2⟩, v1, v2⟩ := HF.out i hlt
      have hb4 : 4 * i + 3 < c1 * 4 := by omega
      have c2 := hrow.cell (i := 4 * i + 2) (by omega)
      have c3 := hrow.cell (i := 4 * i + 3) (by omega)
      rw [HR.out _ (by omega), if_neg (by omega)] at c2 c3
      have z2 := hrow.frozen (4 * i + 2)
      have z3 := hrow.frozen (4 * i + 3)
      obtain ⟨x2, h2⟩ : ∃ x, x = F (4 * i + 2) := ⟨_, rfl⟩
      obtain ⟨x3, h3⟩ : ∃ x, x = F (4 * i + 3) := ⟨_, rfl⟩
      rw [← h2] at c2 u1 u2
      rw [← h3] at c3 v1 v2
      obtain ⟨p, hp⟩ : ∃ p, p = 4 * i := ⟨_, rfl⟩
      have hp2 : i * 4 = p := by omega
      have c2' : wo.cell? ⟨g, i * 4 + 2, none⟩ = some (.int .i64 x2) := by rw [hp2, hp]; exact c2
      have c3' : wo.cell? ⟨g, i * 4 + 3, none⟩ = some (.int .i64 x3) := by rw [hp2, hp]; exact c3
      have z2' : wo.frozen? ⟨g, i * 4 + 2, none⟩ = false := by rw [hp2, hp]; exact z2
      have z3' : wo.frozen? ⟨g, i * 4 + 3, none⟩ = false := by rw [hp2, hp]; exact z3
      have HP := Lib.hid hp
      have HP2 := Lib.hid hp2
      have H2 := Lib.hid h2
      have H3 := Lib.hid h3
      clear c2 c3 z2 z3 hp hp2 h2 h3
      go_wp2_with fail
      go_roundw
      case rel => exact ⟨i + 1, by omega, by go_num, ⟨_, (hrow.set (i * 4 + 2) _).set (i * 4 + 3) _, Lib.hid fun q hq => by
        have e2 := H2.out
        have e3 := H3.out
        by_cases q3 : q = i * 4 + 3
        · rw [if_pos q3, if_pos (by omega), q3, e3]; unfold mvF; rw [if_pos (by omega), show i * 4 + 3 = 4 * i + 3 by omega]
        · rw [if_neg q3]
          by_cases q2 : q = i * 4 + 2
          · rw [if_pos q2, if_pos (by omega), q2, e2]; unfold mvF; rw [if_pos (by omega), show i * 4 + 2 = 4 * i + 2 by omega]
          · rw [if_neg q2, HR.out q hq]
            by_cases h4 : q < 4 * i
            · rw [if_pos h4, if_pos (by omega)]
            · rw [if_neg h4]
              by_cases h5 : q < 4 * (i + 1)
              · rw [if_pos h5]; unfold mvF; rw [if_neg (by omega)]
              · rw [if_neg h5]⟩, Lib.hid ((HB.out.setCell (p := ⟨g, i * 4 + 2, none⟩) hg _).setCell (p := ⟨g, i * 4 + 3, none⟩) hg _)⟩
      case measure => simp [intOf]; omega
    · obtain rfl : i = m := by omega
      go_wp2_with fail
      go_ret
      exact ⟨_, _, rfl, (Rd.of_row hrow (by omega)).congr fun q hq => by rw [HR.out q hq, if_pos (by omega)], hmc, hle.2, HB.out⟩
/-- k times one more of the first counter, and then the orders, k farther on -/
def gvF (F : Nat → Int) (k : Nat) (q : Nat) : Int := if q < 4 * k then (if q % 4 = 0 then 1 else if q % 4 = 2 then ((q / 4 : Nat) : Int) + 1 else 0) else mvF F k (q - 4 * k)
def GivRet (cs : Int) (M : Nat) (g : Nat → Int) (k : Nat) (w : World) (e : Ending) (w' : World) : Prop :=
  Below w.heap.size w w' ∧ ((ordE cs M g ≠ 0 ∧ e = .returned (.tuple #[.slice none 0 0, .int .i64 (ordE cs M g)])) ∨ (ordE cs M g = 0 ∧ ∃ A c, e = .returned (.tuple #[.slice A (4 * (k + M / 4)) c, .int .i64 0]) ∧ Rd w' A (4 * (k + M / 4)) (fun q => .int .i64 (dgF (gvF g k) q)) ∧ 4 * (k + M / 4) ≤ c ∧ c ≤ maxLen))
theorem ord_bd {cs : Int} {M : Nat} {g : Nat → Int} (h : ordE cs M g = 0) : (1 ≤ M / 4 ∧ M / 4 ≤ 12 ∧ 1 ≤ cs ∧ cs ≤ 4) ∧ ∀ i, i < M / 4 → (0 ≤ g (4 * i + 2) ∧ g (4 * i + 2) ≤ 12) ∧ (0 ≤ g (4 * i + 3) ∧ g (4 * i + 3) ≤ 12) := by
  obtain ⟨h4, hb, hc⟩ := ordE_zero h
  unfold ckO at hc
  by_cases e : cs < 1 ∨ 4 < cs ∨ M / 4 < 1 ∨ 12 < M / 4
  · rw [if_pos e] at hc; cases hc
  · rw [if_neg e] at hc
    refine ⟨by omega, fun i hi => ?_⟩
    obtain ⟨o1, o2, o3, o4⟩ := oE_zero (fstE_zero.1 hc i hi)
    refine ⟨by omega, ?_⟩
    have hbi := of_decide_eq_false (hb i hi)
    rcases o1 with o1 | o1
    · have : g (4 * i + 3) = 0 := Classical.byContradiction fun hn => hbi ⟨o1, hn⟩
      omega
    · have := o4 o1; omega
set_option maxRecDepth 100000 in
set_option maxHeartbeats 1000000 in
theorem given_any (cs : Int) (A : Option Addr) (M c : Nat) (g : Nat → Int) (k : Nat) (w : World) (hA : Rd w A M (fun i => .int .i64 (g i))) (hMc : M ≤ c) (hc : c ≤ maxLen) (hz : M * 8 ≤ 140737488351232) (hk : k ≤ 3) :
    Calls Try.prog 9 #[.int .i64 cs, .slice A M c, .int .i64 k] w (GivRet cs M g k w) := by
  have HORD := Lib.hid (orders_any cs A M c g w hA hMc hc hz)
  clear hA hMc hc hz
  go_enter Try.func9, Try.ntmps9
  go_wp2_with fail
  refine HORD.out.mono ?_
  intro e w1 hr
  obtain ⟨hb1, hr⟩ := hr
  have HB1 := Lib.hid hb1
  rcases hr with ⟨hne, rfl⟩ | ⟨hz0, A1, c1, rfl, hR1, hl1, hm1⟩
  · obtain ⟨E, hE⟩ : ∃ x, x = ordE cs M g := ⟨_, rfl⟩
    have HE := Lib.hid hE
    rw [← hE] at hne
    rw [← hE]
    have q0 : (E != 0) = true := by rw [bne_iff_ne]; exact hne
    have HNE := Lib.hid hne
    clear hne hE hb1 HORD
    go_wp2_with fail
    go_ret2
    exact ⟨HB1.out, .inl ⟨by rw [← HE.out]; exact HNE.out, HE.out ▸ rfl⟩⟩
  · obtain ⟨⟨b1, b2, b3, b4⟩, b5⟩ := ord_bd hz0
    have HZ := Lib.hid hz0
    obtain ⟨m, hm⟩ : ∃ x, x = M / 4 := ⟨_, rfl⟩
    rw [← hm] at hR1 hl1 b1 b2 b5
    rw [← hm]
    have HM := Lib.hid hm
    have HR1 := Lib.hid hR1
    have HB5 := Lib.hid b5
    clear hb1 HORD hR1 hz0 hm b5
    go_wp2_with fail
    go_loopw [10, 28] (fun s10 s28 wr => ∃ (i x : Nat) (A' : Option Addr) (c' : Nat), i ≤ k ∧ Hid (x = 4 * i) ∧ x ≤ 12 ∧ s28 = .int .i64 (i : Nat) ∧ s10 = .slice A' i c' ∧ Hid (Own wr w1.heap.size 30 4 A' i c' x (fun q => .int .i64 (gvF g k q))) ∧ Hid (Below w1.heap.size w1 wr)) (fun _ s28 _ => k - (intOf s28).toNat)
    case atStart => exact ⟨0, 0, none, 0, Nat.zero_le _, Lib.hid rfl, by omega, rfl, rfl, Lib.hid (Own.nil _ _ _ _ _), Lib.hid (Below.refl _ _)⟩
    case round =>
      obtain ⟨wo, rfl⟩ : ∃ wo : World, wo = wr := ⟨_, rfl⟩
      obtain ⟨i, x, A', c', hi, HX, hx12, rfl, rfl, HO, HB⟩ := hrel
      have hsz := HB.out.size
      by_cases hlt : i < k
      · go_wp2_with (at_builtin; refine wpList_app _ rfl (.tmp 31) (.tmp 35) 22 rfl EO4 rfl (HO.out.alloc _) rfl (l := 4) (by omega) (rd4 wo rfl (.int .i64 1) (.int .i64 0) (.int .i64 ((i : Int) + 1)) (.int .i64 0) 30) (fun i _ => by split <;> (try split) <;> (try split) <;> rfl) (by unfold maxLen; omega) (by omega) (by simp; omega) (i + 1) (x + 4) rfl rfl ?_; intro A2 c2 w4 hown2 hg2 hat2 hbl2)
        go_roundw
        case rel => exact ⟨i + 1, x + 4, A2, c2, by omega, Lib.hid (by have := HX.out; omega), by have := HX.out; omega, by go_num, rfl, Lib.hid (hown2.congr fun q hq => by
          have hX := HX.out
          by_cases e : q < x
          · rw [cat_lt e]
          · rw [cat_ge (by omega)]
            have : q = x ∨ q = x + 1 ∨ q = x + 2 ∨ q = x + 3 := by omega
            rcases this with rfl | rfl | rfl | rfl
            · rw [Nat.sub_self]
              show Value.int .i64 1 = .int .i64 (if q < 4 * k then _ else _)
              rw [if_pos (show q < 4 * k by omega), if_pos (show q % 4 = 0 by omega)]
            · rw [show x + 1 - x = 1 by omega]
              show Value.int .i64 0 = .int .i64 (if x + 1 < 4 * k then _ else _)
              rw [if_pos (show x + 1 < 4 * k by omega), if_neg (show ¬ (x + 1) % 4 = 0 by omega), if_neg (show ¬ (x + 1) % 4 = 2 by omega)]
            · rw [show x + 2 - x = 2 by omega]
              show Value.int .i64 ((i : Int) + 1) = .int .i64 (if x + 2 < 4 * k then _ else _)
              rw [if_pos (show x + 2 < 4 * k by omega), if_neg (show ¬ (x + 2) % 4 = 0 by omega), if_pos (show (x + 2) % 4 = 2 by omega), show (x + 2) / 4 = i by omega]
            · rw [show x + 3 - x = 3 by omega]
              show Value.int .i64 0 = .int .i64 (if x + 3 < 4 * k then _ else _)
              rw [if_pos (show x + 3 < 4 * k by omega), if_neg (show ¬ (x + 3) % 4 = 0 by omega), if_neg (show ¬ (x + 3) % 4 = 2 by omega)]), Lib.hid ((HB.out.alloc HB.out.size _).trans hbl2)⟩
        case measure => simp [intOf]; omega
      · obtain rfl : i = k := by omega
        have HMV := Lib.hid (moved_any A1 m c1 g i wo (HR1.out.below HB.out) (by omega) (by omega) (by omega) (fun j hj => by have := HB5.out j hj; omega))
        go_wp2_with fail
        refine HMV.out.mono ?_
        rintro e w3 ⟨A3, c3, rfl, hR3, hl3, hm3, hb3⟩
        have HO3 := Lib.hid (HO.out.below hb3)
        have HB3 := Lib.hid (HB.out.trans (hb3.mono HB.out.size))
        have HR3 := Lib.hid hR3
        have hs3 := hb3.size
        clear hb3 hR3 HMV
        go_wp2_with (at_builtin; refine wpList_app _ rfl (.tmp 38) (.tmp 41) 22 rfl EO4 rfl HO3.out rfl (l := m * 4) rfl HR3.out (fun _ _ => rfl) (by unfold maxLen; omega) (by omega) (by omega) (i + m) (x + m * 4) rfl rfl ?_; intro A4 c4 w4 hown4 hg4 hat4 hbl4; have HO4 := Lib.hid hown4; have HB4 := Lib.hid (HB3.out.trans hbl4); clear hown4 hbl4)
        have hrd : Rd w4 A4 ((i + m) * 4) (fun q => .int .i64 (gvF g i q)) := by
          have hX := HX.out
          have := HO4.out.rd
          rw [show x + m * 4 = (i + m) * 4 by omega] at this
          refine this.congr fun q hq => ?_
          by_cases e : q < x
          · rw [cat_lt e]
          · rw [cat_ge (by omega)]
            unfold gvF
            rw [if_neg (by omega), show q - 4 * i = q - x by omega]
        refine (digits_any A4 (i + m) c4 (gvF g i) w4 hrd (by omega)).mono ?_
        rintro e w5 ⟨A5, c5, rfl, hown5, hb5⟩
        have HB5' := Lib.hid (HB1.out.trans ((HB4.out.trans (hb5.mono HB4.out.size)).mono HB1.out.size))
        have hle5 := hown5.le
        have HR5 := Lib.hid hown5.rd
        clear hown5 hb5 hrd
        go_wp2_with fail
        go_ret2
        exact ⟨HB5'.out, .inr ⟨HZ.out, A5, c5, by rw [← HM.out]; rfl, by rw [← HM.out]; exact HR5.out, by rw [← HM.out]; exact hle5.1, hle5.2⟩⟩
end Go.Proofs.Ythdonbgimehkjaa
