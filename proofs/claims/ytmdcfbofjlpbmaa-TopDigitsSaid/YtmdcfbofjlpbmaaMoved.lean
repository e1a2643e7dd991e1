/- What code.moved and code.Given compute. Conditions: as each theorem states. -/
import Derived.Test.YtmdcfbofjlpbmaaDigits
import Derived.Test.YtmdcfbofjlpbmaaCodeBack
namespace Go.Proofs.Ytmdcfbofjlpbmaa
open Go.ChangeShapes Go.WideShapes Go.ChangeAt Go.RowKit
set_option linter.unusedVariables false
theorem EO4 : Elem Try.prog 22 28 4 32 := Elem.of Try.underlying22 infoOrd rfl (by omega)
/-- a slice of the call's own that is not empty is a row, elements of s cells -/
theorem Own.rowS {w : World} {base s : Nat} {e : TypeId} {A : Option Addr} {n c k : Nat} {C : Nat → Value} (h : Own w base e s A n c k C) (hn : 0 < n) :
    ∃ g F, A = some ⟨g, 0, none⟩ ∧ base ≤ g ∧ w.rowIs g e (c * s) F ∧ n ≤ c ∧ ∀ i, i < k → F i = C i := by
  rcases h.1.2 with ⟨_, h0⟩ | ⟨g, cap, cur, hv, hb, hg, hnc, hc, hs, ht⟩
  · omega
  · have hk := h.len
    injection hv with hA _ hcc
    subst hA; subst hcc
    have hle : n * s ≤ c * s := Nat.mul_le_mul_right s hnc
    refine ⟨g, fun i => (cur[i]?).getD default, rfl, hb, ⟨cur, hg, hs, fun i hi => ?_⟩, hnc, fun i hi => ?_⟩
    · have : i < cur.size := by omega
      simp [this]
    · obtain ⟨b, off, e1, _, hcell⟩ := h.rd.at_ hi
      simp at e1
      obtain ⟨rfl, rfl⟩ := e1
      rw [Nat.zero_add, cell_of_row w g i cur e (0, 0) hg] at hcell
      show (cur[i]?).getD default = _
      rw [hcell]; rfl
set_option maxRecDepth 100000 in
theorem cloneOrd_any (A : Option Addr) (m c : Nat) (F : Nat → Int) (w : World) (h : Rd w A (m * 4) (fun q => .int .i64 (F q))) (hm : m ≤ 1000000) :
    Calls Try.prog 15 #[.slice A m c] w fun e w' => ∃ A' c', e = .returned (.slice A' m c') ∧ Own w' w.heap.size 28 4 A' m c' (m * 4) (fun q => .int .i64 (F q)) ∧ Below w.heap.size w w' := by
  have hnil := fun (W : World) (a : Option Addr) (n c : Nat) => Lib.run_eql_slice_nil (P := Try.prog) W 22 28 a n c 0 0 Try.underlying22
  cases A with
  | none =>
    obtain rfl : m = 0 := by
      rcases Nat.eq_zero_or_pos m with h0 | h0
      · exact h0
      · obtain ⟨b, off, e, _⟩ := h (by omega); cases e
    go_enter Try.func15, Try.ntmps15
    go_wp2_with fail
    go_ret
    exact ⟨_, _, rfl, by rw [Nat.zero_mul]; exact Own.nil _ _ _ _ _, Below.refl _ _⟩
  | some a =>
    go_enter Try.func15, Try.ntmps15
    go_wp2_with (at_builtin; refine wpList_app _ rfl (.tmp 5) (.tmp 6) 22 rfl EO4 rfl (Own.empty w w.heap.size 28 4 (fun _ => .int .i64 0) (Nat.le_refl _)) rfl (l := m * 4) rfl (h.alloc _) (fun _ _ => rfl) (by unfold maxLen; omega) (by omega) (by simp) m (m * 4) (by omega) (by omega) ?_; intro A2 c2 w2 hown2 hg2 hat2 hbl2)
    go_ret
    exact ⟨_, _, rfl, hown2.congr (fun i hi => by rw [cat_ge (Nat.zero_le _), Nat.sub_zero]), ((Below.refl w.heap.size w).alloc (Nat.le_refl _) _).trans hbl2⟩
/-- orders that stand k farther on -/
def mvF (F : Nat → Int) (k : Int) (q : Nat) : Int := if q % 4 = 2 ∨ q % 4 = 3 then F q + k else F q
set_option maxRecDepth 100000 in
set_option maxHeartbeats 1000000 in
theorem moved_any (A : Option Addr) (m c : Nat) (F : Nat → Int) (k : Nat) (w : World) (h : Rd w A (m * 4) (fun q => .int .i64 (F q))) (hm0 : 0 < m) (hm : m ≤ 1000) (hk : k ≤ 1000) (hF : ∀ i, i < m → (-1000000000000000000 ≤ F (4 * i + 2) ∧ F (4 * i + 2) ≤ 1000000000000000000) ∧ (-1000000000000000000 ≤ F (4 * i + 3) ∧ F (4 * i + 3) ≤ 1000000000000000000)) :
    Calls Try.prog 16 #[.slice A m c, .int .i64 k] w fun e w' => ∃ A' c', e = .returned (.slice A' m c') ∧ Rd w' A' (m * 4) (fun q => .int .i64 (mvF F k q)) ∧ m ≤ c' ∧ c' ≤ maxLen ∧ Below w.heap.size w w' := by
  have HCL := Lib.hid (cloneOrd_any A m c F w h (by omega))
  have HF := Lib.hid hF
  clear h hF
  go_enter Try.func16, Try.ntmps16
  go_wp2_with fail
  refine HCL.out.mono ?_
  rintro e w1 ⟨A1, c1, rfl, hown, hb1⟩
  have hle := hown.le
  obtain ⟨g, R0, rfl, hg, hrow0, hmc, hR0⟩ := hown.rowS hm0
  have HB1 := Lib.hid hb1
  have HR0 := Lib.hid hR0
  clear hown hb1 HCL hR0
  go_wp2_with fail
  go_loopw [11] (fun s11 wr => ∃ i : Nat, i ≤ m ∧ s11 = .int .i64 (i : Nat) ∧ (∃ R, wr.rowIs g 28 (c1 * 4) R ∧ Hid (∀ q, q < m * 4 → R q = .int .i64 (if q < 4 * i then mvF F k q else F q))) ∧ Hid (Below w.heap.size w wr)) (fun s11 _ => m - (intOf s11).toNat)
  case atStart => exact ⟨0, Nat.zero_le _, rfl, ⟨R0, hrow0, Lib.hid fun q hq => by rw [HR0.out q hq, if_neg (by omega)]⟩, HB1⟩
  case round =>
    obtain ⟨wo, rfl⟩ : ∃ wo : World, wo = wr := ⟨_, rfl⟩
    obtain ⟨i, hi, rfl, ⟨R, hrow, HR⟩, HB⟩ := hrel
    clear hrow0
    by_cases hlt : i < m
    · obtain ⟨⟨u1, u2⟩, v1, v2⟩ := HF.out i hlt
      have hb4 : 4 * i + 3 < c1 * 4 := by omega
      have c2 := hrow.cell (i := 4 * i + 2) (by omega)
      have c3 := hrow.cell (i := 4 * i + 3) (by omega)
      rw [HR.out _ (by omega), if_neg (by omega)] at c2 c3
      have z2 := hrow.frozen (4 * i + 2)
      have z3 := hrow.frozen (4 * i + 3)
      obtain ⟨x2, h2⟩ : ∃ x, x = F (4 * i + 2) := ⟨_, rfl⟩
      obtain ⟨x3, h3⟩ : ∃ x, x = F (4 * i + 3) := ⟨_, rfl⟩
      rw [← h2] at c2 u1 u2
      rw [← h3] at c3 v1 v2
      obtain ⟨p, hp⟩ : ∃ p, p = 4 * i := ⟨_, rfl⟩
      have hp2 : i * 4 = p := by omega
      have c2' : wo.cell? ⟨g, i * 4 + 2, none⟩ = some (.int .i64 x2) := by rw [hp2, hp]; exact c2
      have c3' : wo.cell? ⟨g, i * 4 + 3, none⟩ = some (.int .i64 x3) := by rw [hp2, hp]; exact c3
      have z2' : wo.frozen? ⟨g, i * 4 + 2, none⟩ = false := by rw [hp2, hp]; exact z2
      have z3' : wo.frozen? ⟨g, i * 4 + 3, none⟩ = false := by rw [hp2, hp]; exact z3
      have HP := Lib.hid hp
      have HP2 := Lib.hid hp2
      have H2 := Lib.hid h2
      have H3 := Lib.hid h3
      clear c2 c3 z2 z3 hp hp2 h2 h3
      go_wp2_with fail
      go_roundw
      case rel => exact ⟨i + 1, by omega, by go_num, ⟨_, (hrow.set (i * 4 + 2) _).set (i * 4 + 3) _, Lib.hid fun q hq => by
        have e2 := H2.out
        have e3 := H3.out
        by_cases q3 : q = i * 4 + 3
        · rw [if_pos q3, if_pos (by omega), q3, e3]; unfold mvF; rw [if_pos (by omega), show i * 4 + 3 = 4 * i + 3 by omega]
        · rw [if_neg q3]
          by_cases q2 : q = i * 4 + 2
          · rw [if_pos q2, if_pos (by omega), q2, e2]; unfold mvF; rw [if_pos (by omega), show i * 4 + 2 = 4 * i + 2 by omega]
          · rw [if_neg q2, HR.out q hq]
            by_cases h4 : q < 4 * i
            · rw [if_pos h4, if_pos (by omega)]
            · rw [if_neg h4]
              by_cases h5 : q < 4 * (i + 1)
              · rw [if_pos h5]; unfold mvF; rw [if_neg (by omega)]
              · rw [if_neg h5]⟩, Lib.hid ((HB.out.setCell (p := ⟨g, i * 4 + 2, none⟩) hg _).setCell (p := ⟨g, i * 4 + 3, none⟩) hg _)⟩
      case measure => simp [intOf]; omega
    · obtain rfl : i = m := by omega
      go_wp2_with fail
      go_ret
      exact ⟨_, _, rfl, (Rd.of_row hrow (by omega)).congr fun q hq => by rw [HR.out q hq, if_pos (by omega)], hmc, hle.2, HB.out⟩
/-- k times one more of the first counter, and then the orders, k farther on -/
def gvF (F : Nat → Int) (k : Nat) (q : Nat) : Int := if q < 4 * k then (if q % 4 = 0 then 1 else if q % 4 = 2 then ((q / 4 : Nat) : Int) + 1 else 0) else mvF F k (q - 4 * k)
def GivRet (cs : Int) (M : Nat) (g : Nat → Int) (k : Nat) (w : World) (e : Ending) (w' : World) : Prop :=
  Below w.heap.size w w' ∧ ((ordE cs M g ≠ 0 ∧ e = .returned (.tuple #[.slice none 0 0, .int .i64 (ordE cs M g)])) ∨ (ordE cs M g = 0 ∧ ∃ A c, e = .returned (.tuple #[.slice A (4 * (k + M / 4)) c, .int .i64 0]) ∧ Rd w' A (4 * (k + M / 4)) (fun q => .int .i64 (dgF (gvF g k) q)) ∧ 4 * (k + M / 4) ≤ c ∧ c ≤ maxLen))
theorem ord_bd {cs : Int} {M : Nat} {g : Nat → Int} (h : ordE cs M g = 0) : (1 ≤ M / 4 ∧ M / 4 ≤ 12 ∧ 1 ≤ cs ∧ cs ≤ 4) ∧ ∀ i, i < M / 4 → (0 ≤ g (4 * i + 2) ∧ g (4 * i + 2) ≤ 12) ∧ (0 ≤ g (4 * i + 3) ∧ g (4 * i + 3) ≤ 12) := by
  obtain ⟨h4, hb, hc⟩ := ordE_zero h
  unfold ckO at hc
  by_cases e : cs < 1 ∨ 4 < cs ∨ M / 4 < 1 ∨ 12 < M / 4
  · rw [if_pos e] at hc; cases hc
  · rw [if_neg e] at hc
    refine ⟨by omega, fun i hi => ?_⟩
    obtain ⟨o1, o2, o3, o4⟩ := oE_zero (fstE_zero.1 hc i hi)
    refine ⟨by omega, ?_⟩
    have hbi := of_decide_eq_false (hb i hi)
    rcases o1 with o1 | o1
    · have : g (4 * i + 3) = 0 := Classical.byContradiction fun hn => hbi ⟨o1, hn⟩
      omega
    · have := o4 o1; omega
end Go.Proofs.Ytmdcfbofjlpbmaa
