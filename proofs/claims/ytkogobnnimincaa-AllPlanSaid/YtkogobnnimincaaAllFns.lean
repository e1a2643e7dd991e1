/- What all.wrong, wins, all.True and the references' AllCheck compute. Conditions: as each theorem states. -/
import Derived.Test.YtkogobnnimincaaNameTrue
import Derived.Test.YtkogobnnimincaaAllLaw
import Derived.Test.YtkogobnnimincaaGrow
import Derived.Test.YtkogobnnimincaaRow
namespace Go.Proofs.Ytkogobnnimincaa
open Go.ChangeShapes Go.WideShapes Go.ChangeAt Go.RowKit
set_option linter.unusedVariables false
theorem EBa : Elem Try.prog 23 4 1 1 := Elem.of Try.underlying23 (by kernel_rfl : (Try.prog.info? 4).map (fun i => (i.zero, i.size, i.bytes)) = some (some (.bool false), 1, 1)) rfl (by omega)
def alE (m n : Nat) (Y N : Nat → SI) : Int := if 8 < m ∨ 12 < n then 1 else wrC m 8 n Y N
theorem wrC_most {vars a b : Int} {n : Nat} {Y N : Nat → SI} (ha : vars ≤ a) (hb : vars ≤ b) : wrC vars a n Y N = wrC vars b n Y N := by
  unfold wrC
  by_cases e : vars < 0 ∨ 200 < n
  · rw [if_pos (by omega), if_pos (by omega)]
  · rw [if_neg (by omega), if_neg (by omega)]
theorem rd_made (W : World) (V : Nat) (v : Value) (e : TypeId) : Rd (W.alloc (.cells (madeCells #[v] V) e)) (some ⟨W.heap.size, 0, none⟩) V (fun _ => v) := Rd.of_row (World.rowIs_made W v V e) (Nat.le_refl _)
set_option maxRecDepth 100000 in
set_option maxHeartbeats 1000000 in
theorem allWrong_any (KA A : Option Addr) (m kc n c : Nat) (Y N : Nat → SI) (w : World) (hC : Cls w A n Y N) (hn : n ≤ maxLen) (hm : m ≤ maxLen) :
    Calls Try.prog 12 #[.slice KA m kc, .slice A n c] w fun e w' => e = .returned (.int .i64 (alE m n Y N)) ∧ Below w.heap.size w w' := by
  have H := Lib.hid hC
  have HN := Lib.hid hn
  unfold maxLen at hn hm
  clear hC
  by_cases h1 : 8 < m
  · have er : alE m n Y N = 1 := if_pos (.inl h1)
    rw [er]
    clear er
    go_enter Try.func12, Try.ntmps12
    go_wp2_with fail
    go_ret
    exact ⟨rfl, Below.refl _ _⟩
  · by_cases h2 : 12 < n
    · have er : alE m n Y N = 1 := if_pos (.inr h2)
      rw [er]
      clear er
      go_enter Try.func12, Try.ntmps12
      go_wp2_with fail
      go_ret
      exact ⟨rfl, Below.refl _ _⟩
    · have er : alE m n Y N = wrC m 200 n Y N := by unfold alE; rw [if_neg (by omega)]; exact wrC_most (by omega) (by omega)
      have et : trE m n Y N m = alE m n Y N := by
        rw [er]; unfold trE
        by_cases e : wrC m 200 n Y N = 0
        · rw [if_pos e, if_pos rfl, e]
        · rw [if_neg e]
      have ET := Lib.hid et
      have hmk := fun W => run_make_row' (P := Try.prog) 23 4 (.bool false) 1 Try.underlying23 info_bool rfl .i64 .i64 m (by omega) (by omega) W
      have m8 : m ≤ 8 := by omega
      clear er et
      go_enter Try.func12, Try.ntmps12
      go_wp2_with fail
      refine (true_any m A (some ⟨w.heap.size, 0, none⟩) n c m m Y N (fun _ => false) _ (H.out.below ((Below.refl _ _).alloc (Nat.le_refl _) _)) (rd_made w m (.bool false) _) HN.out (by unfold maxLen; omega)).mono ?_
      rintro e w1 ⟨rfl, hb1⟩
      go_wp2_with fail
      go_ret
      exact ⟨ret_int ET.out, ((Below.refl _ _).alloc (Nat.le_refl _) _).trans (hb1.mono (by simp))⟩
set_option maxRecDepth 100000 in
theorem allCheck_any (KA A : Option Addr) (m kc n c : Nat) (Y N : Nat → SI) (w : World) (hC : Cls w A n Y N) (hn : n ≤ maxLen) (hm : m ≤ maxLen) :
    Calls Try.prog 6 #[.slice KA m kc, .slice A n c] w fun e w' => e = .returned (.int .i64 (alE m n Y N)) ∧ Below w.heap.size w w' := by
  have H := Lib.hid hC
  have HN := Lib.hid hn
  unfold maxLen at hn hm
  clear hC
  by_cases h1 : 8 < m
  · have er : alE m n Y N = 1 := if_pos (.inl h1)
    rw [er]
    clear er
    go_enter Try.func6, Try.ntmps6
    go_wp2_with fail
    go_ret
    exact ⟨rfl, Below.refl _ _⟩
  · by_cases h2 : 12 < n
    · have er : alE m n Y N = 1 := if_pos (.inr h2)
      rw [er]
      clear er
      go_enter Try.func6, Try.ntmps6
      go_wp2_with fail
      go_ret
      exact ⟨rfl, Below.refl _ _⟩
    · have er : alE m n Y N = wrC m 8 n Y N := if_neg (by omega)
      rw [er]
      clear er
      go_enter Try.func6, Try.ntmps6
      go_wp2_with (go_at_call 14; refine (clausesCheck_any m 8 A n c Y N w H.out HN.out).mono ?_; rintro e w' ⟨rfl, hb⟩)
      go_ret
      exact ⟨rfl, hb⟩
/-- where a slice of values begins: nowhere, or at a plain place -/
def Plain (HA : Option Addr) (j hc : Nat) : Prop := (HA = none ∧ j = 0 ∧ hc = 0) ∨ ∃ b off, HA = some ⟨b, off, none⟩
theorem Own.plain {w : World} {base : Nat} {e : TypeId} {A : Option Addr} {n c : Nat} {C : Nat → Value} (h : Own w base e 1 A n c n C) (hn : 0 < n) : Plain A n c := by
  obtain ⟨g, F, e, _⟩ := h.row hn
  exact .inr ⟨g, 0, e⟩
theorem cat_set (h : Nat → Bool) (j : Nat) (b : Bool) : ∀ i, i < j + 1 → cat j (fun i => .bool (h i)) (fun _ => .bool b) i = (.bool (setB h j b i) : Value) := fun i hi => by
  by_cases e : i < j
  · rw [cat_lt e, setB_lt e]
  · obtain rfl : i = j := by omega
    rw [cat_ge (Nat.le_refl _), setB_eq]
set_option maxRecDepth 100000 in
set_option maxHeartbeats 4000000 in
theorem wins_any (KA A : Option Addr) (m kc n c : Nat) (K : Nat → Bool) (Y N : Nat → SI) (hm : m ≤ 8) (hok : wrC m 200 n Y N = 0) (hn : n ≤ maxLen) : ∀ (r : Nat) (HA : Option Addr) (j hc : Nat) (h : Nat → Bool) (w : World), j + r = m → Plain HA j hc → j ≤ hc → hc ≤ maxLen →
    Cls w A n Y N → Rd w KA m (fun i => .bool (K i)) → Rd w HA j (fun i => .bool (h i)) →
    Calls Try.prog 13 #[.agg #[.slice KA m kc, .slice A n c], .slice HA j hc] w fun e w' => e = .returned (.bool (winS K m (isC n Y N) r h)) ∧ Below w.heap.size w w' := by
  intro r
  induction r with
  | zero =>
    intro HA j hc h w hj hp hjc hcm hC hK hH
    obtain rfl : j = m := by omega
    have et : trE j n Y N j = 0 := by unfold trE; rw [if_pos hok, if_pos rfl]
    have eb : trB j n Y N j h = isC n Y N h := if_pos et
    have H := Lib.hid hC
    have GH := Lib.hid hH
    have HN := Lib.hid hn
    have EB := Lib.hid eb
    clear hC hK hH hp hok hn et eb
    go_enter Try.func13, Try.ntmps13
    go_wp2_with fail
    refine (true_any j A HA n c j hc Y N h _ (H.out.below ((Below.refl _ _).alloc (Nat.le_refl _) _)) (GH.out.alloc _) HN.out (by unfold maxLen; omega)).mono ?_
    rintro e w1 ⟨rfl, hb1⟩
    go_wp2_with fail
    go_ret
    exact ⟨ret_bool EB.out, ((Below.refl _ _).alloc (Nat.le_refl _) _).trans (hb1.mono (by simp))⟩
  | succ r ih =>
    intro HA j hc h w hj hp hjc hcm hC hK hH
    have hjm : j < m := by omega
    have hw : winS K m (isC n Y N) (r + 1) h = if K j then winS K m (isC n Y N) r (setB h j false) || winS K m (isC n Y N) r (setB h j true) else winS K m (isC n Y N) r (setB h j false) && winS K m (isC n Y N) r (setB h j true) := by
      have : j = m - (r + 1) := by omega
      rw [this]; rfl
    obtain ⟨kb, ko, rfl, hkb, hkc⟩ := hK.at_ hjm
    obtain ⟨k, hk⟩ : ∃ k, k = K j := ⟨_, rfl⟩
    rw [← hk] at hkc hw
    obtain ⟨a0, h0⟩ : ∃ a, a = winS K m (isC n Y N) r (setB h j false) := ⟨_, rfl⟩
    obtain ⟨a1, h1⟩ : ∃ a, a = winS K m (isC n Y N) r (setB h j true) := ⟨_, rfl⟩
    rw [← h0, ← h1] at hw
    have HW := Lib.hid hw
    have H0 := Lib.hid h0
    have H1 := Lib.hid h1
    have H := Lib.hid hC
    have GK := Lib.hid hK
    have GH := Lib.hid hH
    have IH := Lib.hid ih
    have HN := Lib.hid hn
    have HP := Lib.hid hp
    have HKK := Lib.hid hk
    clear hk hw h0 h1 hC hH ih hok hn hK hp
    have hne : ((j : Int) == m) = false := by rw [beq_eq_false_iff_ne]; omega
    rcases HP.out with ⟨rfl, rfl, rfl⟩ | ⟨hb', ho, rfl⟩
    · have hne0 : ((0 : Int) == (m : Int)) = false := by rw [beq_eq_false_iff_ne]; omega
      rw [Nat.add_zero] at hkc
      clear hne
      cases k with
      | true =>
        go_enter Try.func13, Try.ntmps13
        go_wp2_with fail
        go_loopw [34] (fun s34 wr => ∃ i : Nat, i ≤ 2 ∧ s34 = .int .i64 i ∧ (1 ≤ i → a0 ≠ true) ∧ (2 ≤ i → a1 ≠ true) ∧ (wr.cell? ⟨w.heap.size, 0, none⟩ = some (.slice (some ⟨kb, ko, none⟩) m kc) ∧ wr.cell? ⟨w.heap.size, 1, none⟩ = some (.slice A n c) ∧ wr.cell? ⟨w.heap.size + 1, 0, none⟩ = some (.bool false) ∧ wr.cell? ⟨w.heap.size + 1, 1, none⟩ = some (.bool true)) ∧ Below w.heap.size w wr ∧ w.heap.size + 1 < wr.heap.size) (fun s34 _ => 2 - (intOf s34).toNat)
        case atStart => exact ⟨0, by omega, rfl, fun h => absurd h (by omega), fun h => absurd h (by omega), ⟨by simp [go_sem], by simp [go_sem], by simp [go_sem], by simp [go_sem]⟩, ((Below.refl _ _).alloc (Nat.le_refl _) _).alloc (by simp) _, by simp⟩
        case round =>
          obtain ⟨wo, rfl⟩ : ∃ wo : World, wo = wr := ⟨_, rfl⟩
          obtain ⟨i, hi, rfl, q0, q1, ⟨c0, c1, c2, c3⟩, hbel, hsz⟩ := hrel
          have hsz0 : w.heap.size < wo.heap.size := by omega
          have Q0 := Lib.hid q0
          have Q1 := Lib.hid q1
          clear q0 q1
          have hcase : i = 0 ∨ i = 1 ∨ i = 2 := by omega
          rcases hcase with rfl | rfl | rfl
          · have x1 : True := trivial
            go_wp2_with fail
            go_region_law (first
              | (refine step_grow _ rfl (.tmp 44) (.tmp 46) 23 rfl EBa rfl (k := 0) (by omega) (fun _ => ⟨rfl, rfl⟩) (GH.out.below ((hbel.alloc hbel.size (.cells #[.bool false] 4)).drew)) rfl (l := 1) rfl (Rd.one wo (.bool false) _).drew (fun _ _ => rfl) (by omega) (by omega) (by unfold maxLen; omega) (by omega) (0 + 1) (0 + 1) rfl rfl ?_; intro A2 c2' w2 hown2 hbl2; have bw2 := ((hbel.alloc hbel.size (.cells #[.bool false] 4)).drew).trans (hbl2.mono (by simp; omega)); have cc2 := fun (p : Addr) (hp : p.block < wo.heap.size) => (hbl2.cell (p := p) (by simp; omega)).trans (World.cell?_alloc_lt wo (.cells #[.bool false] 4) p hp); have sw2 := hbl2.size)
              | (go_simp; go_at_call 13; refine (IH.out A2 (0 + 1) c2' (setB h 0 false) w2 (by omega) (hown2.plain (by omega)) hown2.le.1 hown2.le.2 (H.out.below bw2) (GK.out.below bw2) (hown2.rd.congr (cat_set h 0 false))).mono ?_; rintro e w3 ⟨rfl, hb3⟩))
            all_goals
              rw [← H0.out]
              have bw3 := bw2.trans (hb3.mono bw2.size)
              have sw3 : wo.heap.size < w3.heap.size := by have := hb3.size; simp at sw2; omega
              have dd := fun (p : Addr) (hp : p.block < wo.heap.size) => (hb3.cell (p := p) (by simp at sw2; omega)).trans (cc2 p hp)
              have d0 := (dd ⟨w.heap.size, 0, none⟩ (by show w.heap.size < _; omega)).trans c0
              have d1 := (dd ⟨w.heap.size, 1, none⟩ (by show w.heap.size < _; omega)).trans c1
              have d2 := (dd ⟨w.heap.size + 1, 0, none⟩ hsz).trans c2
              have d3 := (dd ⟨w.heap.size + 1, 1, none⟩ hsz).trans c3
              have D := Lib.hid (And.intro d0 (And.intro d1 (And.intro d2 d3)))
              clear hown2 hbl2 cc2 hb3 dd d0 d1 d2 d3 c0 c1 c2 c3 hbel bw2
              cases a0 with
              | true =>
                go_wp2_with fail
                go_ret
                exact ⟨ret_bool (by rw [HW.out]; have hq := Q0.out; have hq1 := Q1.out; revert hq hq1; cases a1 <;> simp), bw3⟩
              | false =>
                go_wp2_with fail
                go_roundw
                case rel => exact ⟨1, by omega, by go_num, fun _ => by decide, fun _ => by omega, D.out, bw3, by omega⟩
                case measure => simp [intOf]
          · have x1 : True := trivial
            go_wp2_with fail
            go_region_law (first
              | (refine step_grow _ rfl (.tmp 44) (.tmp 46) 23 rfl EBa rfl (k := 0) (by omega) (fun _ => ⟨rfl, rfl⟩) (GH.out.below ((hbel.alloc hbel.size (.cells #[.bool true] 4)).drew)) rfl (l := 1) rfl (Rd.one wo (.bool true) _).drew (fun _ _ => rfl) (by omega) (by omega) (by unfold maxLen; omega) (by omega) (0 + 1) (0 + 1) rfl rfl ?_; intro A2 c2' w2 hown2 hbl2; have bw2 := ((hbel.alloc hbel.size (.cells #[.bool true] 4)).drew).trans (hbl2.mono (by simp; omega)); have cc2 := fun (p : Addr) (hp : p.block < wo.heap.size) => (hbl2.cell (p := p) (by simp; omega)).trans (World.cell?_alloc_lt wo (.cells #[.bool true] 4) p hp); have sw2 := hbl2.size)
              | (go_simp; go_at_call 13; refine (IH.out A2 (0 + 1) c2' (setB h 0 true) w2 (by omega) (hown2.plain (by omega)) hown2.le.1 hown2.le.2 (H.out.below bw2) (GK.out.below bw2) (hown2.rd.congr (cat_set h 0 true))).mono ?_; rintro e w3 ⟨rfl, hb3⟩))
            all_goals
              rw [← H1.out]
              have bw3 := bw2.trans (hb3.mono bw2.size)
              have sw3 : wo.heap.size < w3.heap.size := by have := hb3.size; simp at sw2; omega
              have dd := fun (p : Addr) (hp : p.block < wo.heap.size) => (hb3.cell (p := p) (by simp at sw2; omega)).trans (cc2 p hp)
              have d0 := (dd ⟨w.heap.size, 0, none⟩ (by show w.heap.size < _; omega)).trans c0
              have d1 := (dd ⟨w.heap.size, 1, none⟩ (by show w.heap.size < _; omega)).trans c1
              have d2 := (dd ⟨w.heap.size + 1, 0, none⟩ hsz).trans c2
              have d3 := (dd ⟨w.heap.size + 1, 1, none⟩ hsz).trans c3
              have D := Lib.hid (And.intro d0 (And.intro d1 (And.intro d2 d3)))
              clear hown2 hbl2 cc2 hb3 dd d0 d1 d2 d3 c0 c1 c2 c3 hbel bw2
              cases a1 with
              | true =>
                go_wp2_with fail
                go_ret
                exact ⟨ret_bool (by rw [HW.out]; have hq := Q0.out; have hq1 := Q1.out; revert hq hq1; cases a0 <;> simp), bw3⟩
              | false =>
                go_wp2_with fail
                go_roundw
                case rel => exact ⟨2, by omega, by go_num, fun _ => Q0.out (by omega), fun _ => by decide, D.out, bw3, by omega⟩
                case measure => simp [intOf]
          · go_wp2_with fail
            go_ret
            exact ⟨ret_bool (by rw [HW.out]; have hq := Q0.out (by omega); have hq1 := Q1.out (by omega); revert hq hq1; cases a0 <;> cases a1 <;> simp), hbel⟩
      | false =>
        go_enter Try.func13, Try.ntmps13
        go_wp2_with fail
        go_loopw [34] (fun s34 wr => ∃ i : Nat, i ≤ 2 ∧ s34 = .int .i64 i ∧ (1 ≤ i → a0 ≠ false) ∧ (2 ≤ i → a1 ≠ false) ∧ (wr.cell? ⟨w.heap.size, 0, none⟩ = some (.slice (some ⟨kb, ko, none⟩) m kc) ∧ wr.cell? ⟨w.heap.size, 1, none⟩ = some (.slice A n c) ∧ wr.cell? ⟨w.heap.size + 1, 0, none⟩ = some (.bool false) ∧ wr.cell? ⟨w.heap.size + 1, 1, none⟩ = some (.bool true)) ∧ Below w.heap.size w wr ∧ w.heap.size + 1 < wr.heap.size) (fun s34 _ => 2 - (intOf s34).toNat)
        case atStart => exact ⟨0, by omega, rfl, fun h => absurd h (by omega), fun h => absurd h (by omega), ⟨by simp [go_sem], by simp [go_sem], by simp [go_sem], by simp [go_sem]⟩, ((Below.refl _ _).alloc (Nat.le_refl _) _).alloc (by simp) _, by simp⟩
        case round =>
          obtain ⟨wo, rfl⟩ : ∃ wo : World, wo = wr := ⟨_, rfl⟩
          obtain ⟨i, hi, rfl, q0, q1, ⟨c0, c1, c2, c3⟩, hbel, hsz⟩ := hrel
          have hsz0 : w.heap.size < wo.heap.size := by omega
          have Q0 := Lib.hid q0
          have Q1 := Lib.hid q1
          clear q0 q1
          have hcase : i = 0 ∨ i = 1 ∨ i = 2 := by omega
          rcases hcase with rfl | rfl | rfl
          · have x1 : True := trivial
            go_wp2_with fail
            go_region_law (first
              | (refine step_grow _ rfl (.tmp 44) (.tmp 46) 23 rfl EBa rfl (k := 0) (by omega) (fun _ => ⟨rfl, rfl⟩) (GH.out.below ((hbel.alloc hbel.size (.cells #[.bool false] 4)).drew)) rfl (l := 1) rfl (Rd.one wo (.bool false) _).drew (fun _ _ => rfl) (by omega) (by omega) (by unfold maxLen; omega) (by omega) (0 + 1) (0 + 1) rfl rfl ?_; intro A2 c2' w2 hown2 hbl2; have bw2 := ((hbel.alloc hbel.size (.cells #[.bool false] 4)).drew).trans (hbl2.mono (by simp; omega)); have cc2 := fun (p : Addr) (hp : p.block < wo.heap.size) => (hbl2.cell (p := p) (by simp; omega)).trans (World.cell?_alloc_lt wo (.cells #[.bool false] 4) p hp); have sw2 := hbl2.size)
              | (go_simp; go_at_call 13; refine (IH.out A2 (0 + 1) c2' (setB h 0 false) w2 (by omega) (hown2.plain (by omega)) hown2.le.1 hown2.le.2 (H.out.below bw2) (GK.out.below bw2) (hown2.rd.congr (cat_set h 0 false))).mono ?_; rintro e w3 ⟨rfl, hb3⟩))
            all_goals
              rw [← H0.out]
              have bw3 := bw2.trans (hb3.mono bw2.size)
              have sw3 : wo.heap.size < w3.heap.size := by have := hb3.size; simp at sw2; omega
              have dd := fun (p : Addr) (hp : p.block < wo.heap.size) => (hb3.cell (p := p) (by simp at sw2; omega)).trans (cc2 p hp)
              have d0 := (dd ⟨w.heap.size, 0, none⟩ (by show w.heap.size < _; omega)).trans c0
              have d1 := (dd ⟨w.heap.size, 1, none⟩ (by show w.heap.size < _; omega)).trans c1
              have d2 := (dd ⟨w.heap.size + 1, 0, none⟩ hsz).trans c2
              have d3 := (dd ⟨w.heap.size + 1, 1, none⟩ hsz).trans c3
              have D := Lib.hid (And.intro d0 (And.intro d1 (And.intro d2 d3)))
              clear hown2 hbl2 cc2 hb3 dd d0 d1 d2 d3 c0 c1 c2 c3 hbel bw2
              cases a0 with
              | false =>
                go_wp2_with fail
                go_ret
                exact ⟨ret_bool (by rw [HW.out]; have hq := Q0.out; have hq1 := Q1.out; revert hq hq1; cases a1 <;> simp), bw3⟩
              | true =>
                go_wp2_with fail
                go_roundw
                case rel => exact ⟨1, by omega, by go_num, fun _ => by decide, fun _ => by omega, D.out, bw3, by omega⟩
                case measure => simp [intOf]
          · have x1 : True := trivial
            go_wp2_with fail
            go_region_law (first
              | (refine step_grow _ rfl (.tmp 44) (.tmp 46) 23 rfl EBa rfl (k := 0) (by omega) (fun _ => ⟨rfl, rfl⟩) (GH.out.below ((hbel.alloc hbel.size (.cells #[.bool true] 4)).drew)) rfl (l := 1) rfl (Rd.one wo (.bool true) _).drew (fun _ _ => rfl) (by omega) (by omega) (by unfold maxLen; omega) (by omega) (0 + 1) (0 + 1) rfl rfl ?_; intro A2 c2' w2 hown2 hbl2; have bw2 := ((hbel.alloc hbel.size (.cells #[.bool true] 4)).drew).trans (hbl2.mono (by simp; omega)); have cc2 := fun (p : Addr) (hp : p.block < wo.heap.size) => (hbl2.cell (p := p) (by simp; omega)).trans (World.cell?_alloc_lt wo (.cells #[.bool true] 4) p hp); have sw2 := hbl2.size)
              | (go_simp; go_at_call 13; refine (IH.out A2 (0 + 1) c2' (setB h 0 true) w2 (by omega) (hown2.plain (by omega)) hown2.le.1 hown2.le.2 (H.out.below bw2) (GK.out.below bw2) (hown2.rd.congr (cat_set h 0 true))).mono ?_; rintro e w3 ⟨rfl, hb3⟩))
            all_goals
              rw [← H1.out]
              have bw3 := bw2.trans (hb3.mono bw2.size)
              have sw3 : wo.heap.size < w3.heap.size := by have := hb3.size; simp at sw2; omega
              have dd := fun (p : Addr) (hp : p.block < wo.heap.size) => (hb3.cell (p := p) (by simp at sw2; omega)).trans (cc2 p hp)
              have d0 := (dd ⟨w.heap.size, 0, none⟩ (by show w.heap.size < _; omega)).trans c0
              have d1 := (dd ⟨w.heap.size, 1, none⟩ (by show w.heap.size < _; omega)).trans c1
              have d2 := (dd ⟨w.heap.size + 1, 0, none⟩ hsz).trans c2
              have d3 := (dd ⟨w.heap.size + 1, 1, none⟩ hsz).trans c3
              have D := Lib.hid (And.intro d0 (And.intro d1 (And.intro d2 d3)))
              clear hown2 hbl2 cc2 hb3 dd d0 d1 d2 d3 c0 c1 c2 c3 hbel bw2
              cases a1 with
              | false =>
                go_wp2_with fail
                go_ret
                exact ⟨ret_bool (by rw [HW.out]; have hq := Q0.out; have hq1 := Q1.out; revert hq hq1; cases a0 <;> simp), bw3⟩
              | true =>
                go_wp2_with fail
                go_roundw
                case rel => exact ⟨2, by omega, by go_num, fun _ => Q0.out (by omega), fun _ => by decide, D.out, bw3, by omega⟩
                case measure => simp [intOf]
          · go_wp2_with fail
            go_ret
            exact ⟨ret_bool (by rw [HW.out]; have hq := Q0.out (by omega); have hq1 := Q1.out (by omega); revert hq hq1; cases a0 <;> cases a1 <;> simp), hbel⟩
    · cases k with
      | true =>
        go_enter Try.func13, Try.ntmps13
        go_wp2_with fail
        go_loopw [34] (fun s34 wr => ∃ i : Nat, i ≤ 2 ∧ s34 = .int .i64 i ∧ (1 ≤ i → a0 ≠ true) ∧ (2 ≤ i → a1 ≠ true) ∧ (wr.cell? ⟨w.heap.size, 0, none⟩ = some (.slice (some ⟨kb, ko, none⟩) m kc) ∧ wr.cell? ⟨w.heap.size, 1, none⟩ = some (.slice A n c) ∧ wr.cell? ⟨w.heap.size + 1, 0, none⟩ = some (.bool false) ∧ wr.cell? ⟨w.heap.size + 1, 1, none⟩ = some (.bool true)) ∧ Below w.heap.size w wr ∧ w.heap.size + 1 < wr.heap.size) (fun s34 _ => 2 - (intOf s34).toNat)
        case atStart => exact ⟨0, by omega, rfl, fun h => absurd h (by omega), fun h => absurd h (by omega), ⟨by simp [go_sem], by simp [go_sem], by simp [go_sem], by simp [go_sem]⟩, ((Below.refl _ _).alloc (Nat.le_refl _) _).alloc (by simp) _, by simp⟩
        case round =>
          obtain ⟨wo, rfl⟩ : ∃ wo : World, wo = wr := ⟨_, rfl⟩
          obtain ⟨i, hi, rfl, q0, q1, ⟨c0, c1, c2, c3⟩, hbel, hsz⟩ := hrel
          have hsz0 : w.heap.size < wo.heap.size := by omega
          have Q0 := Lib.hid q0
          have Q1 := Lib.hid q1
          clear q0 q1
          have hcase : i = 0 ∨ i = 1 ∨ i = 2 := by omega
          rcases hcase with rfl | rfl | rfl
          · have x1 : True := trivial
            go_wp2_with fail
            go_region_law (first
              | (refine step_grow _ rfl (.tmp 44) (.tmp 46) 23 rfl EBa rfl (k := j) (by omega) (fun e => by cases e) (GH.out.below ((hbel.alloc hbel.size (.cells #[.bool false] 4)).drew)) rfl (l := 1) rfl (Rd.one wo (.bool false) _).drew (fun _ _ => rfl) (by omega) (by omega) (by unfold maxLen; omega) (by omega) (j + 1) (j + 1) rfl rfl ?_; intro A2 c2' w2 hown2 hbl2; have bw2 := ((hbel.alloc hbel.size (.cells #[.bool false] 4)).drew).trans (hbl2.mono (by simp; omega)); have cc2 := fun (p : Addr) (hp : p.block < wo.heap.size) => (hbl2.cell (p := p) (by simp; omega)).trans (World.cell?_alloc_lt wo (.cells #[.bool false] 4) p hp); have sw2 := hbl2.size)
              | (go_simp; go_at_call 13; refine (IH.out A2 (j + 1) c2' (setB h j false) w2 (by omega) (hown2.plain (by omega)) hown2.le.1 hown2.le.2 (H.out.below bw2) (GK.out.below bw2) (hown2.rd.congr (cat_set h j false))).mono ?_; rintro e w3 ⟨rfl, hb3⟩))
            all_goals
              rw [← H0.out]
              have bw3 := bw2.trans (hb3.mono bw2.size)
              have sw3 : wo.heap.size < w3.heap.size := by have := hb3.size; simp at sw2; omega
              have dd := fun (p : Addr) (hp : p.block < wo.heap.size) => (hb3.cell (p := p) (by simp at sw2; omega)).trans (cc2 p hp)
              have d0 := (dd ⟨w.heap.size, 0, none⟩ (by show w.heap.size < _; omega)).trans c0
              have d1 := (dd ⟨w.heap.size, 1, none⟩ (by show w.heap.size < _; omega)).trans c1
              have d2 := (dd ⟨w.heap.size + 1, 0, none⟩ hsz).trans c2
              have d3 := (dd ⟨w.heap.size + 1, 1, none⟩ hsz).trans c3
              have D := Lib.hid (And.intro d0 (And.intro d1 (And.intro d2 d3)))
              clear hown2 hbl2 cc2 hb3 dd d0 d1 d2 d3 c0 c1 c2 c3 hbel bw2
              cases a0 with
              | true =>
                go_wp2_with fail
                go_ret
                exact ⟨ret_bool (by rw [HW.out]; have hq := Q0.out; have hq1 := Q1.out; revert hq hq1; cases a1 <;> simp), bw3⟩
              | false =>
                go_wp2_with fail
                go_roundw
                case rel => exact ⟨1, by omega, by go_num, fun _ => by decide, fun _ => by omega, D.out, bw3, by omega⟩
                case measure => simp [intOf]
          · have x1 : True := trivial
            go_wp2_with fail
            go_region_law (first
              | (refine step_grow _ rfl (.tmp 44) (.tmp 46) 23 rfl EBa rfl (k := j) (by omega) (fun e => by cases e) (GH.out.below ((hbel.alloc hbel.size (.cells #[.bool true] 4)).drew)) rfl (l := 1) rfl (Rd.one wo (.bool true) _).drew (fun _ _ => rfl) (by omega) (by omega) (by unfold maxLen; omega) (by omega) (j + 1) (j + 1) rfl rfl ?_; intro A2 c2' w2 hown2 hbl2; have bw2 := ((hbel.alloc hbel.size (.cells #[.bool true] 4)).drew).trans (hbl2.mono (by simp; omega)); have cc2 := fun (p : Addr) (hp : p.block < wo.heap.size) => (hbl2.cell (p := p) (by simp; omega)).trans (World.cell?_alloc_lt wo (.cells #[.bool true] 4) p hp); have sw2 := hbl2.size)
              | (go_simp; go_at_call 13; refine (IH.out A2 (j + 1) c2' (setB h j true) w2 (by omega) (hown2.plain (by omega)) hown2.le.1 hown2.le.2 (H.out.below bw2) (GK.out.below bw2) (hown2.rd.congr (cat_set h j true))).mono ?_; rintro e w3 ⟨rfl, hb3⟩))
            all_goals
              rw [← H1.out]
              have bw3 := bw2.trans (hb3.mono bw2.size)
              have sw3 : wo.heap.size < w3.heap.size := by have := hb3.size; simp at sw2; omega
              have dd := fun (p : Addr) (hp : p.block < wo.heap.size) => (hb3.cell (p := p) (by simp at sw2; omega)).trans (cc2 p hp)
              have d0 := (dd ⟨w.heap.size, 0, none⟩ (by show w.heap.size < _; omega)).trans c0
              have d1 := (dd ⟨w.heap.size, 1, none⟩ (by show w.heap.size < _; omega)).trans c1
              have d2 := (dd ⟨w.heap.size + 1, 0, none⟩ hsz).trans c2
              have d3 := (dd ⟨w.heap.size + 1, 1, none⟩ hsz).trans c3
              have D := Lib.hid (And.intro d0 (And.intro d1 (And.intro d2 d3)))
              clear hown2 hbl2 cc2 hb3 dd d0 d1 d2 d3 c0 c1 c2 c3 hbel bw2
              cases a1 with
              | true =>
                go_wp2_with fail
                go_ret
                exact ⟨ret_bool (by rw [HW.out]; have hq := Q0.out; have hq1 := Q1.out; revert hq hq1; cases a0 <;> simp), bw3⟩
              | false =>
                go_wp2_with fail
                go_roundw
                case rel => exact ⟨2, by omega, by go_num, fun _ => Q0.out (by omega), fun _ => by decide, D.out, bw3, by omega⟩
                case measure => simp [intOf]
          · go_wp2_with fail
            go_ret
            exact ⟨ret_bool (by rw [HW.out]; have hq := Q0.out (by omega); have hq1 := Q1.out (by omega); revert hq hq1; cases a0 <;> cases a1 <;> simp), hbel⟩
      | false =>
        go_enter Try.func13, Try.ntmps13
        go_wp2_with fail
        go_loopw [34] (fun s34 wr => ∃ i : Nat, i ≤ 2 ∧ s34 = .int .i64 i ∧ (1 ≤ i → a0 ≠ false) ∧ (2 ≤ i → a1 ≠ false) ∧ (wr.cell? ⟨w.heap.size, 0, none⟩ = some (.slice (some ⟨kb, ko, none⟩) m kc) ∧ wr.cell? ⟨w.heap.size, 1, none⟩ = some (.slice A n c) ∧ wr.cell? ⟨w.heap.size + 1, 0, none⟩ = some (.bool false) ∧ wr.cell? ⟨w.heap.size + 1, 1, none⟩ = some (.bool true)) ∧ Below w.heap.size w wr ∧ w.heap.size + 1 < wr.heap.size) (fun s34 _ => 2 - (intOf s34).toNat)
        case atStart => exact ⟨0, by omega, rfl, fun h => absurd h (by omega), fun h => absurd h (by omega), ⟨by simp [go_sem], by simp [go_sem], by simp [go_sem], by simp [go_sem]⟩, ((Below.refl _ _).alloc (Nat.le_refl _) _).alloc (by simp) _, by simp⟩
        case round =>
          obtain ⟨wo, rfl⟩ : ∃ wo : World, wo = wr := ⟨_, rfl⟩
          obtain ⟨i, hi, rfl, q0, q1, ⟨c0, c1, c2, c3⟩, hbel, hsz⟩ := hrel
          have hsz0 : w.heap.size < wo.heap.size := by omega
          have Q0 := Lib.hid q0
          have Q1 := Lib.hid q1
          clear q0 q1
          have hcase : i = 0 ∨ i = 1 ∨ i = 2 := by omega
          rcases hcase with rfl | rfl | rfl
          · have x1 : True := trivial
            go_wp2_with fail
            go_region_law (first
              | (refine step_grow _ rfl (.tmp 44) (.tmp 46) 23 rfl EBa rfl (k := j) (by omega) (fun e => by cases e) (GH.out.below ((hbel.alloc hbel.size (.cells #[.bool false] 4)).drew)) rfl (l := 1) rfl (Rd.one wo (.bool false) _).drew (fun _ _ => rfl) (by omega) (by omega) (by unfold maxLen; omega) (by omega) (j + 1) (j + 1) rfl rfl ?_; intro A2 c2' w2 hown2 hbl2; have bw2 := ((hbel.alloc hbel.size (.cells #[.bool false] 4)).drew).trans (hbl2.mono (by simp; omega)); have cc2 := fun (p : Addr) (hp : p.block < wo.heap.size) => (hbl2.cell (p := p) (by simp; omega)).trans (World.cell?_alloc_lt wo (.cells #[.bool false] 4) p hp); have sw2 := hbl2.size)
              | (go_simp; go_at_call 13; refine (IH.out A2 (j + 1) c2' (setB h j false) w2 (by omega) (hown2.plain (by omega)) hown2.le.1 hown2.le.2 (H.out.below bw2) (GK.out.below bw2) (hown2.rd.congr (cat_set h j false))).mono ?_; rintro e w3 ⟨rfl, hb3⟩))
            all_goals
              rw [← H0.out]
              have bw3 := bw2.trans (hb3.mono bw2.size)
              have sw3 : wo.heap.size < w3.heap.size := by have := hb3.size; simp at sw2; omega
              have dd := fun (p : Addr) (hp : p.block < wo.heap.size) => (hb3.cell (p := p) (by simp at sw2; omega)).trans (cc2 p hp)
              have d0 := (dd ⟨w.heap.size, 0, none⟩ (by show w.heap.size < _; omega)).trans c0
              have d1 := (dd ⟨w.heap.size, 1, none⟩ (by show w.heap.size < _; omega)).trans c1
              have d2 := (dd ⟨w.heap.size + 1, 0, none⟩ hsz).trans c2
              have d3 := (dd ⟨w.heap.size + 1, 1, none⟩ hsz).trans c3
              have D := Lib.hid (And.intro d0 (And.intro d1 (And.intro d2 d3)))
              clear hown2 hbl2 cc2 hb3 dd d0 d1 d2 d3 c0 c1 c2 c3 hbel bw2
              cases a0 with
              | false =>
                go_wp2_with fail
                go_ret
                exact ⟨ret_bool (by rw [HW.out]; have hq := Q0.out; have hq1 := Q1.out; revert hq hq1; cases a1 <;> simp), bw3⟩
              | true =>
                go_wp2_with fail
                go_roundw
                case rel => exact ⟨1, by omega, by go_num, fun _ => by decide, fun _ => by omega, D.out, bw3, by omega⟩
                case measure => simp [intOf]
          · have x1 : True := trivial
            go_wp2_with fail
            go_region_law (first
              | (refine step_grow _ rfl (.tmp 44) (.tmp 46) 23 rfl EBa rfl (k := j) (by omega) (fun e => by cases e) (GH.out.below ((hbel.alloc hbel.size (.cells #[.bool true] 4)).drew)) rfl (l := 1) rfl (Rd.one wo (.bool true) _).drew (fun _ _ => rfl) (by omega) (by omega) (by unfold maxLen; omega) (by omega) (j + 1) (j + 1) rfl rfl ?_; intro A2 c2' w2 hown2 hbl2; have bw2 := ((hbel.alloc hbel.size (.cells #[.bool true] 4)).drew).trans (hbl2.mono (by simp; omega)); have cc2 := fun (p : Addr) (hp : p.block < wo.heap.size) => (hbl2.cell (p := p) (by simp; omega)).trans (World.cell?_alloc_lt wo (.cells #[.bool true] 4) p hp); have sw2 := hbl2.size)
              | (go_simp; go_at_call 13; refine (IH.out A2 (j + 1) c2' (setB h j true) w2 (by omega) (hown2.plain (by omega)) hown2.le.1 hown2.le.2 (H.out.below bw2) (GK.out.below bw2) (hown2.rd.congr (cat_set h j true))).mono ?_; rintro e w3 ⟨rfl, hb3⟩))
            all_goals
              rw [← H1.out]
              have bw3 := bw2.trans (hb3.mono bw2.size)
              have sw3 : wo.heap.size < w3.heap.size := by have := hb3.size; simp at sw2; omega
              have dd := fun (p : Addr) (hp : p.block < wo.heap.size) => (hb3.cell (p := p) (by simp at sw2; omega)).trans (cc2 p hp)
              have d0 := (dd ⟨w.heap.size, 0, none⟩ (by show w.heap.size < _; omega)).trans c0
              have d1 := (dd ⟨w.heap.size, 1, none⟩ (by show w.heap.size < _; omega)).trans c1
              have d2 := (dd ⟨w.heap.size + 1, 0, none⟩ hsz).trans c2
              have d3 := (dd ⟨w.heap.size + 1, 1, none⟩ hsz).trans c3
              have D := Lib.hid (And.intro d0 (And.intro d1 (And.intro d2 d3)))
              clear hown2 hbl2 cc2 hb3 dd d0 d1 d2 d3 c0 c1 c2 c3 hbel bw2
              cases a1 with
              | false =>
                go_wp2_with fail
                go_ret
                exact ⟨ret_bool (by rw [HW.out]; have hq := Q0.out; have hq1 := Q1.out; revert hq hq1; cases a0 <;> simp), bw3⟩
              | true =>
                go_wp2_with fail
                go_roundw
                case rel => exact ⟨2, by omega, by go_num, fun _ => Q0.out (by omega), fun _ => by decide, D.out, bw3, by omega⟩
                case measure => simp [intOf]
          · go_wp2_with fail
            go_ret
            exact ⟨ret_bool (by rw [HW.out]; have hq := Q0.out (by omega); have hq1 := Q1.out (by omega); revert hq hq1; cases a0 <;> cases a1 <;> simp), hbel⟩
/-- what all.True tells -/
def alB (K : Nat → Bool) (m n : Nat) (Y N : Nat → SI) : Bool := if alE m n Y N = 0 then winS K m (isC n Y N) m (fun _ => false) else false
set_option maxRecDepth 100000 in
set_option maxHeartbeats 1000000 in
theorem allTrue_any (KA A : Option Addr) (m kc n c : Nat) (K : Nat → Bool) (Y N : Nat → SI) (w : World) (hC : Cls w A n Y N) (hK : Rd w KA m (fun i => .bool (K i))) (hn : n ≤ maxLen) (hm : m ≤ maxLen) :
    Calls Try.prog 5 #[.slice KA m kc, .slice A n c] w fun e w' => e = .returned (.tuple #[.bool (alB K m n Y N), .int .i64 (alE m n Y N)]) ∧ Below w.heap.size w w' := by
  have H := Lib.hid hC
  have GK := Lib.hid hK
  have HN := Lib.hid hn
  have HM := Lib.hid hm
  clear hC hK hn hm
  by_cases he : alE m n Y N = 0
  · have eb : alB K m n Y N = winS K m (isC n Y N) m (fun _ => false) := if_pos he
    have h2 : m ≤ 8 ∧ wrC m 200 n Y N = 0 := by
      unfold alE at he
      by_cases e : 8 < m ∨ 12 < n
      · rw [if_pos e] at he; omega
      · rw [if_neg e] at he
        exact ⟨by omega, by rw [← he]; exact wrC_most (by omega) (by omega)⟩
    have EB := Lib.hid eb
    have H2 := Lib.hid h2
    clear eb h2
    go_enter Try.func5, Try.ntmps5
    go_wp2_with fail
    refine (allWrong_any KA A m kc n c Y N w H.out HN.out HM.out).mono ?_
    rintro e w1 ⟨rfl, hb1⟩
    rw [he]
    have HE := Lib.hid he
    clear he
    go_wp2_with fail
    refine (wins_any KA A m kc n c K Y N H2.out.1 H2.out.2 HN.out m none 0 0 (fun _ => false) w1 (by omega) (.inl ⟨rfl, rfl, rfl⟩) (Nat.le_refl _) (Nat.zero_le _) (H.out.below hb1) (GK.out.below hb1) (Rd.zero _ _ _)).mono ?_
    rintro e w2 ⟨rfl, hb2⟩
    go_wp2_with fail
    go_ret2
    exact ⟨by rw [EB.out, HE.out]; rfl, hb1.trans (hb2.mono hb1.size)⟩
  · have eb : alB K m n Y N = false := if_neg he
    have EB := Lib.hid eb
    have hq : (alE m n Y N != 0) = true := by rw [bne_iff_ne]; exact he
    clear eb he
    go_enter Try.func5, Try.ntmps5
    go_wp2_with fail
    refine (allWrong_any KA A m kc n c Y N w H.out HN.out HM.out).mono ?_
    rintro e w1 ⟨rfl, hb1⟩
    go_wp2_with fail
    go_ret2
    exact ⟨by rw [EB.out]; rfl, hb1⟩
end Go.Proofs.Ytkogobnnimincaa
