/- WideCircuit: the branching program of a circuit computes the circuit. No condition. -/
import Derived.Test.YtmhicimjoidonaaWideTop
import Derived.Test.YtmhicimjoidonaaWideGroup1
import Derived.Deep.RegionHeld3
namespace Go.Proofs.Ytmhicimjoidonaa
open Go.ChangeShapes Go.WideShapes Go.ChangeAt Go.RowKit
set_option linter.unusedVariables false
set_option linter.unusedSimpArgs false
theorem eqL (F G : Nat → Int) (W : World) (b : Bool) (x : Value) (y : Value) (hx : x = .agg #[.int .i64 (F 0), .int .i64 (F 1), .int .i64 (F 2), .int .i64 (F 3), .int .i64 (F 4)]) (hy : y = .agg #[.int .i64 (G 0), .int .i64 (G 1), .int .i64 (G 2), .int .i64 (G 3), .int .i64 (G 4)]) (hb : eqB F G = b) : (Op.equalIn 10000 22 x y).run Try.prog W = .ok b W := by
  subst hx; subst hy; subst hb
  exact eqI5 F G W
namespace wideCircuit
set_option maxRecDepth 100000 in
set_option maxHeartbeats 2000000 in
theorem walk (w : World) (inn : Int) (A : Option Addr) (n c : Nat) (F : Nat → Int) (B : Option Addr) (p q : Nat) (g : Nat → Bool) (wn : (Lit.int .i64 inn).wf = true)
    (h : Rd w A (n * 3) (fun q => .int .i64 (F q))) (wf : ∀ i, (Lit.int .i64 (F i)).wf = true) (hl : n ≤ c) (hm : c ≤ maxLen) (z : c * 24 ≤ 140737488351232) (h3 : Rd w B p (fun q => .bool (g q))) (hl3 : p ≤ q) (hm3 : q ≤ maxLen) (z3 : q * 1 ≤ 140737488351232) :
    Calls Try.prog 5 #[.int .i64 inn, .slice A n c, .slice B p q] w fun e w' => e = .returned (.bool true) ∧ Below w.heap.size w w' := by
  have hnl : n ≤ maxLen := by omega
  have hpl : p ≤ maxLen := by omega
  have HNL := Lib.hid hnl
  have HPL := Lib.hid hpl
  have H := Lib.hid h
  have H3 := Lib.hid h3
  clear wn wf hl hm z hl3 hm3 z3 h h3 hnl hpl
  have q1 : ∀ W : World, (Op.equalIn 10000 22 (.agg #[.int .i64 1, .int .i64 2, .int .i64 3, .int .i64 4, .int .i64 0]) (.agg #[.int .i64 1, .int .i64 2, .int .i64 3, .int .i64 4, .int .i64 0])).run Try.prog W = .ok true W := fun W => eqL (eF f0C) (eF f0C) W true _ _ (by rw [show eF f0C 0 = 1 from by decide, show eF f0C 1 = 2 from by decide, show eF f0C 2 = 3 from by decide, show eF f0C 3 = 4 from by decide, show eF f0C 4 = 0 from by decide]) (by rw [show eF f0C 0 = 1 from by decide, show eF f0C 1 = 2 from by decide, show eF f0C 2 = 3 from by decide, show eF f0C 3 = 4 from by decide, show eF f0C 4 = 0 from by decide]) (by decide)
  have q2 : ∀ W : World, (Op.equalIn 10000 22 (.agg #[.int .i64 1, .int .i64 2, .int .i64 3, .int .i64 4, .int .i64 0]) (.agg #[.int .i64 0, .int .i64 1, .int .i64 2, .int .i64 3, .int .i64 4])).run Try.prog W = .ok false W := fun W => eqL (eF f0C) idF W false _ _ (by rw [show eF f0C 0 = 1 from by decide, show eF f0C 1 = 2 from by decide, show eF f0C 2 = 3 from by decide, show eF f0C 3 = 4 from by decide, show eF f0C 4 = 0 from by decide]) rfl (by decide)
  have q3 : ∀ W : World, (Op.equalIn 10000 22 (.agg #[.int .i64 0, .int .i64 1, .int .i64 2, .int .i64 3, .int .i64 4]) (.agg #[.int .i64 1, .int .i64 2, .int .i64 3, .int .i64 4, .int .i64 0])).run Try.prog W = .ok false W := fun W => eqL idF (eF f0C) W false _ _ rfl (by rw [show eF f0C 0 = 1 from by decide, show eF f0C 1 = 2 from by decide, show eF f0C 2 = 3 from by decide, show eF f0C 3 = 4 from by decide, show eF f0C 4 = 0 from by decide]) (by decide)
  have q4 : ∀ W : World, (Op.equalIn 10000 22 (.agg #[.int .i64 0, .int .i64 1, .int .i64 2, .int .i64 3, .int .i64 4]) (.agg #[.int .i64 0, .int .i64 1, .int .i64 2, .int .i64 3, .int .i64 4])).run Try.prog W = .ok true W := fun W => eqL idF idF W true _ _ rfl rfl (by decide)
  have Q1 := Lib.hid q1
  have Q2 := Lib.hid q2
  have Q3 := Lib.hid q3
  have Q4 := Lib.hid q4
  clear q1 q2 q3 q4
  go_enter Try.func5, Try.ntmps5
  go_wp2_with fail
  refine (top_any inn A n c F w H.out HNL.out).mono ?_
  rintro e w1 ⟨ht, hb1⟩
  have HB1 := Lib.hid hb1
  have H1 := Lib.hid (H.out.below hb1)
  have H31 := Lib.hid (H3.out.below hb1)
  clear hb1
  rcases ht with ⟨x, hx, rfl⟩ | ⟨hck, A2, m, c2, G, rfl, ho, hp⟩
  · go_wp2_with fail
    refine (value_any inn A B n c p q F g w1 H1.out H31.out HNL.out HPL.out).mono ?_
    rintro e w2 ⟨rfl, hb2⟩
    have HB2 := Lib.hid (HB1.out.trans (hb2.mono HB1.out.size))
    clear hb2
    go_wp2_with fail
    go_ret
    exact ⟨rfl, HB2.out⟩
  · have HCK := Lib.hid hck
    have HO := Lib.hid ho
    have HP := Lib.hid hp
    have hm256 : m ≤ 256 := hp.2.1
    clear hck ho hp
    go_wp2_with fail
    refine (value_any inn A B n c p q F g w1 H1.out H31.out HNL.out HPL.out).mono ?_
    rintro e w2 ⟨rfl, hb2⟩
    have HB2 := Lib.hid (HB1.out.trans (hb2.mono HB1.out.size))
    have HR2 := Lib.hid (HO.out.rd.below hb2)
    have H32 := Lib.hid (H31.out.below hb2)
    clear hb2
    by_cases hv : vE inn F n p = 0
    · have hpi : (p : Int) = inn := by
        unfold vE at hv
        rw [if_pos HCK.out] at hv
        by_cases e : (p : Int) = inn
        · exact e
        · rw [if_neg e] at hv; omega
      obtain ⟨i0, i5, n1, n40, _⟩ := ckE_zero HCK.out
      have hvb : vB inn F g n p = val F g (n - 1) := by
        unfold vB
        rw [if_pos hv]
        exact VA_val F g (by omega)
      have hre : rE inn G m p = 0 := by
        unfold rE
        have ht : fstE (tE inn G) m = 0 := fstE_zero.2 fun k hk => by
          have a := HP.out.2.2.1 k hk
          have b := HP.out.2.2.2.1 k hk
          unfold tE
          rw [if_neg (by omega), if_pos a]
        rw [if_neg (by omega), if_pos ht, if_pos hpi]
      have hrf : rF inn G g m p = rn G g m := if_pos hre
      rw [hv, hvb]
      have HRE := Lib.hid hre
      have HRF := Lib.hid hrf
      have hval := fun x hx => HP.out.2.2.2.2 g x hx
      obtain ⟨v, hvv⟩ : ∃ v, v = val F g (n - 1) := ⟨_, rfl⟩
      simp only [← hvv] at hval
      rw [← hvv]
      have HVL := Lib.hid hval
      clear hvv hval hre hrf hvb hpi hv
      cases v
      · have hres : (#[.int .i64 (rn G g m 0), .int .i64 (rn G g m 1), .int .i64 (rn G g m 2), .int .i64 (rn G g m 3), .int .i64 (rn G g m 4)] : Array Value) = #[.int .i64 0, .int .i64 1, .int .i64 2, .int .i64 3, .int .i64 4] := by
          rw [HVL.out 0 (by omega), HVL.out 1 (by omega), HVL.out 2 (by omega), HVL.out 3 (by omega), HVL.out 4 (by omega)]; rfl
        have HRES := Lib.hid hres
        clear hres
        go_wp2_with fail
        refine (run_any inn A2 B m c2 p q G g w2 HR2.out H32.out (by unfold maxLen; omega) HPL.out).mono ?_
        rintro e w3 ⟨rfl, hb3⟩
        rw [HRE.out, HRF.out, HRES.out]
        have HB3 := Lib.hid (HB2.out.trans (hb3.mono HB2.out.size))
        clear hb3
        go_upto_region 8 with (fail)
        have hr3 := row5 w3 22 (.int .i64 0) (.int .i64 1) (.int .i64 2) (.int .i64 3) (.int .i64 4) (fun j => .int .i64 (idF j)) rfl rfl rfl rfl rfl
        have hb3' := HB3.out.alloc HB3.out.size (.cells #[.int .i64 0, .int .i64 1, .int .i64 2, .int .i64 3, .int .i64 4] 22)
        obtain ⟨W3, hW3⟩ : ∃ W3, W3 = w3.alloc (.cells #[.int .i64 0, .int .i64 1, .int .i64 2, .int .i64 3, .int .i64 4] 22) := ⟨_, rfl⟩
        rw [← hW3] at hr3 hb3'
        rw [← hW3]
        have HR3 := Lib.hid hr3
        have HB3' := Lib.hid hb3'
        obtain ⟨y, hy⟩ : ∃ y, y = w3.heap.size := ⟨_, rfl⟩
        rw [← hy] at HR3
        rw [← hy]
        have c0 := HR3.out.cell (i := 0) (by omega)
        have c1 := HR3.out.cell (i := 1) (by omega)
        have c2' := HR3.out.cell (i := 2) (by omega)
        have c3 := HR3.out.cell (i := 3) (by omega)
        have c4 := HR3.out.cell (i := 4) (by omega)
        simp only [idF] at c0 c1 c2' c3 c4
        have q1 := Q3.out
        have q2 := Q4.out
        have lt3 := HR3.out.lt
        clear hr3 hb3' hW3 hy
        go_region_held3 (fun W => W.cell? ⟨y, 0, none⟩ = some (.int .i64 0) ∧ W.cell? ⟨y, 1, none⟩ = some (.int .i64 1) ∧ W.cell? ⟨y, 2, none⟩ = some (.int .i64 2) ∧ W.cell? ⟨y, 3, none⟩ = some (.int .i64 3) ∧ W.cell? ⟨y, 4, none⟩ = some (.int .i64 4)) (first | go_keep | exact KP) (first
          | (go_simp; go_at_call 9; refine (same_any _).mono ?_; rintro e w4 ⟨rfl, hb4⟩; have HB4 := Lib.hid hb4; have KP : w4.cell? ⟨y, 0, none⟩ = some (.int .i64 0) ∧ w4.cell? ⟨y, 1, none⟩ = some (.int .i64 1) ∧ w4.cell? ⟨y, 2, none⟩ = some (.int .i64 2) ∧ w4.cell? ⟨y, 3, none⟩ = some (.int .i64 3) ∧ w4.cell? ⟨y, 4, none⟩ = some (.int .i64 4) := by simp only [hb4.cell (p := ⟨y, 0, none⟩) lt3, hb4.cell (p := ⟨y, 1, none⟩) lt3, hb4.cell (p := ⟨y, 2, none⟩) lt3, hb4.cell (p := ⟨y, 3, none⟩) lt3, hb4.cell (p := ⟨y, 4, none⟩) lt3]; exact ⟨c0, c1, c2', c3, c4⟩))
        all_goals
          go_wp2_with fail
          go_ret
          exact ⟨rfl, HB3'.out.drew.trans (HB4.out.mono HB3'.out.size)⟩
      · have hres : (#[.int .i64 (rn G g m 0), .int .i64 (rn G g m 1), .int .i64 (rn G g m 2), .int .i64 (rn G g m 3), .int .i64 (rn G g m 4)] : Array Value) = #[.int .i64 1, .int .i64 2, .int .i64 3, .int .i64 4, .int .i64 0] := by
          rw [HVL.out 0 (by omega), HVL.out 1 (by omega), HVL.out 2 (by omega), HVL.out 3 (by omega), HVL.out 4 (by omega), if_pos rfl, if_pos rfl, if_pos rfl, if_pos rfl, if_pos rfl, show eF f0C 0 = 1 from by decide, show eF f0C 1 = 2 from by decide, show eF f0C 2 = 3 from by decide, show eF f0C 3 = 4 from by decide, show eF f0C 4 = 0 from by decide]
        have HRES := Lib.hid hres
        clear hres
        go_wp2_with fail
        refine (run_any inn A2 B m c2 p q G g w2 HR2.out H32.out (by unfold maxLen; omega) HPL.out).mono ?_
        rintro e w3 ⟨rfl, hb3⟩
        rw [HRE.out, HRF.out, HRES.out]
        have HB3 := Lib.hid (HB2.out.trans (hb3.mono HB2.out.size))
        clear hb3
        go_upto_region 8 with (fail)
        have hr3 := row5 w3 22 (.int .i64 1) (.int .i64 2) (.int .i64 3) (.int .i64 4) (.int .i64 0) (fun j => .int .i64 (eF f0C j)) (by rw [show eF f0C 0 = 1 from by decide]) (by rw [show eF f0C 1 = 2 from by decide]) (by rw [show eF f0C 2 = 3 from by decide]) (by rw [show eF f0C 3 = 4 from by decide]) (by rw [show eF f0C 4 = 0 from by decide])
        have hb3' := HB3.out.alloc HB3.out.size (.cells #[.int .i64 1, .int .i64 2, .int .i64 3, .int .i64 4, .int .i64 0] 22)
        obtain ⟨W3, hW3⟩ : ∃ W3, W3 = w3.alloc (.cells #[.int .i64 1, .int .i64 2, .int .i64 3, .int .i64 4, .int .i64 0] 22) := ⟨_, rfl⟩
        rw [← hW3] at hr3 hb3'
        rw [← hW3]
        have HR3 := Lib.hid hr3
        have HB3' := Lib.hid hb3'
        obtain ⟨y, hy⟩ : ∃ y, y = w3.heap.size := ⟨_, rfl⟩
        rw [← hy] at HR3
        rw [← hy]
        have c0 := HR3.out.cell (i := 0) (by omega)
        have c1 := HR3.out.cell (i := 1) (by omega)
        have c2' := HR3.out.cell (i := 2) (by omega)
        have c3 := HR3.out.cell (i := 3) (by omega)
        have c4 := HR3.out.cell (i := 4) (by omega)
        rw [show eF f0C 0 = 1 from by decide] at c0; rw [show eF f0C 1 = 2 from by decide] at c1; rw [show eF f0C 2 = 3 from by decide] at c2'; rw [show eF f0C 3 = 4 from by decide] at c3; rw [show eF f0C 4 = 0 from by decide] at c4
        have q1 := Q1.out
        have q2 := Q2.out
        have lt3 := HR3.out.lt
        clear hr3 hb3' hW3 hy
        go_region_held3 (fun W => W.cell? ⟨y, 0, none⟩ = some (.int .i64 1) ∧ W.cell? ⟨y, 1, none⟩ = some (.int .i64 2) ∧ W.cell? ⟨y, 2, none⟩ = some (.int .i64 3) ∧ W.cell? ⟨y, 3, none⟩ = some (.int .i64 4) ∧ W.cell? ⟨y, 4, none⟩ = some (.int .i64 0)) (first | go_keep | exact KP) (first
          | (go_simp; go_at_call 9; refine (same_any _).mono ?_; rintro e w4 ⟨rfl, hb4⟩; have HB4 := Lib.hid hb4; have KP : w4.cell? ⟨y, 0, none⟩ = some (.int .i64 1) ∧ w4.cell? ⟨y, 1, none⟩ = some (.int .i64 2) ∧ w4.cell? ⟨y, 2, none⟩ = some (.int .i64 3) ∧ w4.cell? ⟨y, 3, none⟩ = some (.int .i64 4) ∧ w4.cell? ⟨y, 4, none⟩ = some (.int .i64 0) := by simp only [hb4.cell (p := ⟨y, 0, none⟩) lt3, hb4.cell (p := ⟨y, 1, none⟩) lt3, hb4.cell (p := ⟨y, 2, none⟩) lt3, hb4.cell (p := ⟨y, 3, none⟩) lt3, hb4.cell (p := ⟨y, 4, none⟩) lt3]; exact ⟨c0, c1, c2', c3, c4⟩))
        all_goals
          go_wp2_with fail
          go_ret
          exact ⟨rfl, HB3'.out.drew.trans (HB4.out.mono HB3'.out.size)⟩
    · have hb : (vE inn F n p != 0) = true := by rw [bne_iff_ne]; exact hv
      obtain ⟨x, hx⟩ : ∃ x, x = vE inn F n p := ⟨_, rfl⟩
      rw [← hx] at hb ⊢
      clear hv hx
      go_wp2_with fail
      all_goals
        go_ret
        exact ⟨rfl, HB2.out⟩
end wideCircuit
end Go.Proofs.Ytmhicimjoidonaa
