/- The walk of tag.Round. Conditions: as each theorem states. -/
import Derived.Test.YthogpdlfjnkmdaaTagMap
namespace Go.Proofs.Ythogpdlfjnkmdaa
open Go.ChangeShapes Go.WideShapes Go.ChangeAt Go.RowKit Go.Maps
set_option linter.unusedVariables false
def itL (d : Nat) (R : Nat → SI) (L : List Int) : Nat → List Int
  | 0 => L
  | j + 1 => turnL d R (itL d R L j)
theorem goT_step {d : Nat} {R : Nat → SI} {L l : List Int} {i : Nat} (h : goT d R i L = some (l, i)) (hd : d ≤ l.length) (h4 : (turnL d R l).length ≤ 40) : goT d R (i + 1) L = some (turnL d R l, i + 1) := by
  rw [goT_add, h]
  show (goT d R 1 l).map _ = _
  rw [show goT d R 1 l = some (turnL d R l, 1) from by rw [goT, if_pos hd, if_neg (by omega)]; rfl]
  show some (turnL d R l, 1 + i) = _
  rw [Nat.add_comm]
theorem wpList_look_at {H : Type} {P : Program} (w : World) {ops : Array Oper} {rest : List Oper} {o : Oper} {a : Act} {Q : Exit → Act → World → Prop}
    (hg : o.guard = none) (m x : Operand) (t : TypeId) (hop : o.op = Op.lookup t m x true)
    (k e : TypeId) (q : IntKind) (K : Keyed P k) (ht : P.underlying t = some (.map k e)) (he : P.underlying e = some (.int q)) (hz : (zeroValue e).run P w = .ok (.int q 0) w) (b n : Nat) (D : DataW H)
    (hm : a.eval m = .map (some b)) (hown : w.ownsMap P k (plainElem P e) b n D) (key : Value) (kl : Lit) (hx : a.eval x = key) (hkey : keyOf P k key = some kl)
    (v : Int) (B : Bool) (hat : D.atKey kl (.lit (.int q 0)) = .lit (.int q v)) (hB : Maps.has D kl = B)
    (hK : wpList P ops Q rest (a.put o.dst (.tuple #[.int q v, .bool B])) w) : wpList P ops Q (o :: rest) a w := by
  subst hB
  refine wpList_lookup_own_ok_int w hg m x t hop k e q K ht he hz b n D hm hown key kl hx hkey ?_
  intro c hc _
  rw [hat] at hc
  injection hc with hc
  injection hc with _ hc
  subst hc
  exact hK
theorem Rd.grown {w w' : World} {row : Option Nat} {A : Option Addr} {n : Nat} {C : Nat → Value} (h : Rd w A n C) (hg : w.grownBy w' row) (hne : 0 < n → ∀ b off, A = some ⟨b, off, none⟩ → some b ≠ row) : Rd w' A n C := fun hn => by
  obtain ⟨b, off, e, hb, hc⟩ := h hn
  refine ⟨b, off, e, Nat.lt_of_lt_of_le hb hg.size, fun i hi => ?_⟩
  rw [World.cell?_of_block (hg.block b hb (hne hn b off e))]
  exact hc i hi
theorem cell_grown {w w' : World} {b x o : Nat} (hg : w.grownBy w' (some b)) (hx : x < w.heap.size) (hne : x ≠ b) : w'.cell? ⟨x, o, none⟩ = w.cell? ⟨x, o, none⟩ :=
  World.cell?_of_block (hg.block x hx (fun e => hne (Option.some.inj e)))
def RndRet (d : Nat) (R : Nat → SI) (L : List Int) (w : World) (e : Ending) (w' : World) : Prop :=
  ((∃ x : Int, x ≠ 0 ∧ e = .returned (.tuple #[.int .i64 0, .int .i64 0, .int .i64 x])) ∨ ∃ (i j : Nat) (l : List Int), j < i ∧ i ≤ 400 ∧ goT d R i L = some (l, i) ∧ goT d R j L = some (l, j) ∧ e = .returned (.tuple #[.int .i64 i, .int .i64 ((i : Int) - (j : Int)), .int .i64 0])) ∧ Below w.heap.size w w'
set_option maxRecDepth 100000 in
theorem tagRnd_bad (S D : Int) (B : Option Addr) (nb cb : Nat) (R : Nat → SI) (X : SI) (w : World) (hB : Rd w B nb (fun i => (R i).val)) (hR : ∀ i, i < nb → Rd w (R i).A (R i).n (fun j => .int .i64 ((R i).f j)) ∧ (R i).n ≤ maxLen) (hX : Rd w X.A X.n (fun j => .int .i64 (X.f j))) (hn : nb ≤ maxLen) (hXn : X.n ≤ maxLen) (hE : tgE S D nb R X ≠ 0) :
    Calls Try.prog 8 #[.int .i64 S, .agg #[.int .i64 D, .slice B nb cb], .slice X.A X.n X.c] w fun e w' => e = .returned (.tuple #[.int .i64 0, .int .i64 0, .int .i64 (tgE S D nb R X)]) ∧ Below w.heap.size w w' := by
  have hb1 := (Below.refl w.heap.size w).alloc (Nat.le_refl _) (.cells #[.int .i64 D, .slice B nb cb] 24)
  have HW := Lib.hid (tagWrong_any S D B nb cb R X _ (hB.below hb1) (fun i hi => ⟨(hR i hi).1.below hb1, (hR i hi).2⟩) (hX.below hb1) hn hXn)
  obtain ⟨E, hEE⟩ : ∃ E, E = tgE S D nb R X := ⟨_, rfl⟩
  rw [← hEE] at HW hE ⊢
  obtain ⟨XA, Xn, Xc, Xf⟩ := X
  have hq : (E != 0) = true := by rw [bne_iff_ne]; exact hE
  clear hB hR hX hE hEE
  go_enter Try.func8, Try.ntmps8
  go_wp2_with fail
  refine HW.out.mono ?_
  rintro e w' ⟨rfl, hb2⟩
  have HB2 := Lib.hid (hb1.trans (hb2.mono (by simp)))
  clear hb2 hb1 HW
  go_wp2_with fail
  (try simp only [Exit.inBlock, Exit.then])
  exact bodyPost_ret (v := .tuple #[.int .i64 0, .int .i64 0, .int .i64 E]) (by simp [results, Try.results8, go_sem]) rfl ⟨rfl, HB2.out⟩
set_option maxRecDepth 100000 in
set_option maxHeartbeats 2000000 in
theorem tagRnd_any (S : Int) (d : Nat) (B : Option Addr) (nb cb : Nat) (R : Nat → SI) (X : SI) (w : World) (hB : Rd w B nb (fun i => (R i).val)) (hR : ∀ i, i < nb → Rd w (R i).A (R i).n (fun j => .int .i64 ((R i).f j)) ∧ (R i).n ≤ maxLen) (hX : Rd w X.A X.n (fun j => .int .i64 (X.f j))) (hn : nb ≤ maxLen) (hXn : X.n ≤ maxLen) (hXc : X.n ≤ X.c ∧ X.c ≤ maxLen) (hE : tgE S d nb R X = 0) :
    Calls Try.prog 8 #[.int .i64 S, .agg #[.int .i64 d, .slice B nb cb], .slice X.A X.n X.c] w (RndRet d R X.list w) := by
  have hb1 := (Below.refl w.heap.size w).alloc (Nat.le_refl _) (.cells #[.int .i64 d, .slice B nb cb] 24)
  have HW := Lib.hid (tagWrong_any S d B nb cb R X _ (hB.below hb1) (fun i hi => ⟨(hR i hi).1.below hb1, (hR i hi).2⟩) (hX.below hb1) hn hXn)
  obtain ⟨⟨s1, s2, d1, d2, x1⟩, hT, hL⟩ := tgE_zero hE
  rw [hE] at HW
  have HB := Lib.hid hB
  have HR := Lib.hid hR
  have HT := Lib.hid hT
  have HL := Lib.hid hL
  have hlen : X.list.length = X.n := X.list_len
  have hlv : ∀ i, i < X.n → lsV X.list i = .int .i64 (X.f i) := fun i hi => by unfold lsV; rw [X.list_at hi]
  obtain ⟨L, hLe⟩ : ∃ L, L = X.list := ⟨_, rfl⟩
  rw [← hLe] at HL hlv hlen ⊢
  have HX : Hid (Rd w X.A L.length (lsV L)) := Lib.hid (by rw [hlen]; exact hX.congr (fun i hi => (hlv i hi).symm))
  obtain ⟨XA, Xn, Xc, Xf⟩ := X
  have hlen2 : L.length = Xn := hlen
  have x2 : Xn ≤ 40 := x1
  have xc1 : Xn ≤ Xc := hXc.1
  have xc2 : Xc ≤ maxLen := hXc.2
  clear hB hR hX hE hT hL hlv hLe hlen x1 hXc
  go_enter Try.func8, Try.ntmps8
  go_wp2_with fail
  refine HW.out.mono ?_
  rintro e w1 ⟨rfl, hb2⟩
  clear HW
  have k0 : (w.alloc (.cells #[.int .i64 d, .slice B nb cb] 24)).cell? ⟨w.heap.size, 0, none⟩ = some (.int .i64 d) := by
    rw [cell_of_row _ w.heap.size 0 #[.int .i64 d, .slice B nb cb] 24 (0, 0) (heap_alloc_new w _)]; rfl
  have k1 : (w.alloc (.cells #[.int .i64 d, .slice B nb cb] 24)).cell? ⟨w.heap.size, 1, none⟩ = some (.slice B nb cb) := by
    rw [cell_of_row _ w.heap.size 1 #[.int .i64 d, .slice B nb cb] 24 (0, 0) (heap_alloc_new w _)]; rfl
  have W1s : (w.alloc (.cells #[.int .i64 d, .slice B nb cb] 24)).heap.size = w.heap.size + 1 := by simp
  have HB2 := Lib.hid hb2
  clear hb2
  have hmk := fun W => run_makeMap (P := Try.prog) 37 W
  go_wp2_with fail
  clear hmk
  obtain ⟨W1, hW1⟩ : ∃ X, X = w.alloc (.cells #[.int .i64 d, .slice B nb cb] 24) := ⟨_, rfl⟩
  rw [← hW1] at k0 k1 hb1 W1s HB2
  have K0 := Lib.hid k0
  have K1 := Lib.hid k1
  have HBW := Lib.hid hb1
  have HM0 := Lib.hid (MapW.made w1 (itL d R L))
  have sw1 : w.heap.size + 1 ≤ w1.heap.size := by have := HB2.out.size; omega
  obtain ⟨b, hbe⟩ : ∃ b, b = w1.heap.size := ⟨_, rfl⟩
  rw [← hbe] at HM0 sw1 ⊢
  clear hb1 hW1 k0 k1
  have HB3 := Lib.hid (HB2.out.alloc HB2.out.size (.map #[] 0))
  clear HB2 hbe
  subst hlen2
  go_loopw [2, 11] (fun s2 s11 wr => ∃ (i : Nat) (l : List Int) (A : Option Addr) (c : Nat), i ≤ 401 ∧ s11 = .int .i64 (i : Nat) ∧ s2 = .slice A l.length c ∧ Hid (Rd wr A l.length (lsV l)) ∧ Hid (l.length ≠ 0 → ∀ g, (Value.slice A l.length c).ownBlock = some g → g ≠ b) ∧ l.length ≤ c ∧ c ≤ maxLen ∧ l.length ≤ 100 ∧ Hid (LetS S l) ∧ Hid (Below W1.heap.size W1 wr) ∧ Hid (MapW wr b i (itL d R L) i) ∧ Hid (l = itL d R L i ∧ (∀ j, j < i → goT d R j L = some (itL d R L j, j) ∧ LetS S (itL d R L j)) ∧ (l.length ≤ 40 → goT d R i L = some (l, i)))) (fun _ s11 _ => 401 - (intOf s11).toNat)
  case atStart => exact ⟨0, L, XA, Xc, by omega, rfl, rfl, Lib.hid ((HX.out.below HBW.out).below (HB3.out.mono (Nat.le_refl _))), Lib.hid (fun h0 g hg => by obtain ⟨b', off, e, hb', _⟩ := HX.out.at_ (k := 0) (by omega); rw [e] at hg; simp [Value.ownBlock] at hg; omega), xc1, xc2, by omega, HL, HB3, HM0, Lib.hid ⟨rfl, fun j hj => absurd hj (by omega), fun _ => rfl⟩⟩
  case round =>
    clear HM0 HB3 xc1 xc2 x2 HL HX
    obtain ⟨wo, rfl⟩ : ∃ wo : World, wo = wr := ⟨_, rfl⟩
    obtain ⟨i, l, A, c, hi, rfl, rfl, HRD, HNB, hlc, hcm, hl1, HLE, HBO, HMW, HJ⟩ := hrel
    have e0 : wo.cell? ⟨w.heap.size, 0, none⟩ = some (.int .i64 d) := by rw [HBO.out.cell (by show w.heap.size < _; omega)]; exact K0.out
    have e1 : wo.cell? ⟨w.heap.size, 1, none⟩ = some (.slice B nb cb) := by rw [HBO.out.cell (by show w.heap.size < _; omega)]; exact K1.out
    have HWO := Lib.hid (HBW.out.trans (HBO.out.mono (by omega)))
    obtain ⟨m, hm⟩ : ∃ m, m = l.length := ⟨_, rfl⟩
    by_cases hlt : i < 401
    · by_cases h40 : 40 < l.length
      · rw [← hm] at h40 ⊢
        have HM := Lib.hid hm
        clear hm
        go_wp2_with fail
        (try simp only [Exit.inBlock, Exit.then])
        exact bodyPost_ret (v := .tuple #[.int .i64 0, .int .i64 0, .int .i64 7]) (by simp [results, Try.results8, go_sem]) rfl ⟨.inl ⟨7, by decide, rfl⟩, HWO.out⟩
      · have hl40 : l.length ≤ 40 := by omega
        have hk1 := key_any l A c wo HRD.out hl40 (fun x hx => by have := HLE.out x hx; omega)
        rw [← hm] at hk1
        have HK1 := Lib.hid hk1
        have m40 : m ≤ 40 := by omega
        have HM := Lib.hid hm
        rw [← hm]
        clear hm h40 hk1 hl40
        have HNow : Hid (goT d R i L = some (l, i)) := Lib.hid (HJ.out.2.2 (by rw [← HM.out]; exact m40))
        go_wp2_with fail
        refine HK1.out.mono ?_
        rintro e w2 ⟨rfl, hb2⟩
        have HB2 := Lib.hid hb2
        obtain ⟨D, hD, hJ⟩ := HMW.out.below HB2.out
        have f0 : w2.cell? ⟨w.heap.size, 0, none⟩ = some (.int .i64 d) := by rw [HB2.out.cell (by show w.heap.size < _; have := HBO.out.size; omega)]; exact e0
        have f1 : w2.cell? ⟨w.heap.size, 1, none⟩ = some (.slice B nb cb) := by rw [HB2.out.cell (by show w.heap.size < _; have := HBO.out.size; omega)]; exact e1
        have HBO2 := Lib.hid (HBO.out.trans (HB2.out.mono HBO.out.size))
        have HWO2 := Lib.hid (HWO.out.trans (HB2.out.mono HWO.out.size))
        have HD := Lib.hid hD
        have HJD := Lib.hid hJ
        have HRD2 := Lib.hid (HRD.out.below HB2.out)
        have HKE := Lib.hid (key_str (l := l) (by rw [← HM.out]; unfold maxLen; omega))
        clear hD hJ hb2 HK1 HMW e0 e1
        cases hh : Maps.has D (.string (kyB l)) with
        | true =>
          obtain ⟨j, hj, hq, ha⟩ := HJD.out _ hh
          have HAT := Lib.hid ha
          have HH := Lib.hid hh
          have HLJ : Hid (goT d R j L = some (l, j)) := Lib.hid (by
            obtain ⟨g1, g2⟩ := HJ.out.2.1 j hj
            have : l = itL d R L j := kyB_inj (S := S) s2 HLE.out g2 hq
            rw [this]; exact g1)
          have hij : (j : Int) ≤ (i : Int) := by omega
          clear ha hh hq
          go_wp2_with (at_lookup; refine wpList_look_at _ rfl _ _ 37 rfl 9 3 .i64 kS Try.underlying37 Try.underlying3 (by go_simp) b i D rfl HD.out _ _ rfl HKE.out (j : Nat) true HAT.out HH.out ?_)
          (try simp only [Exit.inBlock, Exit.then])
          exact bodyPost_ret (v := .tuple #[.int .i64 i, .int .i64 ((i : Int) - (j : Int)), .int .i64 0]) (by simp [results, Try.results8, go_sem]) rfl ⟨.inr ⟨i, j, l, hj, by omega, HNow.out, HLJ.out, rfl⟩, HWO2.out⟩
        | false =>
          have HAT : Hid (D.atKey (.string (kyB l)) (.lit (.int .i64 0)) = .lit (.int .i64 0)) := Lib.hid (atKey_of_not_has hh _)
          have HH := Lib.hid hh
          clear hh
          by_cases hd : m < d
          · have hdi : (m : Int) < (d : Int) := by omega
            go_wp2_with (at_lookup; refine wpList_look_at _ rfl _ _ 37 rfl 9 3 .i64 kS Try.underlying37 Try.underlying3 (by go_simp) b i D rfl HD.out _ _ rfl HKE.out 0 false HAT.out HH.out ?_)
            (try simp only [Exit.inBlock, Exit.then])
            exact bodyPost_ret (v := .tuple #[.int .i64 0, .int .i64 0, .int .i64 5]) (by simp [results, Try.results8, go_sem]) rfl ⟨.inl ⟨5, by decide, rfl⟩, HWO2.out⟩
          · have hdi : (d : Int) ≤ (m : Int) := by omega
            have hk2 := key_any l A c w2 HRD2.out (by rw [← HM.out]; exact m40) (fun x hx => by have := HLE.out x hx; omega)
            rw [← HM.out] at hk2
            have HK2 := Lib.hid hk2
            clear hk2
            go_wp2_with (at_lookup; refine wpList_look_at _ rfl _ _ 37 rfl 9 3 .i64 kS Try.underlying37 Try.underlying3 (by go_simp) b i D rfl HD.out _ _ rfl HKE.out 0 false HAT.out HH.out ?_)
            refine HK2.out.mono ?_
            rintro e w3 ⟨rfl, hb3⟩
            have HD3 := Lib.hid (HD.out.kept (row := none) ⟨hb3.os, hb3.tape, hb3.output, hb3.size, fun i hi _ => hb3.block i hi⟩ (by simp))
            have hz3 := hb3.size
            have g0 : w3.cell? ⟨w.heap.size, 0, none⟩ = some (.int .i64 d) := by rw [hb3.cell (by show w.heap.size < _; have := HBO2.out.size; omega)]; exact f0
            have g1 : w3.cell? ⟨w.heap.size, 1, none⟩ = some (.slice B nb cb) := by rw [hb3.cell (by show w.heap.size < _; have := HBO2.out.size; omega)]; exact f1
            have HBO3 := Lib.hid (HBO2.out.trans (hb3.mono HBO2.out.size))
            have HWO3 := Lib.hid (HWO2.out.trans (hb3.mono HWO2.out.size))
            have HRD3 := Lib.hid (HRD2.out.below hb3)
            have HLB := Lib.hid HD.out.lt
            have WI : Hid ((Lit.int .i64 (i : Nat)).wf = true) := Lib.hid (by simp [Lit.wf, IntKind.min, IntKind.max, IntKind.signed, IntKind.bits]; omega)
            have h10 : 1 ≤ m := by omega
            have hl3 : w.heap.size < w3.heap.size := by have := HBO3.out.size; omega
            have hlb : w.heap.size ≠ b := by omega
            clear hb3 HK2 f0 f1 HRD2 HBO2 HWO2 HB2
            go_wp2_with (at_mapUpdate; refine wpList_mapUpdate_own _ rfl _ _ _ 37 rfl 9 3 kS Try.underlying37 _ b i D rfl HD3.out (by unfold maxLen; omega) _ _ (.string (kyB l)) rfl rfl HKE.out (.lit (.int .i64 (i : Nat))) [] (plainElem_int Try.underlying3 WI.out) ?_; intro w4 hown4 hg4; have q0 := (cell_grown (o := 0) hg4 hl3 hlb).trans g0; have q1 := (cell_grown (o := 1) hg4 hl3 hlb).trans g1; have HO4 := Lib.hid hown4; have HG4 := Lib.hid hg4; clear hown4 hg4)
            have HBO4 : Hid (Below W1.heap.size W1 w4) := Lib.hid (HBO3.out.grown HG4.out (by omega) (fun q e => by have := Option.some.inj e; omega))
            have HWO4 := Lib.hid (HBW.out.trans (HBO4.out.mono (by omega)))
            have HRD4 := Lib.hid (HRD3.out.grown HG4.out (fun hpos b2 off e => by
              intro e2
              have e3 := Option.some.inj e2
              exact HNB.out (by omega) b2 (by rw [e]; rfl) e3))
            have HMW4 : Hid (MapW w4 b (i + 1) (itL d R L) (i + 1)) := Lib.hid ⟨_, HO4.out, by
              have := putW_reads (i := i) (J := itL d R L) HD.out.isMap HJD.out (by rw [← HJ.out.1]; exact kS.key HKE.out)
              rw [← HJ.out.1] at this
              exact this⟩
            have hlm : d ≤ l.length := by rw [← HM.out]; omega
            have hh := HLE.out.head s1
            have hS := HT.out.1
            have TR0 := turn_any d B A nb cb c R l w4 (HB.out.below HWO4.out) (fun j hj => (HR.out j hj).1.below HWO4.out) HRD4.out hlc (by omega) hlm (by omega) hcm hh.1 (by omega) (fun j hj => by have := (HT.out.2 j hj).1; omega)
            have HTU := Lib.hid TR0
            have HLT : Hid (LetS S (turnL d R l)) := Lib.hid (HLE.out.turn HT.out s1)
            have HTS : Hid (turnL d R l = itL d R L (i + 1)) := Lib.hid (by show _ = turnL d R (itL d R L i); rw [← HJ.out.1])
            have hT8 : (turnL d R l).length ≤ 100 := by
              have := (HT.out.2 (l.headD 0).toNat (by omega)).1
              unfold turnL
              rw [List.length_append, List.length_drop, SI.list_len]
              have := HM.out
              omega
            have HGS : Hid ((turnL d R l).length ≤ 40 → goT d R (i + 1) L = some (turnL d R l, i + 1)) := Lib.hid (fun h => goT_step HNow.out hlm h)
            obtain ⟨T, hTe⟩ : ∃ T, T = turnL d R l := ⟨_, rfl⟩
            rw [← hTe] at HTU HLT HTS hT8 HGS
            rw [← HM.out] at HTU
            clear TR0 hTe hh hS hlm
            refine HTU.out.mono ?_
            rintro e w5 ⟨⟨A5, c5, rfl, hown5⟩, hb5⟩
            have hle5 := hown5.le
            have HR5 := Lib.hid hown5.rd
            have HO5 := Lib.hid hown5
            have HB5 := Lib.hid (HBO4.out.trans (hb5.mono HBO4.out.size))
            have HMW5 := Lib.hid (HMW4.out.below hb5)
            have hz4 := HG4.out.size
            clear hown5 hb5 HTU
            go_wp2_with fail
            go_roundw
            case rel => exact ⟨i + 1, T, A5, c5, by omega, by go_num, rfl, HR5, Lib.hid (fun h0 g hg => by have := (HO5.out.lt g hg).1; have := HLB.out; omega), hle5.1, hle5.2, hT8, HLT, HB5, HMW5, Lib.hid ⟨HTS.out, fun j hj => by
              by_cases e : j = i
              · subst e
                rw [← HJ.out.1]; exact ⟨HNow.out, HLE.out⟩
              · exact HJ.out.2.1 j (by omega), HGS.out⟩⟩
            case measure => simp [intOf]; omega
    · obtain rfl : i = 401 := by omega
      rw [← hm]
      have HM := Lib.hid hm
      clear hm
      go_wp2_with fail
      (try simp only [Exit.inBlock, Exit.then])
      exact bodyPost_ret (v := .tuple #[.int .i64 0, .int .i64 0, .int .i64 7]) (by simp [results, Try.results8, go_sem]) rfl ⟨.inl ⟨7, by decide, rfl⟩, HWO.out⟩
end Go.Proofs.Ythogpdlfjnkmdaa
