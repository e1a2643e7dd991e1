/- hard.Dots: dots of clauses, and lines between them. Condition: the clauses read. -/
import Derived.Test.YtkedkgmcdhmjiaaHardDots
namespace Go.Proofs.Ytkedkgmcdhmjiaa
open Go.ChangeShapes Go.WideShapes Go.ChangeAt Go.RowKit
set_option linter.unusedVariables false
set_option linter.unusedSimpArgs false
theorem EL : Elem Try.prog 22 40 2 16 := Elem.of Try.underlying22 (by kernel_rfl : (Try.prog.info? 40).map (fun i => (i.zero, i.size, i.bytes)) = some (some (.agg #[.int .i64 0, .int .i64 0]), 2, 16)) rfl (by omega)
def lAt (L : List (Nat × Nat)) (q : Nat) : Nat × Nat := L.getD q (0, 0)
/-- the numbers of a list of lines, one behind the other -/
def lnF (L : List (Nat × Nat)) (q : Nat) : Int := if q % 2 = 0 then ((lAt L (q / 2)).1 : Int) else ((lAt L (q / 2)).2 : Int)
theorem lAt_lt {L M : List (Nat × Nat)} {q : Nat} (h : q < L.length) : lAt (L ++ M) q = lAt L q := by unfold lAt; simp [List.getD, List.getElem?_append, h]
theorem lAt_ge {L M : List (Nat × Nat)} {q : Nat} : lAt (L ++ M) (L.length + q) = lAt M q := by unfold lAt; simp [List.getD, List.getElem?_append, show ¬ L.length + q < L.length by omega]
theorem lnF_app (L M : List (Nat × Nat)) {q : Nat} (hq : q < (L.length + M.length) * 2) : cat (L.length * 2) (fun q => .int .i64 (lnF L q)) (fun q => .int .i64 (lnF M q)) q = .int .i64 (lnF (L ++ M) q) := by
  by_cases h : q < L.length * 2
  · rw [cat_lt h]
    unfold lnF
    rw [lAt_lt (by omega)]
  · rw [cat_ge (by omega)]
    obtain ⟨r, rfl⟩ : ∃ r, q = L.length * 2 + r := ⟨q - L.length * 2, by omega⟩
    rw [Nat.add_sub_cancel_left]
    unfold lnF
    rw [show (L.length * 2 + r) % 2 = r % 2 by omega, show (L.length * 2 + r) / 2 = L.length + r / 2 by omega, lAt_ge]
theorem ln_rd (W : World) (K : Nat) (hK : W.heap.size = K) (a b : Nat) (e : TypeId) : Rd (W.alloc (.cells #[.int .i64 (a : Nat), .int .i64 (b : Nat)] e)) (some ⟨K, 0, none⟩) 2 (fun q => .int .i64 (lnF [(a, b)] q)) := by
  subst hK
  refine fun _ => ⟨W.heap.size, 0, rfl, by simp, fun i hi => ?_⟩
  match i, hi with
  | 0, _ => simp [lnF, lAt]
  | 1, _ => simp [lnF, lAt]
def confl (D : List Dot) (a b : Nat) : Bool := (dAt D a).1 == (dAt D b).1 || ((dAt D a).2.1 == (dAt D b).2.1 && (dAt D a).2.2 != (dAt D b).2.2)
def MemL (D : List Dot) (L : List (Nat × Nat)) (i j : Nat) : Prop := ∀ a b, (a, b) ∈ L ↔ a < b ∧ b < D.length ∧ confl D a b = true ∧ (a < i ∨ (a = i ∧ b < j))
theorem MemL.skip {D : List Dot} {L : List (Nat × Nat)} {i j : Nat} (h : MemL D L i j) (hn : ¬ (i < j ∧ confl D i j = true)) : MemL D L i (j + 1) := fun a b => by
  rw [h a b]
  constructor
  · rintro ⟨h1, h2, h3, h4⟩; exact ⟨h1, h2, h3, by omega⟩
  · rintro ⟨h1, h2, h3, h4⟩
    refine ⟨h1, h2, h3, ?_⟩
    rcases h4 with h4 | ⟨rfl, h4⟩
    · exact .inl h4
    · by_cases e : b = j
      · subst e; exact absurd ⟨h1, h3⟩ hn
      · exact .inr ⟨rfl, by omega⟩
theorem MemL.put {D : List Dot} {L : List (Nat × Nat)} {i j : Nat} (h : MemL D L i j) (h1 : i < j) (h2 : j < D.length) (h3 : confl D i j = true) : MemL D (L ++ [(i, j)]) i (j + 1) := fun a b => by
  rw [List.mem_append, h a b, List.mem_singleton]
  constructor
  · rintro (⟨a1, a2, a3, a4⟩ | e)
    · exact ⟨a1, a2, a3, by omega⟩
    · injection e with e1 e2
      subst e1; subst e2
      exact ⟨h1, h2, h3, .inr ⟨rfl, by omega⟩⟩
  · rintro ⟨a1, a2, a3, a4⟩
    by_cases e : a = i ∧ b = j
    · exact .inr (by rw [e.1, e.2])
    · exact .inl ⟨a1, a2, a3, by omega⟩
theorem MemL.row {D : List Dot} {L : List (Nat × Nat)} {i : Nat} (h : MemL D L i D.length) : MemL D L (i + 1) 0 := fun a b => by
  rw [h a b]
  constructor
  · rintro ⟨h1, h2, h3, h4⟩; exact ⟨h1, h2, h3, by omega⟩
  · rintro ⟨h1, h2, h3, h4⟩; exact ⟨h1, h2, h3, by omega⟩
def LinesOk (D : List Dot) (L : List (Nat × Nat)) : Prop := ∀ a b, (a, b) ∈ L ↔ a < b ∧ b < D.length ∧ confl D a b = true
theorem Rd.dot {w : World} {A : Option Addr} {D : List Dot} (h : Rd w A (D.length * 3) (dc D)) {k : Nat} (hk : k < D.length) :
    ∃ b off, A = some ⟨b, off, none⟩ ∧ b < w.heap.size ∧ w.cell? ⟨b, off + k * 3, none⟩ = some (.int .i64 ((dAt D k).1 : Nat)) ∧ w.cell? ⟨b, off + k * 3 + 1, none⟩ = some (.int .i64 (dAt D k).2.1) ∧ w.cell? ⟨b, off + k * 3 + 2, none⟩ = some (.bool (dAt D k).2.2) := by
  obtain ⟨b, off, e, hb, hc⟩ := h (by omega)
  have c0 := hc (k * 3) (by omega)
  have c1 := hc (k * 3 + 1) (by omega)
  have c2 := hc (k * 3 + 2) (by omega)
  unfold dc at c0 c1 c2
  rw [if_pos (by omega), show k * 3 / 3 = k by omega] at c0
  rw [if_neg (by omega), if_pos (by omega), show (k * 3 + 1) / 3 = k by omega] at c1
  rw [if_neg (by omega), if_neg (by omega), show (k * 3 + 2) / 3 = k by omega] at c2
  exact ⟨b, off, e, hb, c0, by rw [Nat.add_assoc]; exact c1, by rw [Nat.add_assoc]; exact c2⟩
def b3 (x y : Int) (z : Bool) (q : Nat) : Value := if q = 0 then .int .i64 x else if q = 1 then .int .i64 y else .bool z
theorem b3_rd (W : World) (K : Nat) (hK : W.heap.size = K) (x y : Int) (z : Bool) (e : TypeId) : Rd (W.alloc (.cells #[.int .i64 x, .int .i64 y, .bool z] e)) (some ⟨K, 0, none⟩) 3 (b3 x y z) := by
  subst hK
  refine fun _ => ⟨W.heap.size, 0, rfl, by simp, fun i hi => ?_⟩
  match i, hi with
  | 0, _ => simp [b3]
  | 1, _ => simp [b3]
  | 2, _ => simp [b3]
def DotsP (vars : Int) (n : Nat) (Y N : Nat → SI) (e : Ending) (w' : World) : Prop :=
  (∃ x : Int, hdE vars n Y N = x ∧ (x != 0) = true ∧ e = .returned (.tuple #[.int .i64 0, .slice none 0 0, .int .i64 x])) ∨
  (hdE vars n Y N = 0 ∧ ∃ A' c' L, e = .returned (.tuple #[.int .i64 ((dotL Y N n).length : Nat), .slice A' L.length c', .int .i64 0]) ∧ L.length ≤ 1600 ∧ LinesOk (dotL Y N n) L ∧ Rd w' A' (L.length * 2) (fun q => .int .i64 (lnF L q)))
set_option maxRecDepth 100000 in
set_option maxHeartbeats 4000000 in
theorem Dots_any (vars : Int) (A : Option Addr) (n c : Nat) (Y N : Nat → SI) (w : World) (h : Cls w A n Y N) (hn : n ≤ maxLen) :
    Calls Try.prog 12 #[.int .i64 vars, .slice A n c] w fun e w' => DotsP vars n Y N e w' ∧ Below w.heap.size w w' := by
  have H := Lib.hid h
  have HN := Lib.hid hn
  clear h hn
  obtain ⟨x, hx⟩ : ∃ x, x = hdE vars n Y N := ⟨_, rfl⟩
  have HX := Lib.hid hx
  clear hx
  by_cases hz : x = 0
  · subst hz
    have hn12 : n ≤ 12 ∧ ∀ k, k < n → bigC Y N k = false := by
      have h0 := HX.out.symm
      unfold hdE at h0
      by_cases c1 : vars < 0 ∨ 8 < vars ∨ 12 < n
      · rw [if_pos c1] at h0; omega
      · rw [if_neg c1] at h0
        cases hb : anyB (bigC Y N) n
        · exact ⟨by omega, anyB_false.1 hb⟩
        · rw [hb, if_pos rfl] at h0; omega
    obtain ⟨n12, hbig⟩ := hn12
    have hTl := dotL_len (Y := Y) (N := N) hbig
    have HBIG := Lib.hid hbig
    clear hbig
    go_enter Try.func12, Try.ntmps12
    go_wp2_with fail
    refine (hwrong_any vars A n c Y N w H.out HN.out).mono ?_
    rintro e w1 ⟨rfl, hb1⟩
    rw [← HX.out]
    have H1 := Lib.hid (H.out.below hb1)
    have HB1 := Lib.hid hb1
    clear hb1
    go_wp2_with fail
    refine (dots_any A n c Y N w1 H1.out n12 HBIG.out).mono ?_
    rintro e w2 ⟨AD, cD, rfl, hown, hb2⟩
    have HB2 := Lib.hid (HB1.out.trans (hb2.mono HB1.out.size))
    obtain ⟨D, hD⟩ : ∃ D, D = dotL Y N n := ⟨_, rfl⟩
    rw [← hD] at hown hTl ⊢
    have HD := Lib.hid hD
    have HRD := Lib.hid hown.rd
    have hDl : D.length ≤ 36 := by omega
    clear hb2 hown hD hTl
    go_wp2_with fail
    go_loopw [9, 24] (fun s9 s24 wr => ∃ (i : Nat) (A' : Option Addr) (c' : Nat) (L : List (Nat × Nat)), i ≤ D.length ∧ s24 = .int .i64 (i : Nat) ∧ s9 = .slice A' L.length c' ∧ L.length ≤ 40 * i ∧ Hid (MemL D L i 0) ∧ Hid (Own wr w2.heap.size 40 2 A' L.length c' (L.length * 2) (fun q => .int .i64 (lnF L q))) ∧ Hid (Below w2.heap.size w2 wr)) (fun _ s24 _ => D.length - (intOf s24).toNat)
    case atStart => exact ⟨0, none, 0, [], Nat.zero_le _, rfl, rfl, Nat.le_refl _, Lib.hid (fun a b => ⟨(fun h => by cases h), fun h => by omega⟩), Lib.hid (Own.nil _ _ _ _ _), Lib.hid (Below.refl _ _)⟩
    case round =>
      obtain ⟨wo, rfl⟩ : ∃ wo : World, wo = wr := ⟨_, rfl⟩
      obtain ⟨i, A', c', L0, hi, rfl, rfl, hL0, HM, HO, HB⟩ := hrel
      by_cases hlt : i < D.length
      · obtain ⟨b, off, rfl, hb, c0, c1, c2⟩ := (HRD.out.below HB.out).dot hlt
        obtain ⟨xc, hxc⟩ : ∃ z : Int, z = ((dAt D i).1 : Nat) := ⟨_, rfl⟩
        obtain ⟨xv, hxv⟩ : ∃ z : Int, z = (dAt D i).2.1 := ⟨_, rfl⟩
        obtain ⟨xy, hxy⟩ : ∃ z : Bool, z = (dAt D i).2.2 := ⟨_, rfl⟩
        rw [← hxc] at c0
        rw [← hxv] at c1
        rw [← hxy] at c2
        have HXD := Lib.hid (And.intro hxc (And.intro hxv hxy))
        obtain ⟨g, hg⟩ : ∃ g, g = wo.heap.size := ⟨_, rfl⟩
        obtain ⟨W1, hW1⟩ : ∃ W1, W1 = wo.alloc (.cells #[.int .i64 xc, .int .i64 xv, .bool xy] 60) := ⟨_, rfl⟩
        have hbA : Below wo.heap.size wo W1 := by rw [hW1]; exact (Below.refl _ _).alloc (Nat.le_refl _) _
        have HBs := Lib.hid (HB.out.trans (hbA.mono HB.out.size))
        have HOs := Lib.hid (HO.out.below hbA)
        have HXs : Hid (Rd W1 (some ⟨g, 0, none⟩) 3 (b3 xc xv xy)) := Lib.hid (by rw [hW1]; exact b3_rd wo g hg.symm _ _ _ _)
        have HNEs : Hid ((Value.slice A' L0.length c').ownBlock ≠ some g) := Lib.hid (fun e => by have := (HO.out.lt g e).2; omega)
        have HW1 := Lib.hid hW1
        have HGW := Lib.hid hg
        have HMs := HM
        clear hbA HO HB hg hW1 hxc hxv hxy HM
        go_wp2_with fail
        rw [← HW1.out, ← HGW.out]
        go_loopw [9, 31] (fun s9 s31 wr => ∃ (j : Nat) (A' : Option Addr) (c' : Nat) (L : List (Nat × Nat)), j ≤ D.length ∧ s31 = .int .i64 (j : Nat) ∧ s9 = .slice A' L.length c' ∧ L.length ≤ 40 * i + j ∧ Hid (MemL D L i j) ∧ Hid (Own wr w2.heap.size 40 2 A' L.length c' (L.length * 2) (fun q => .int .i64 (lnF L q))) ∧ Hid (Rd wr (some ⟨g, 0, none⟩) 3 (b3 xc xv xy)) ∧ Hid ((Value.slice A' L.length c').ownBlock ≠ some g) ∧ Hid (Below w2.heap.size w2 wr)) (fun _ s31 _ => D.length - (intOf s31).toNat)
        case atStart => exact ⟨0, A', c', L0, Nat.zero_le _, rfl, rfl, by omega, HMs, HOs, HXs, HNEs, HBs⟩
        case round =>
          clear HMs HOs HXs HNEs HBs c0 c1 c2
          obtain ⟨wp, rfl⟩ : ∃ wp : World, wp = wr := ⟨_, rfl⟩
          obtain ⟨j, A2, c2, L, hj, rfl, rfl, hLl, HM, HO, HX, HNE, HB⟩ := hrel
          have hgl : g < wp.heap.size := by
            obtain ⟨b', o', e', l', _⟩ := HX.out (show 0 < 3 by omega)
            cases e'
            exact l'
          by_cases hlt2 : j < D.length
          · obtain ⟨b2, off2, e2, hb2, d0, d1, d2⟩ := (HRD.out.below HB.out).dot hlt2
            cases e2
            obtain ⟨yc, hyc⟩ : ∃ z : Int, z = ((dAt D j).1 : Nat) := ⟨_, rfl⟩
            obtain ⟨yv, hyv⟩ : ∃ z : Int, z = (dAt D j).2.1 := ⟨_, rfl⟩
            obtain ⟨yy, hyy⟩ : ∃ z : Bool, z = (dAt D j).2.2 := ⟨_, rfl⟩
            rw [← hyc] at d0
            rw [← hyv] at d1
            rw [← hyy] at d2
            have hcf : confl D i j = (xc == yc || (xv == yv && xy != yy)) := by
              unfold confl
              rw [HXD.out.1, HXD.out.2.1, HXD.out.2.2, hyc, hyv, hyy]
              congr 1
              rw [Bool.eq_iff_iff, beq_iff_eq, beq_iff_eq]
              omega
            have HCF := Lib.hid hcf
            clear hyc hyv hyy hcf
            obtain ⟨W2, hW2⟩ : ∃ W2, W2 = wp.alloc (.cells #[.int .i64 yc, .int .i64 yv, .bool yy] 60) := ⟨_, rfl⟩
            have hbA : Below wp.heap.size wp W2 := by rw [hW2]; exact (Below.refl _ _).alloc (Nat.le_refl _) _
            have HB2' := Lib.hid (HB.out.trans (hbA.mono HB.out.size))
            have HO2 := Lib.hid (HO.out.below hbA)
            have HX2 := Lib.hid (HX.out.below hbA)
            have hs2 : W2.heap.size = wp.heap.size + 1 := by rw [hW2]; simp
            have HE := Lib.hid (b3_rd wp wp.heap.size rfl yc yv yy 60)
            have HW2 := Lib.hid hW2
            have HWS := Lib.hid hs2
            obtain ⟨b', o', e', _, hcx⟩ := HX2.out (show 0 < 3 by omega)
            cases e'
            have q0 : W2.cell? ⟨g, 0, none⟩ = some (.int .i64 xc) := hcx 0 (by omega)
            have q1 : W2.cell? ⟨g, 1, none⟩ = some (.int .i64 xv) := hcx 1 (by omega)
            have q2 : W2.cell? ⟨g, 2, none⟩ = some (.bool xy) := hcx 2 (by omega)
            rw [hW2] at q0 q1 q2
            have Q0 := Lib.hid (And.intro q0 (And.intro q1 q2))
            clear hbA hcx hW2 hs2
            by_cases hij : i < j
            · by_cases hc1 : xc = yc
              · have hc1b : (xc == yc) = true := by simpa using hc1
                have HT : Hid (confl D i j = true) := Lib.hid (by rw [HCF.out, hc1b]; rfl)
                clear hc1
                obtain ⟨W3, hW3⟩ : ∃ W3, W3 = W2.alloc (.cells #[.int .i64 (i : Nat), .int .i64 (j : Nat)] 40) := ⟨_, rfl⟩
                have hbA : Below W2.heap.size W2 W3 := by rw [hW3]; exact (Below.refl _ _).alloc (Nat.le_refl _) _
                have HB3 := Lib.hid (HB2'.out.trans (hbA.mono HB2'.out.size))
                have HO3 := Lib.hid (HO2.out.below hbA)
                have HX3 := Lib.hid (HX2.out.below hbA)
                have HR3 : Hid (Rd W3 (some ⟨wp.heap.size + 1, 0, none⟩) 2 (fun q => .int .i64 (lnF [(i, j)] q))) := Lib.hid (by rw [hW3]; exact ln_rd W2 _ HWS.out i j _)
                have hs3 : W3.heap.size = wp.heap.size + 1 + 1 := by rw [hW3]; simp; exact HWS.out
                have hsw : w2.heap.size ≤ W3.heap.size := HB3.out.size
                rw [HW2.out] at hW3
                have HW3 := Lib.hid hW3
                clear hW3 hbA
                go_wp2_with (at_builtin; rw [← HW3.out]; refine wpList_app _ rfl (.tmp 60) (.tmp 64) 22 rfl EL rfl HO3.out rfl (l := 2) rfl HR3.out (fun _ _ => rfl) (by unfold maxLen; omega) (by omega) hsw (L.length + 1) ((L.length + 1) * 2) rfl (by omega) ?_; intro A3 c3 w3 hown hgr hat hb3; have HO4 := Lib.hid hown; have HB4 := Lib.hid (HB3.out.trans hb3); have HX4 := Lib.hid (HX3.out.grownD hgr (fun b off e => by cases e; exact fun e2 => HNE.out e2.symm)); have HNE4 : Hid ((Value.slice A3 (L.length + 1) c3).ownBlock ≠ some g) := Lib.hid (fun e => by rcases hat with h1 | h1; (exact HNE.out (h1.symm.trans e)); (have h2 := h1.symm.trans e; injection h2 with h2; omega)); clear hown hgr hat hb3)
                go_roundw
                case rel =>
                  have hl : (L ++ [(i, j)]).length = L.length + 1 := by rw [List.length_append]; rfl
                  exact ⟨j + 1, A3, c3, L ++ [(i, j)], by omega, by go_num, by rw [hl], by rw [hl]; omega, Lib.hid (HM.out.put hij hlt2 HT.out), Lib.hid (by rw [hl]; exact HO4.out.congr fun q hq => lnF_app L _ hq), HX4, by rw [hl]; exact HNE4, HB4⟩
                case measure => simp [intOf]; omega
              · have hc1b : (xc == yc) = false := by simpa using hc1
                by_cases hv1 : xv = yv
                · have hv1b : (xv == yv) = true := by simpa using hv1
                  cases hxyb : (xy == yy)
                  · have HT : Hid (confl D i j = true) := Lib.hid (by rw [HCF.out, hc1b, hv1b, bne, hxyb]; rfl)
                    clear hc1 hv1
                    obtain ⟨W3, hW3⟩ : ∃ W3, W3 = W2.alloc (.cells #[.int .i64 (i : Nat), .int .i64 (j : Nat)] 40) := ⟨_, rfl⟩
                    have hbA : Below W2.heap.size W2 W3 := by rw [hW3]; exact (Below.refl _ _).alloc (Nat.le_refl _) _
                    have HB3 := Lib.hid (HB2'.out.trans (hbA.mono HB2'.out.size))
                    have HO3 := Lib.hid (HO2.out.below hbA)
                    have HX3 := Lib.hid (HX2.out.below hbA)
                    have HR3 : Hid (Rd W3 (some ⟨wp.heap.size + 1, 0, none⟩) 2 (fun q => .int .i64 (lnF [(i, j)] q))) := Lib.hid (by rw [hW3]; exact ln_rd W2 _ HWS.out i j _)
                    have hs3 : W3.heap.size = wp.heap.size + 1 + 1 := by rw [hW3]; simp; exact HWS.out
                    have hsw : w2.heap.size ≤ W3.heap.size := HB3.out.size
                    rw [HW2.out] at hW3
                    have HW3 := Lib.hid hW3
                    clear hW3 hbA
                    go_wp2_with (at_builtin; rw [← HW3.out]; refine wpList_app _ rfl (.tmp 60) (.tmp 64) 22 rfl EL rfl HO3.out rfl (l := 2) rfl HR3.out (fun _ _ => rfl) (by unfold maxLen; omega) (by omega) hsw (L.length + 1) ((L.length + 1) * 2) rfl (by omega) ?_; intro A3 c3 w3 hown hgr hat hb3; have HO4 := Lib.hid hown; have HB4 := Lib.hid (HB3.out.trans hb3); have HX4 := Lib.hid (HX3.out.grownD hgr (fun b off e => by cases e; exact fun e2 => HNE.out e2.symm)); have HNE4 : Hid ((Value.slice A3 (L.length + 1) c3).ownBlock ≠ some g) := Lib.hid (fun e => by rcases hat with h1 | h1; (exact HNE.out (h1.symm.trans e)); (have h2 := h1.symm.trans e; injection h2 with h2; omega)); clear hown hgr hat hb3)
                    go_roundw
                    case rel =>
                      have hl : (L ++ [(i, j)]).length = L.length + 1 := by rw [List.length_append]; rfl
                      exact ⟨j + 1, A3, c3, L ++ [(i, j)], by omega, by go_num, by rw [hl], by rw [hl]; omega, Lib.hid (HM.out.put hij hlt2 HT.out), Lib.hid (by rw [hl]; exact HO4.out.congr fun q hq => lnF_app L _ hq), HX4, by rw [hl]; exact HNE4, HB4⟩
                    case measure => simp [intOf]; omega
                  · have HT : Hid (¬ (i < j ∧ confl D i j = true)) := Lib.hid (fun hh => by rw [HCF.out, hc1b, hv1b, bne, hxyb] at hh; cases hh.2)
                    clear hc1 hv1
                    go_wp2_with fail
                    rw [← HW2.out]
                    go_roundw
                    case rel => exact ⟨j + 1, A2, c2, L, by omega, by go_num, rfl, by omega, Lib.hid (HM.out.skip HT.out), HO2, HX2, HNE, HB2'⟩
                    case measure => simp [intOf]; omega
                · have hv1b : (xv == yv) = false := by simpa using hv1
                  have HT : Hid (¬ (i < j ∧ confl D i j = true)) := Lib.hid (fun hh => by rw [HCF.out, hc1b, hv1b] at hh; cases hh.2)
                  clear hc1 hv1
                  go_wp2_with fail
                  rw [← HW2.out]
                  go_roundw
                  case rel => exact ⟨j + 1, A2, c2, L, by omega, by go_num, rfl, by omega, Lib.hid (HM.out.skip HT.out), HO2, HX2, HNE, HB2'⟩
                  case measure => simp [intOf]; omega
            · have HT : Hid (¬ (i < j ∧ confl D i j = true)) := Lib.hid (fun hh => hij hh.1)
              go_wp2_with fail
              rw [← HW2.out]
              go_roundw
              case rel => exact ⟨j + 1, A2, c2, L, by omega, by go_num, rfl, by omega, Lib.hid (HM.out.skip HT.out), HO2, HX2, HNE, HB2'⟩
              case measure => simp [intOf]; omega
          · obtain rfl : D.length = j := by omega
            go_wp2_with fail
            go_roundw
            case rel => exact ⟨i + 1, A2, c2, L, by omega, by go_num, rfl, by omega, Lib.hid HM.out.row, HO, HB⟩
            case measure => simp [intOf]; omega
      · obtain rfl : i = D.length := by omega
        go_wp2_with fail
        go_ret3
        refine ⟨.inr ⟨HX.out.symm, A', c', L0, (by rw [← HD.out]; rfl), by omega, ?_, HO.out.rd⟩, HB2.out.trans (HB.out.mono HB2.out.size)⟩
        rw [← HD.out]
        exact fun a b => (HM.out a b).trans ⟨fun hh => ⟨hh.1, hh.2.1, hh.2.2.1⟩, fun hh => ⟨hh.1, hh.2.1, hh.2.2, .inl (by omega)⟩⟩
  · have hxb : (x != 0) = true := by rw [bne_iff_ne]; exact hz
    have HXB := Lib.hid hxb
    clear hz
    go_enter Try.func12, Try.ntmps12
    go_wp2_with fail
    refine (hwrong_any vars A n c Y N w H.out HN.out).mono ?_
    rintro e w1 ⟨rfl, hb1⟩
    rw [← HX.out]
    have HB1 := Lib.hid hb1
    clear hb1
    go_wp2_with fail
    go_ret3
    exact ⟨.inl ⟨x, HX.out.symm, HXB.out, rfl⟩, HB1.out⟩
end Go.Proofs.Ytkedkgmcdhmjiaa
