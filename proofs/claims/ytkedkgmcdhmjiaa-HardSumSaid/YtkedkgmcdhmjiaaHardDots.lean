/- hard.dots: the dots of clauses, one for each that stands in one. Conditions: the clauses read, and are few. -/
import Derived.Test.YtkedkgmcdhmjiaaHardChk
import Derived.Test.YtkedkgmcdhmjiaaApp
namespace Go.Proofs.Ytkedkgmcdhmjiaa
open Go.ChangeShapes Go.WideShapes Go.ChangeAt Go.RowKit
set_option linter.unusedVariables false
set_option linter.unusedSimpArgs false
theorem ED : Elem Try.prog 57 60 3 24 := Elem.of Try.underlying57 (by kernel_rfl : (Try.prog.info? 60).map (fun i => (i.zero, i.size, i.bytes)) = some (some (.agg #[.int .i64 0, .int .i64 0, .bool false]), 3, 24)) rfl (by omega)
abbrev Dot := Nat × Int × Bool
def dAt (D : List Dot) (q : Nat) : Dot := D.getD q (0, 0, false)
def dc (D : List Dot) (q : Nat) : Value := if q % 3 = 0 then .int .i64 ((dAt D (q / 3)).1 : Nat) else if q % 3 = 1 then .int .i64 (dAt D (q / 3)).2.1 else .bool (dAt D (q / 3)).2.2
theorem dc_one (D : List Dot) (q : Nat) : (dc D q).oneCell' = true := by unfold dc; split; rfl; split <;> rfl
theorem dAt_lt {D E : List Dot} {q : Nat} (h : q < D.length) : dAt (D ++ E) q = dAt D q := by unfold dAt; simp [List.getD, List.getElem?_append, h]
theorem dAt_ge {D E : List Dot} {q : Nat} : dAt (D ++ E) (D.length + q) = dAt E q := by unfold dAt; simp [List.getD, List.getElem?_append, show ¬ D.length + q < D.length by omega]
theorem dc_app (D E : List Dot) {q : Nat} (hq : q < (D.length + E.length) * 3) : cat (D.length * 3) (dc D) (dc E) q = dc (D ++ E) q := by
  by_cases h : q < D.length * 3
  · rw [cat_lt h]
    unfold dc
    rw [dAt_lt (by omega)]
  · rw [cat_ge (by omega)]
    obtain ⟨r, rfl⟩ : ∃ r, q = D.length * 3 + r := ⟨q - D.length * 3, by omega⟩
    rw [Nat.add_sub_cancel_left]
    unfold dc
    rw [show (D.length * 3 + r) % 3 = r % 3 by omega, show (D.length * 3 + r) / 3 = D.length + r / 3 by omega, dAt_ge]
theorem Rd.grownD {w w' : World} {row : Option Nat} {A : Option Addr} {n : Nat} {C : Nat → Value} (h : Rd w A n C) (hg : w.grownBy w' row) (hne : ∀ b off, A = some ⟨b, off, none⟩ → some b ≠ row) : Rd w' A n C := fun hn => by
  obtain ⟨b, off, e, hb, hc⟩ := h hn
  exact ⟨b, off, e, by have := hg.size; omega, fun i hi => (World.cell?_of_block (hg.block b hb (hne b off e))).trans (hc i hi)⟩
/-- the dots of clause i -/
def yesD (Y : Nat → SI) (i j : Nat) : List Dot := (List.range j).map fun q => (i, (Y i).f q, true)
def noD (N : Nat → SI) (i j : Nat) : List Dot := (List.range j).map fun q => (i, (N i).f q, false)
def clD (Y N : Nat → SI) (i : Nat) : List Dot := yesD Y i (Y i).n ++ noD N i (N i).n
def dotL (Y N : Nat → SI) : Nat → List Dot
  | 0 => []
  | n + 1 => dotL Y N n ++ clD Y N n
theorem yesD_succ (Y : Nat → SI) (i j : Nat) : yesD Y i (j + 1) = yesD Y i j ++ [(i, (Y i).f j, true)] := by unfold yesD; rw [List.range_succ, List.map_append]; rfl
theorem noD_succ (N : Nat → SI) (i j : Nat) : noD N i (j + 1) = noD N i j ++ [(i, (N i).f j, false)] := by unfold noD; rw [List.range_succ, List.map_append]; rfl
theorem yesD_len (Y : Nat → SI) (i j : Nat) : (yesD Y i j).length = j := by simp [yesD]
theorem noD_len (N : Nat → SI) (i j : Nat) : (noD N i j).length = j := by simp [noD]
theorem dotL_len {Y N : Nat → SI} : ∀ {n}, (∀ k, k < n → bigC Y N k = false) → (dotL Y N n).length ≤ 3 * n
  | 0, _ => Nat.le_refl _
  | n + 1, h => by
    have ih := dotL_len (Y := Y) (N := N) (n := n) (fun k hk => h k (by omega))
    have hb := of_decide_eq_false (h n (by omega))
    show (dotL Y N n ++ (yesD Y n (Y n).n ++ noD N n (N n).n)).length ≤ _
    rw [List.length_append, List.length_append, yesD_len, noD_len]
    omega
def bx (v0 v1 : Value) (q : Nat) : Value := if q = 0 then v0 else v1
theorem bx_rd (W : World) (N : Nat) (hN : W.heap.size = N) (v0 v1 : Value) (e : TypeId) : Rd (W.alloc (.cells #[v0, v1] e)) (some ⟨N, 0, none⟩) 2 (bx v0 v1) := by
  subst hN
  refine fun _ => ⟨W.heap.size, 0, rfl, by simp, fun i hi => ?_⟩
  match i, hi with
  | 0, _ => simp [bx]
  | 1, _ => simp [bx]
theorem app_yes (P : List Dot) (Y : Nat → SI) (i j : Nat) (y : SI) (h : y = Y i) : (P ++ yesD Y i j) ++ [(i, y.f j, true)] = P ++ yesD Y i (j + 1) := by rw [h, yesD_succ, List.append_assoc]
theorem app_no (P : List Dot) (N : Nat → SI) (i j : Nat) (y : SI) (h : y = N i) : (P ++ noD N i j) ++ [(i, y.f j, false)] = P ++ noD N i (j + 1) := by rw [h, noD_succ, List.append_assoc]
theorem dot_rd (W : World) (K : Nat) (hK : W.heap.size = K) (x : Dot) (e : TypeId) : Rd (W.alloc (.cells #[.int .i64 (x.1 : Nat), .int .i64 x.2.1, .bool x.2.2] e)) (some ⟨K, 0, none⟩) 3 (dc [x]) := by
  subst hK
  refine fun _ => ⟨W.heap.size, 0, rfl, by simp, fun i hi => ?_⟩
  match i, hi with
  | 0, _ => simp [dc, dAt]
  | 1, _ => simp [dc, dAt]
  | 2, _ => simp [dc, dAt]
set_option maxRecDepth 100000 in
set_option maxHeartbeats 2000000 in
theorem dots_any (A : Option Addr) (n c : Nat) (Y N : Nat → SI) (w : World) (h : Cls w A n Y N) (n12 : n ≤ 12) (hbig : ∀ k, k < n → bigC Y N k = false) :
    Calls Try.prog 33 #[.slice A n c] w fun e w' => ∃ A' c', e = .returned (.slice A' (dotL Y N n).length c') ∧ Own w' w.heap.size 60 3 A' (dotL Y N n).length c' ((dotL Y N n).length * 3) (dc (dotL Y N n)) ∧ Below w.heap.size w w' := by
  have H := Lib.hid h
  have HBIG := Lib.hid hbig
  clear h hbig
  go_enter Try.func33, Try.ntmps33
  go_wp2_with fail
  go_loopw [3, 12] (fun s3 s12 wr => ∃ (i : Nat) (A' : Option Addr) (c' : Nat), i ≤ n ∧ s12 = .int .i64 (i : Nat) ∧ s3 = .slice A' (dotL Y N i).length c' ∧ Hid (Own wr w.heap.size 60 3 A' (dotL Y N i).length c' ((dotL Y N i).length * 3) (dc (dotL Y N i))) ∧ Hid (Below w.heap.size w wr)) (fun _ s12 _ => n - (intOf s12).toNat)
  case atStart => exact ⟨0, none, 0, Nat.zero_le _, rfl, rfl, Lib.hid (Own.nil _ _ _ _ _), Lib.hid (Below.refl _ _)⟩
  case round =>
    obtain ⟨wo, rfl⟩ : ∃ wo : World, wo = wr := ⟨_, rfl⟩
    obtain ⟨i, A', c', hi, rfl, rfl, HO, HB⟩ := hrel
    by_cases hlt : i < n
    · have hcls := H.out.below HB.out
      obtain ⟨b, off, rfl, hb, f0, f1⟩ := hcls.at2 hlt
      obtain ⟨gy, gn⟩ := hcls.good i hlt
      have hdl := dotL_len (Y := Y) (N := N) (n := i) (fun k hk => HBIG.out k (by omega))
      have hbg := of_decide_eq_false (HBIG.out i hlt)
      obtain ⟨y0, hy⟩ : ∃ y, y = Y i := ⟨_, rfl⟩
      obtain ⟨y1, hz⟩ : ∃ z, z = N i := ⟨_, rfl⟩
      have HY := Lib.hid hy
      have HZ := Lib.hid hz
      rw [← hy] at f0 gy hbg
      rw [← hz] at f1 gn hbg
      have RY := Lib.hid (H.out.good i hlt).1.1
      have RZ := Lib.hid (H.out.good i hlt).2.1
      have e1 : Rd w y0.A y0.n (fun q => .int .i64 (y0.f q)) := by rw [HY.out]; exact RY.out
      have e2 : Rd w y1.A y1.n (fun q => .int .i64 (y1.f q)) := by rw [HZ.out]; exact RZ.out
      clear RY RZ gy gn hcls hy hz
      obtain ⟨ya, yn, yc, yf⟩ := y0
      obtain ⟨za, zn, zc, zf⟩ := y1
      dsimp only at f0 f1 hbg e1 e2
      have RY := Lib.hid e1
      have RZ := Lib.hid e2
      obtain ⟨g, hg⟩ : ∃ g, g = wo.heap.size := ⟨_, rfl⟩
      obtain ⟨W1, hW1⟩ : ∃ W1, W1 = wo.alloc (.cells #[.slice ya yn yc, .slice za zn zc] 50) := ⟨_, rfl⟩
      have hbA : Below wo.heap.size wo W1 := by rw [hW1]; exact (Below.refl _ _).alloc (Nat.le_refl _) _
      have HB1 := Lib.hid (HB.out.trans (hbA.mono HB.out.size))
      obtain ⟨D0, hD0⟩ : ∃ D, D = dotL Y N i := ⟨_, rfl⟩
      rw [← hD0] at hdl
      rw [← hD0] at HO ⊢
      have HD1 : Hid (D0 = dotL Y N i ++ yesD Y i 0) := Lib.hid (by rw [hD0]; simp [yesD])
      have HO1 := Lib.hid (HO.out.below hbA)
      have HX1 : Hid (Rd W1 (some ⟨g, 0, none⟩) 2 (bx (.slice ya yn yc) (.slice za zn zc))) := Lib.hid (by rw [hW1]; exact bx_rd wo g hg.symm _ _ _)
      have HNE1 : Hid ((Value.slice A' D0.length c').ownBlock ≠ some g) := Lib.hid (fun e => by have := (HO.out.lt g e).2; omega)
      have HW1 := Lib.hid hW1
      have HGW := Lib.hid hg
      clear hbA HO HB hg hW1 e1 e2 hD0
      go_wp2_with fail
      rw [← HW1.out, ← HGW.out]
      go_loopw [3, 20] (fun s3 s20 wr => ∃ (j : Nat) (A' : Option Addr) (c' : Nat) (D : List Dot), j ≤ yn ∧ s20 = .int .i64 (j : Nat) ∧ s3 = .slice A' D.length c' ∧ D.length ≤ 3 * i + j ∧ Hid (D = dotL Y N i ++ yesD Y i j) ∧ Hid (Own wr w.heap.size 60 3 A' D.length c' (D.length * 3) (dc D)) ∧ Hid (Rd wr (some ⟨g, 0, none⟩) 2 (bx (.slice ya yn yc) (.slice za zn zc))) ∧ Hid ((Value.slice A' D.length c').ownBlock ≠ some g) ∧ Hid (Below w.heap.size w wr)) (fun _ s20 _ => yn - (intOf s20).toNat)
      case atStart => exact ⟨0, A', c', D0, Nat.zero_le _, rfl, rfl, by omega, HD1, HO1, HX1, HNE1, HB1⟩
      case round =>
        clear HO1 HX1 HNE1 HB1 HD1
        obtain ⟨wp, rfl⟩ : ∃ wp : World, wp = wr := ⟨_, rfl⟩
        obtain ⟨j, A2, c2, D, hj, rfl, rfl, hDl, HD, HO, HX, HNE, HB⟩ := hrel
        have hgl : g < wp.heap.size := by
          obtain ⟨b', o', e', l', _⟩ := HX.out (show 0 < 2 by omega)
          cases e'
          exact l'
        by_cases hlt2 : j < yn
        · obtain ⟨b2, off2, rfl, hb2, hc⟩ := (RY.out.below HB.out).at_ hlt2
          obtain ⟨v, hv⟩ : ∃ v, v = yf j := ⟨_, rfl⟩
          rw [← hv] at hc
          have HV := Lib.hid hv
          obtain ⟨W2, hW2⟩ : ∃ W2, W2 = wp.alloc (.cells #[.int .i64 (i : Nat), .int .i64 v, .bool true] 60) := ⟨_, rfl⟩
          have hbA : Below wp.heap.size wp W2 := by rw [hW2]; exact (Below.refl _ _).alloc (Nat.le_refl _) _
          have HB2 := Lib.hid (HB.out.trans (hbA.mono HB.out.size))
          have HO2 := Lib.hid (HO.out.below hbA)
          have HX2 := Lib.hid (HX.out.below hbA)
          have HR2 : Hid (Rd W2 (some ⟨wp.heap.size, 0, none⟩) 3 (dc [((i : Nat), v, true)])) := Lib.hid (by rw [hW2]; exact dot_rd wp wp.heap.size rfl (i, v, true) _)
          have hs2 : W2.heap.size = wp.heap.size + 1 := by rw [hW2]; simp
          have hsw : w.heap.size ≤ W2.heap.size := HB2.out.size
          have HW2 := Lib.hid hW2
          clear hv hW2 hbA
          go_wp2_with (at_builtin; rw [← HW2.out]; refine wpList_app _ rfl (.tmp 24) (.tmp 28) 57 rfl ED rfl HO2.out rfl (l := 3) rfl HR2.out (fun _ _ => dc_one _ _) (by unfold maxLen; omega) (by omega) hsw (D.length + 1) ((D.length + 1) * 3) rfl (by omega) ?_; intro A3 c3 w3 hown hgr hat hb3; have HO3 := Lib.hid hown; have HB3 := Lib.hid (HB2.out.trans hb3); have HX3 := Lib.hid (HX2.out.grownD hgr (fun b off e => by cases e; exact fun e2 => HNE.out e2.symm)); have HNE3 : Hid ((Value.slice A3 (D.length + 1) c3).ownBlock ≠ some g) := Lib.hid (fun e => by rcases hat with h1 | h1; (exact HNE.out (h1.symm.trans e)); (have h2 := h1.symm.trans e; injection h2 with h2; omega)); clear hown hgr hat hb3)
          go_roundw
          case rel =>
            have hl : (D ++ [((i : Nat), v, true)]).length = D.length + 1 := by rw [List.length_append]; rfl
            exact ⟨j + 1, A3, c3, D ++ [((i : Nat), v, true)], by omega, by go_num, by rw [hl], by rw [hl]; omega, Lib.hid (by rw [HD.out, HV.out]; exact app_yes _ _ _ _ _ HY.out), Lib.hid (by rw [hl]; exact HO3.out.congr fun q hq => dc_app D _ hq), HX3, by rw [hl]; exact HNE3, HB3⟩
          case measure => simp [intOf]; omega
        · obtain rfl : yn = j := by omega
          have HD1 : Hid (D = (dotL Y N i ++ yesD Y i yn) ++ noD N i 0) := Lib.hid (by rw [HD.out]; simp [noD])
          have HO1 := HO
          have HX1 := HX
          have HNE1 := HNE
          have HB1 := HB
          obtain ⟨b', o', e', _, hcx⟩ := HX.out (show 0 < 2 by omega)
          cases e'
          have q0 : wp.cell? ⟨g, 0, none⟩ = some (.slice ya yn yc) := hcx 0 (by omega)
          have q1 : wp.cell? ⟨g, 1, none⟩ = some (.slice za zn zc) := hcx 1 (by omega)
          clear HD HO HX HNE HB hcx
          go_wp2_with fail
          go_loopw [3, 34] (fun s3 s34 wr => ∃ (j : Nat) (A' : Option Addr) (c' : Nat) (D : List Dot), j ≤ zn ∧ s34 = .int .i64 (j : Nat) ∧ s3 = .slice A' D.length c' ∧ D.length ≤ 3 * i + (yn + j) ∧ Hid (D = (dotL Y N i ++ yesD Y i yn) ++ noD N i j) ∧ Hid (Own wr w.heap.size 60 3 A' D.length c' (D.length * 3) (dc D)) ∧ Hid (Rd wr (some ⟨g, 0, none⟩) 2 (bx (.slice ya yn yc) (.slice za zn zc))) ∧ Hid ((Value.slice A' D.length c').ownBlock ≠ some g) ∧ Hid (Below w.heap.size w wr)) (fun _ s34 _ => zn - (intOf s34).toNat)
          case atStart => exact ⟨0, A2, c2, D, Nat.zero_le _, rfl, rfl, by omega, HD1, HO1, HX1, HNE1, HB1⟩
          case round =>
            clear HO1 HX1 HNE1 HB1 HD1
            obtain ⟨wp, rfl⟩ : ∃ wp : World, wp = wr := ⟨_, rfl⟩
            obtain ⟨j, A2, c2, D, hj, rfl, rfl, hDl, HD, HO, HX, HNE, HB⟩ := hrel
            have hgl : g < wp.heap.size := by
              obtain ⟨b', o', e', l', _⟩ := HX.out (show 0 < 2 by omega)
              cases e'
              exact l'
            by_cases hlt2 : j < zn
            · obtain ⟨b2, off2, rfl, hb2, hc⟩ := (RZ.out.below HB.out).at_ hlt2
              obtain ⟨v, hv⟩ : ∃ v, v = zf j := ⟨_, rfl⟩
              rw [← hv] at hc
              have HV := Lib.hid hv
              obtain ⟨W2, hW2⟩ : ∃ W2, W2 = wp.alloc (.cells #[.int .i64 (i : Nat), .int .i64 v, .bool false] 60) := ⟨_, rfl⟩
              have hbA : Below wp.heap.size wp W2 := by rw [hW2]; exact (Below.refl _ _).alloc (Nat.le_refl _) _
              have HB2 := Lib.hid (HB.out.trans (hbA.mono HB.out.size))
              have HO2 := Lib.hid (HO.out.below hbA)
              have HX2 := Lib.hid (HX.out.below hbA)
              have HR2 : Hid (Rd W2 (some ⟨wp.heap.size, 0, none⟩) 3 (dc [((i : Nat), v, false)])) := Lib.hid (by rw [hW2]; exact dot_rd wp wp.heap.size rfl (i, v, false) _)
              have hs2 : W2.heap.size = wp.heap.size + 1 := by rw [hW2]; simp
              have hsw : w.heap.size ≤ W2.heap.size := HB2.out.size
              have HW2 := Lib.hid hW2
              clear hv hW2 hbA
              go_wp2_with (at_builtin; rw [← HW2.out]; refine wpList_app _ rfl (.tmp 38) (.tmp 42) 57 rfl ED rfl HO2.out rfl (l := 3) rfl HR2.out (fun _ _ => dc_one _ _) (by unfold maxLen; omega) (by omega) hsw (D.length + 1) ((D.length + 1) * 3) rfl (by omega) ?_; intro A3 c3 w3 hown hgr hat hb3; have HO3 := Lib.hid hown; have HB3 := Lib.hid (HB2.out.trans hb3); have HX3 := Lib.hid (HX2.out.grownD hgr (fun b off e => by cases e; exact fun e2 => HNE.out e2.symm)); have HNE3 : Hid ((Value.slice A3 (D.length + 1) c3).ownBlock ≠ some g) := Lib.hid (fun e => by rcases hat with h1 | h1; (exact HNE.out (h1.symm.trans e)); (have h2 := h1.symm.trans e; injection h2 with h2; omega)); clear hown hgr hat hb3)
              go_roundw
              case rel =>
                have hl : (D ++ [((i : Nat), v, false)]).length = D.length + 1 := by rw [List.length_append]; rfl
                exact ⟨j + 1, A3, c3, D ++ [((i : Nat), v, false)], by omega, by go_num, by rw [hl], by rw [hl]; omega, Lib.hid (by rw [HD.out, HV.out]; exact app_no _ _ _ _ _ HZ.out), Lib.hid (by rw [hl]; exact HO3.out.congr fun q hq => dc_app D _ hq), HX3, by rw [hl]; exact HNE3, HB3⟩
              case measure => simp [intOf]; omega
            · obtain rfl : zn = j := by omega
              have HDF : Hid (D = dotL Y N (i + 1)) := Lib.hid (by rw [HD.out, List.append_assoc]; show _ = dotL Y N i ++ (yesD Y i (Y i).n ++ noD N i (N i).n); rw [← HY.out, ← HZ.out])
              go_wp2_with fail
              go_roundw
              case rel => exact ⟨i + 1, A2, c2, by omega, by go_num, by rw [← HDF.out], Lib.hid (by rw [← HDF.out]; exact HO.out), HB⟩
              case measure => simp [intOf]; omega
    · obtain rfl : i = n := by omega
      go_wp2_with fail
      go_ret
      exact ⟨A', c', rfl, HO.out, HB.out⟩
end Go.Proofs.Ytkedkgmcdhmjiaa
