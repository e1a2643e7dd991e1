/- half.far: how far each is from one. Condition: the graph is one that may be. -/
import Derived.Test.YtnkgdcaojfoanaaHalfRep
import Derived.Test.YtnkgdcaojfoanaaPredIB
import Derived.BigQuiet
import Derived.IntWalk
namespace Go.Proofs.Ytnkgdcaojfoanaa
open Go.ChangeShapes Go.WideShapes Go.ChangeAt Go.RowKit
set_option linter.unusedVariables false
set_option linter.unusedSimpArgs false
set_option maxRecDepth 100000 in
theorem far1_any (j : Int) (X Y g n k : Nat) (out : Nat → Int) (w : World) (hX : w.cell? ⟨X, 0, none⟩ = some (.slice (some ⟨g, 0, none⟩) n n)) (hY : w.cell? ⟨Y, 0, none⟩ = some (.int .i64 (k : Nat))) (hr : w.rowIs g 3 n (fun i => .int .i64 (out i))) (h0 : 0 ≤ j) (h1 : j < (n : Int)) (hn : n ≤ 8) :
    Calls Try.prog 26 #[.int .i64 j, .pointer (some ⟨X, 0, none⟩), .pointer (some ⟨Y, 0, none⟩)] w fun e w' => e = .returned (.bool (out j.toNat == (k : Int))) ∧ Below w.heap.size w w' := by
  obtain ⟨p, rfl⟩ : ∃ p : Nat, j = (p : Int) := Int.eq_ofNat_of_zero_le h0
  have hc := hr.cell (i := p) (by omega)
  rw [Int.toNat_natCast]
  have hp : p < n := by omega
  obtain ⟨v, hv⟩ : ∃ v, v = out p := ⟨_, rfl⟩
  rw [← hv] at hc ⊢
  clear hr hv
  go_enter Try.func26, Try.ntmps26
  go_wp2_with fail
  go_quiet (fail)
  go_wp2_with fail
  go_ret
  exact ⟨rfl, ⟨rfl, rfl, rfl, Nat.le_refl _, fun _ _ => rfl⟩⟩
/-- what half.far has told so far: a row of its own, a box that holds it -/
structure FarS (w W : World) (g X n : Nat) (out : Nat → Int) : Prop where
  row : W.rowIs g 3 n (fun i => .int .i64 (out i))
  box : W.rowIs X 23 1 (fun _ => .slice (some ⟨g, 0, none⟩) n n)
  gle : w.heap.size ≤ g
  gX : g < X
  bel : Below w.heap.size w W
theorem FarS.below {w W W' : World} {g X n : Nat} {out : Nat → Int} (h : FarS w W g X n out) (hb : Below W.heap.size W W') : FarS w W' g X n out :=
  ⟨h.row.of_block (hb.block _ h.row.lt), h.box.of_block (hb.block _ h.box.lt), h.gle, h.gX, h.bel.trans (hb.mono h.bel.size)⟩
theorem FarS.set {w W : World} {g X n : Nat} {out : Nat → Int} (h : FarS w W g X n out) (p : Nat) (v : Int) : FarS w (W.setCell ⟨g, p, none⟩ (.int .i64 v)) g X n (updO out p v) :=
  ⟨(h.row.set p (.int .i64 v)).congr fun i _ => by
    unfold updO
    by_cases e : i = p
    · rw [if_pos e, if_pos e]
    · rw [if_neg e, if_neg e], h.box.setOther (by have := h.gX; show X ≠ g; omega) _, h.gle, h.gX, h.bel.setCell h.gle _⟩
theorem FarS.cell {w W : World} {g X n : Nat} {out : Nat → Int} (h : FarS w W g X n out) : W.cell? ⟨X, 0, none⟩ = some (.slice (some ⟨g, 0, none⟩) n n) := h.box.cell (i := 0) (by omega)
set_option maxRecDepth 100000 in
set_option maxHeartbeats 2000000 in
theorem far_any (A : Option Addr) (n c : Nat) (R : Nat → SI) (t : Nat) (w : World) (h : Gr w A n R) (n1 : 1 ≤ n) (n8 : n ≤ 8) (ht : t < n) (hin : ∀ i, i < n → ∀ q, q < (R i).n → 0 ≤ (R i).f q ∧ (R i).f q < (n : Int)) (h4 : ∀ i, i < n → (R i).n ≤ 4) :
    Calls Try.prog 15 #[.slice A n c, .int .i64 (t : Nat)] w fun e w' => (∃ g out, e = .returned (.slice (some ⟨g, 0, none⟩) n n) ∧ w.heap.size ≤ g ∧ w'.rowIs g 3 n (fun i => .int .i64 (out i)) ∧ FarOk R n t out) ∧ Below w.heap.size w w' := by
  have H := Lib.hid h
  have HIN := Lib.hid hin
  have H4 := Lib.hid h4
  clear h hin h4
  obtain ⟨W1, hW1⟩ : ∃ W, W = w.alloc (.cells #[.int .i64 (-1)] 3) := ⟨_, rfl⟩
  have hb1 : Below w.heap.size w W1 := by rw [hW1]; exact (Below.refl _ _).alloc (Nat.le_refl _) _
  have hr1 : Rd W1 (some ⟨w.heap.size, 0, none⟩) 1 (fun _ => .int .i64 (-1)) := by rw [hW1]; exact Rd.one w _ _
  have HB1 := Lib.hid hb1
  have HR1 := Lib.hid hr1
  have HW1 := Lib.hid hW1
  clear hb1 hr1 hW1
  go_enter Try.func15, Try.ntmps15
  go_wp2_with fail
  rw [← HW1.out]
  refine (rep_any (some ⟨w.heap.size, 0, none⟩) 1 n W1 HR1.out n1 n8).mono ?_
  rintro e w2 ⟨⟨g, rfl, hg, hrow⟩, hb2⟩
  obtain ⟨X, hX⟩ : ∃ X, X = w2.heap.size := ⟨_, rfl⟩
  obtain ⟨W3, hW3⟩ : ∃ W, W = w2.alloc (.cells #[.slice (some ⟨g, 0, none⟩) n n] 23) := ⟨_, rfl⟩
  have hs3 : FarS w W3 g X n (fun _ => -1) := by
    have hB2 := HB1.out.trans (hb2.mono HB1.out.size)
    rw [hW3, hX]
    refine ⟨hrow.alloc _, World.rowIs_alloc w2 #[.slice (some ⟨g, 0, none⟩) n n] 23 _ (fun i hi => by
      have : i = 0 := by simp at hi; omega
      subst this; rfl), Nat.le_trans HB1.out.size hg, hrow.lt, hB2.alloc hB2.size _⟩
  have HS3 := Lib.hid hs3
  have HW3 := Lib.hid hW3
  have HX := Lib.hid hX
  have k0 := hs3.cell
  have k1 := hs3.row.cell (i := t) ht
  have k2 := hs3.row.frozen t
  rw [hW3, hX] at k0
  rw [hW3] at k1 k2
  clear hs3 hW3 hX hrow hb2 hg
  go_wp2_with fail
  obtain ⟨W4, hW4⟩ : ∃ W, W = (w2.alloc (.cells #[.slice (some ⟨g, 0, none⟩) n n] 23)).setCell ⟨g, t, none⟩ (.int .i64 0) := ⟨_, rfl⟩
  have HS4 : Hid (FarS w W4 g X n (updO (fun _ => -1) t 0)) := Lib.hid (by rw [hW4, ← HW3.out]; exact HS3.out.set t 0)
  have HI4 : Hid (∀ i, i < n → FarI R n t (updO (fun _ => -1) t 0) 0 i) := Lib.hid (fun i _ => FarI.zero ht i)
  try rw [← hW4]
  rw [← HX.out]
  clear HS3 HW3 k0 k1 k2 hW4
  go_loopw [18] (fun s18 wr => ∃ (k : Nat) (out : Nat → Int), k ≤ n ∧ s18 = .int .i64 (k : Nat) ∧ Hid (FarS w wr g X n out) ∧ Hid (∀ i, i < n → FarI R n t out k i)) (fun s18 _ => n - (intOf s18).toNat)
  case atStart => exact ⟨0, _, Nat.zero_le _, rfl, HS4, HI4⟩
  case round =>
    clear HS4 HI4
    obtain ⟨wo, rfl⟩ : ∃ wo : World, wo = wr := ⟨_, rfl⟩
    obtain ⟨k, out, hk, rfl, HS, HI⟩ := hrel
    by_cases hlt : k < n
    · obtain ⟨Y, hY⟩ : ∃ Y, Y = wo.heap.size := ⟨_, rfl⟩
      obtain ⟨W5, hW5⟩ : ∃ W, W = wo.alloc (.cells #[.int .i64 (k : Nat)] 3) := ⟨_, rfl⟩
      have hbA : Below wo.heap.size wo W5 := by rw [hW5]; exact (Below.refl _ _).alloc (Nat.le_refl _) _
      have HS5 := Lib.hid (HS.out.below hbA)
      have HY5 : Hid (W5.rowIs Y 3 1 (fun _ => .int .i64 (k : Nat))) := Lib.hid (by
        rw [hW5, hY]
        exact World.rowIs_alloc wo #[.int .i64 (k : Nat)] 3 _ (fun i hi => by
          have : i = 0 := by simp at hi; omega
          subst this; rfl))
      have HXY : Hid (X < Y) := Lib.hid (by rw [hY]; exact HS.out.box.lt)
      have HI5 : Hid (∀ i, i < n → FarI R n t out (if i < 0 then k + 1 else k) i) := Lib.hid (fun i hi => by rw [if_neg (Nat.not_lt_zero _)]; exact HI.out i hi)
      have HW5 := Lib.hid hW5
      have HYD := Lib.hid hY
      clear hbA hW5 hY HS HI
      go_wp2_with fail
      rw [← HW5.out, ← HYD.out]
      clear HW5 HYD
      go_loopw [23] (fun s23 wr => ∃ (i : Nat) (out : Nat → Int), i ≤ n ∧ s23 = .int .i64 (i : Nat) ∧ Hid (FarS w wr g X n out) ∧ Hid (wr.rowIs Y 3 1 (fun _ => .int .i64 (k : Nat))) ∧ Hid (∀ j, j < n → FarI R n t out (if j < i then k + 1 else k) j)) (fun s23 _ => n - (intOf s23).toNat)
      case atStart => exact ⟨0, out, Nat.zero_le _, rfl, HS5, HY5, HI5⟩
      case round =>
        clear HS5 HY5 HI5
        obtain ⟨wo, rfl⟩ : ∃ wo : World, wo = wr := ⟨_, rfl⟩
        obtain ⟨i, out, hi, rfl, HS, HY, HI⟩ := hrel
        by_cases hlt2 : i < n
        · have hgr := H.out.below HS.out.bel
          obtain ⟨b, off, rfl, hb, hc0⟩ := hgr.1.at_ hlt2
          have hgd := hgr.2 i hlt2
          have hin := HIN.out i hlt2
          have h4 := H4.out i hlt2
          obtain ⟨y, hy⟩ : ∃ y, y = R i := ⟨_, rfl⟩
          rw [← hy] at hc0 hgd hin h4
          have HYR := Lib.hid hy
          obtain ⟨ya, yn, yc, yf⟩ := y
          have hc : wo.cell? ⟨b, off + i, none⟩ = some (.slice ya yn yc) := hc0
          have HRY : Hid (Rd wo ya yn (fun q => .int .i64 (yf q))) := Lib.hid hgd.1
          have HINY : Hid (∀ q, q < yn → 0 ≤ yf q ∧ yf q < (n : Int)) := Lib.hid hin
          have h4' : yn ≤ 4 := h4
          have k0 := HS.out.cell
          have k1 := HS.out.row.cell (i := i) hlt2
          have k2 := HS.out.row.frozen i
          have k3 := HY.out.cell (i := 0) (by omega)
          obtain ⟨v, hv⟩ : ∃ v, v = out i := ⟨_, rfl⟩
          rw [← hv] at k1
          have HV := Lib.hid hv
          clear hc0 hgd hin h4 hgr hy hv
          have HSTEP : Hid (∀ j, j < n → FarI R n t (if out i < 0 ∧ saysK R out k i = true then updO out i ((k + 1 : Nat) : Int) else out) (if j < i + 1 then k + 1 else k) j) := Lib.hid (far_step hlt2 (HIN.out i hlt2) HI.out)
          by_cases hneg : v < 0
          · have hd : decide (v < 0) = true := decide_eq_true hneg
            have HCC : Hid (Calls Try.prog 22 #[.slice ya yn yc, .func (.func 26) #[] #[.pointer (some ⟨X, 0, none⟩), .pointer (some ⟨Y, 0, none⟩)]] wo fun e w' => e = .returned (.bool (anyB (fun q => out (yf q).toNat == (k : Int)) yn)) ∧ Below wo.heap.size wo w') := Lib.hid
              (containsIB_any 26 #[.pointer (some ⟨X, 0, none⟩), .pointer (some ⟨Y, 0, none⟩)] ya yn yc yf (fun q => out (yf q).toNat == (k : Int)) wo HRY.out (by unfold maxLen; omega) (fun _ _ => rfl) (fun q hq W hW =>
                far1_any (yf q) X Y g n k out W ((hW.cell (p := ⟨X, 0, none⟩) HS.out.box.lt).trans k0) ((hW.cell (p := ⟨Y, 0, none⟩) HY.out.lt).trans k3) (HS.out.row.of_block (hW.block _ HS.out.row.lt)) (HINY.out q hq).1 (HINY.out q hq).2 n8))
            obtain ⟨r, hr⟩ : ∃ r, r = anyB (fun q => out (yf q).toNat == (k : Int)) yn := ⟨_, rfl⟩
            rw [← hr] at HCC
            have HSK : Hid (saysK R out k i = r) := Lib.hid (by rw [hr]; unfold saysK; rw [← HYR.out])
            clear hr
            go_wp2_with fail
            refine HCC.out.mono ?_
            rintro e w6 ⟨rfl, hb6⟩
            have HS6 := Lib.hid (HS.out.below hb6)
            have HY6 : Hid (w6.rowIs Y 3 1 (fun _ => .int .i64 (k : Nat))) := Lib.hid (HY.out.of_block (hb6.block _ HY.out.lt))
            clear hb6 HCC k0 k1 k2 k3 hc
            have k0 := HS6.out.cell
            have k1 := HS6.out.row.cell (i := i) hlt2
            have k2 := HS6.out.row.frozen i
            have k3 := HY6.out.cell (i := 0) (by omega)
            cases r
            · go_wp2_with fail
              go_roundw
              case rel => exact ⟨i + 1, out, by omega, by go_num, HS6, HY6, Lib.hid (by have h := HSTEP.out; rw [if_neg (by rw [HSK.out]; simp)] at h; exact h)⟩
              case measure => simp [intOf]; omega
            · go_wp2_with fail
              have HS7 : Hid (FarS w (w6.setCell ⟨g, i, none⟩ (.int .i64 ((k + 1 : Nat) : Int))) g X n (updO out i ((k + 1 : Nat) : Int))) := Lib.hid (HS6.out.set i _)
              have HY7 : Hid ((w6.setCell ⟨g, i, none⟩ (.int .i64 ((k + 1 : Nat) : Int))).rowIs Y 3 1 (fun _ => .int .i64 (k : Nat))) := Lib.hid (HY6.out.setOther (by have := HXY.out; have := HS6.out.gX; show Y ≠ g; omega) _)
              go_roundw
              case rel => exact ⟨i + 1, updO out i ((k + 1 : Nat) : Int), by omega, by go_num, HS7, HY7, Lib.hid (by have h := HSTEP.out; rw [if_pos ⟨by rw [← HV.out]; exact hneg, HSK.out⟩] at h; exact h)⟩
              case measure => simp [intOf]; omega
          · have hd : decide (v < 0) = false := decide_eq_false hneg
            go_wp2_with fail
            go_roundw
            case rel => exact ⟨i + 1, out, by omega, by go_num, HS, HY, Lib.hid (by have h := HSTEP.out; rw [if_neg (by rw [← HV.out]; exact fun hh => hneg hh.1)] at h; exact h)⟩
            case measure => simp [intOf]; omega
        · obtain rfl : i = n := by omega
          go_wp2_with fail
          go_roundw
          case rel => exact ⟨k + 1, out, by omega, by go_num, HS, Lib.hid (fun j hj => by have := HI.out j hj; rw [if_pos hj] at this; exact this)⟩
          case measure => simp [intOf]; omega
    · obtain rfl : k = n := by omega
      have k0 := HS.out.cell
      go_wp2_with fail
      go_ret
      exact ⟨⟨g, out, rfl, HS.out.gle, HS.out.row, HI.out⟩, HS.out.bel⟩
end Go.Proofs.Ytnkgdcaojfoanaa
