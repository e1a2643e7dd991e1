/- half.Way: each time to one that is nearer. Condition: the rows read as told. -/
import Derived.Test.YtnkgdcaojfoanaaHalfFar
import Derived.BigQuiet
import Derived.IntWalk
namespace Go.Proofs.Ytnkgdcaojfoanaa
open Go.ChangeShapes Go.WideShapes Go.ChangeAt Go.RowKit
set_option linter.unusedVariables false
set_option linter.unusedSimpArgs false
theorem EIh : Elem Try.prog 23 3 1 8 := Elem.of Try.underlying23 (by kernel_rfl : (Try.prog.info? 3).map (fun i => (i.zero, i.size, i.bytes)) = some (some (.int .i64 0), 1, 8)) rfl (by omega)
theorem two_ints (W : World) (x y : Int) (e : TypeId) : Rd (W.alloc (.cells #[.int .i64 x, .int .i64 y] e)) (some ⟨W.heap.size, 0, none⟩) 2 (fun i => .int .i64 (if i = 0 then x else y)) :=
  (b2x_rd W _ rfl _ _ e).congr fun q hq => by
    match q, hq with
    | 0, _ => rfl
    | 1, _ => rfl
def ftD (x y : Int) (i : Nat) : Int := if i = 0 then x else y
/-- a way of d steps, each of them nearer -/
def PathP (R : Nat → SI) (n t d : Nat) (out : Nat → Int) (P : Nat → Nat) (s : Nat) : Prop :=
  (∀ i, i ≤ s → P i < n ∧ out (P i) = (d : Int) - (i : Int)) ∧ ∀ i, i < s → edg R (P i) (P (i + 1)) = true
def snocP (P : Nat → Nat) (s m : Nat) : Nat → Nat := fun i => if i ≤ s then P i else m
theorem PathP.snoc {R : Nat → SI} {n t d : Nat} {out : Nat → Int} {P : Nat → Nat} {s m : Nat} (h : PathP R n t d out P s) (hm : m < n) (he : edg R (P s) m = true) (ho : out m = (d : Int) - ((s + 1 : Nat) : Int)) : PathP R n t d out (snocP P s m) (s + 1) := by
  refine ⟨fun i hi => ?_, fun i hi => ?_⟩
  · unfold snocP
    by_cases e : i ≤ s
    · rw [if_pos e]; exact h.1 i e
    · rw [if_neg e, show i = s + 1 by omega]; exact ⟨hm, ho⟩
  · unfold snocP
    by_cases e : i < s
    · rw [if_pos (by omega), if_pos (by omega)]; exact h.2 i e
    · rw [if_pos (by omega), if_neg (by omega), show i = s by omega]; exact he
def WayP (R : Nat → SI) (n : Nat) (x y : Int) (e : Ending) (w' : World) : Prop :=
  (∃ z : Int, hwE n R 2 (ftD x y) = z ∧ (z != 0) = true ∧ e = .returned (.tuple #[.slice none 0 0, .int .i64 z])) ∨
  (hwE n R 2 (ftD x y) = 0 ∧ ∃ f t : Nat, x = f ∧ y = t ∧ f < n ∧ t < n ∧ ∃ out, FarOk R n t out ∧
    ((out f < 0 ∧ e = .returned (.tuple #[.slice none 0 0, .int .i64 5])) ∨
     (∃ (d : Nat) (A' : Option Addr) (c' : Nat) (P : Nat → Nat), out f = (d : Int) ∧ d ≤ 8 ∧ e = .returned (.tuple #[.slice A' (d + 1) c', .int .i64 0]) ∧ d + 1 ≤ c' ∧ Rd w' A' (d + 1) (fun i => .int .i64 ((P i : Nat) : Int)) ∧ PathP R n t d out P d ∧ P 0 = f ∧ P d = t)))
set_option maxRecDepth 100000 in
set_option maxHeartbeats 4000000 in
theorem way_any (A : Option Addr) (n c : Nat) (R : Nat → SI) (x y : Int) (w : World) (h : Gr w A n R) (hn : n ≤ maxLen) :
    Calls Try.prog 6 #[.slice A n c, .int .i64 x, .int .i64 y] w fun e w' => WayP R n x y e w' ∧ Below w.heap.size w w' := by
  have H := Lib.hid h
  have HN := Lib.hid hn
  clear h hn
  obtain ⟨W1, hW1⟩ : ∃ W, W = w.alloc (.cells #[.int .i64 x, .int .i64 y] 3) := ⟨_, rfl⟩
  have hb1 : Below w.heap.size w W1 := by rw [hW1]; exact (Below.refl _ _).alloc (Nat.le_refl _) _
  have hr1 : Rd W1 (some ⟨w.heap.size, 0, none⟩) 2 (fun i => .int .i64 (ftD x y i)) := by rw [hW1]; exact two_ints w x y _
  have hwr := halfWrong_any A n c R (some ⟨w.heap.size, 0, none⟩) 2 2 (ftD x y) W1 (H.out.below hb1) hr1 HN.out (by omega)
  have HB1 := Lib.hid hb1
  have HW1 := Lib.hid hW1
  have HWR := Lib.hid hwr
  clear hb1 hr1 hW1 hwr
  by_cases hz : hwE n R 2 (ftD x y) = 0
  · obtain ⟨⟨n1, n8⟩, h4, hin, hD⟩ := hwE_zero hz
    have d0 := hD 0 (by omega)
    have d1 := hD 1 (by omega)
    obtain ⟨f, rfl⟩ : ∃ f : Nat, x = (f : Int) := Int.eq_ofNat_of_zero_le d0.1
    obtain ⟨t, rfl⟩ : ∃ t : Nat, y = (t : Int) := Int.eq_ofNat_of_zero_le d1.1
    have hf : f < n := by have := d0.2; unfold ftD at this; rw [if_pos rfl] at this; omega
    have ht : t < n := by have := d1.2; unfold ftD at this; rw [if_neg (by omega)] at this; omega
    have HZ := Lib.hid hz
    have H4 := Lib.hid h4
    have HIN := Lib.hid hin
    clear hz h4 hin hD d0 d1
    go_enter Try.func6, Try.ntmps6
    go_wp2_with fail
    rw [← HW1.out]
    refine HWR.out.mono ?_
    rintro e w2 ⟨rfl, hb2⟩
    rw [HZ.out]
    have HB2 := Lib.hid (HB1.out.trans (hb2.mono HB1.out.size))
    clear hb2 HWR
    go_wp2_with fail
    refine (far_any A n c R t w2 (H.out.below HB2.out) n1 n8 ht HIN.out H4.out).mono ?_
    rintro e w3 ⟨⟨g, out, rfl, hg, hrow, hok⟩, hb3⟩
    have HB3 := Lib.hid (HB2.out.trans (hb3.mono HB2.out.size))
    have HOK := Lib.hid hok
    have HROW := Lib.hid hrow
    have k1 := hrow.cell (i := f) hf
    obtain ⟨v, hv⟩ : ∃ v, v = out f := ⟨_, rfl⟩
    rw [← hv] at k1
    have HV := Lib.hid hv
    clear hb3 hrow hok hg hv
    by_cases hneg : v < 0
    · have hd : decide (v < 0) = true := decide_eq_true hneg
      go_wp2_with fail
      go_ret2
      exact ⟨.inr ⟨HZ.out, f, t, rfl, rfl, hf, ht, out, HOK.out, .inl ⟨by rw [← HV.out]; exact hneg, rfl⟩⟩, HB3.out⟩
    · have hd : decide (v < 0) = false := decide_eq_false hneg
      obtain ⟨d, hdn, hvd, _⟩ := HOK.out.get hf (by rw [← HV.out]; omega)
      have d8 : d ≤ 8 := by omega
      have HDV := Lib.hid hvd
      obtain ⟨W4, hW4⟩ : ∃ W, W = w3.alloc (.cells #[.int .i64 (f : Nat)] 3) := ⟨_, rfl⟩
      have HO4 : Hid (Own W4 w3.heap.size 3 1 (some ⟨w3.heap.size, 0, none⟩) 1 1 1 (fun i => .int .i64 (((fun _ => f : Nat → Nat) i : Nat) : Int))) := Lib.hid (by
        rw [hW4]
        exact Own.made (n := 1) (s := 1) w3 w3.heap.size 3 #[.int .i64 (f : Nat)] _ (Nat.le_refl _) rfl (by unfold maxLen; omega) (fun i hi => by
          have : i = 0 := by omega
          subst this; rfl))
      have HB4 : Hid (Below w3.heap.size w3 W4) := Lib.hid (by rw [hW4]; exact (Below.refl _ _).alloc (Nat.le_refl _) _)
      have HW4 := Lib.hid hW4
      have HP4 : Hid (PathP R n t d out (fun _ => f) 0) := Lib.hid ⟨fun i hi => ⟨hf, by rw [HDV.out]; omega⟩, fun i hi => absurd hi (Nat.not_lt_zero _)⟩
      clear hW4 hvd
      go_wp2_with fail
      rw [← HW4.out]
      clear HW4 k1
      go_loopw [1, 10] (fun s1 s10 wr => ∃ (s : Nat) (P : Nat → Nat) (A' : Option Addr) (c' : Nat), s ≤ d ∧ s1 = .int .i64 ((P s : Nat) : Int) ∧ s10 = .slice A' (s + 1) c' ∧ Hid (P 0 = f) ∧ Hid (PathP R n t d out P s) ∧ Hid (Own wr w3.heap.size 3 1 A' (s + 1) c' (s + 1) (fun i => .int .i64 ((P i : Nat) : Int))) ∧ Hid (Below w3.heap.size w3 wr)) (fun _ s10 _ => d + 1 - (match s10 with | .slice _ k _ => k | _ => 0))
      case atStart => exact ⟨0, fun _ => f, _, 1, Nat.zero_le _, rfl, rfl, Lib.hid rfl, HP4, HO4, HB4⟩
      case round =>
        clear HP4 HO4 HB4
        obtain ⟨wo, rfl⟩ : ∃ wo : World, wo = wr := ⟨_, rfl⟩
        obtain ⟨s, P, A', c', hs, rfl, rfl, HP0, HP, HO, HB⟩ := hrel
        have hps := HP.out.1 s (Nat.le_refl _)
        have HROWo : Hid (wo.rowIs g 3 n (fun i => .int .i64 (out i))) := Lib.hid (HROW.out.of_block (HB.out.block _ HROW.out.lt))
        obtain ⟨p, hp⟩ : ∃ p, p = P s := ⟨_, rfl⟩
        rw [← hp] at hps ⊢
        have HPE := Lib.hid hp
        obtain ⟨hpn, hpo⟩ := hps
        clear hp
        by_cases hlt : s < d
        · have hpt : ((p : Int) != (t : Int)) = true := by
            rw [bne_iff_ne]
            intro e
            have e' : p = t := by omega
            have := HOK.out.self ht
            rw [← e', hpo] at this; omega
          have hgr := (H.out.below HB3.out).below HB.out
          obtain ⟨b, off, rfl, hb, hc0⟩ := hgr.1.at_ hpn
          have hgd := hgr.2 p hpn
          have hin := HIN.out p hpn
          have h4 := H4.out p hpn
          obtain ⟨y, hy⟩ : ∃ y, y = R p := ⟨_, rfl⟩
          rw [← hy] at hc0 hgd hin h4
          have HYR := Lib.hid hy
          obtain ⟨ya, yn, yc, yf⟩ := y
          have hc : wo.cell? ⟨b, off + p, none⟩ = some (.slice ya yn yc) := hc0
          have HRY : Hid (Rd wo ya yn (fun q => .int .i64 (yf q))) := Lib.hid hgd.1
          have HINY : Hid (∀ q, q < yn → 0 ≤ yf q ∧ yf q < (n : Int)) := Lib.hid hin
          have h4' : yn ≤ 4 := h4
          have HPO := Lib.hid hpo
          clear hc0 hgd hin h4 hgr hy hpo
          go_wp2_with fail
          go_loopw [11, 40] (fun s11 s40 wr => ∃ (q : Nat) (z : Int), wr.os = wo.os ∧ q ≤ yn ∧ s40 = .int .i64 (q : Nat) ∧ s11 = .int .i64 z ∧ Hid ((z = -1 ∧ ∀ q', q' < q → out (yf q').toNat ≠ (d : Int) - ((s + 1 : Nat) : Int)) ∨ ∃ q', q' < yn ∧ z = yf q' ∧ out (yf q').toNat = (d : Int) - ((s + 1 : Nat) : Int)) ∧ Hid (Below wo.heap.size wo wr)) (fun _ s40 _ => yn - (intOf s40).toNat)
          case atStart => exact ⟨0, -1, rfl, Nat.zero_le _, rfl, rfl, Lib.hid (.inl ⟨rfl, fun q' h => absurd h (Nat.not_lt_zero _)⟩), Lib.hid (Below.refl _ _)⟩
          case round =>
            obtain ⟨wp, rfl⟩ : ∃ wp : World, wp = wr := ⟨_, rfl⟩
            obtain ⟨q, z, hos, hq, rfl, rfl, HZZ, HBp⟩ := hrel
            by_cases hlt2 : q < yn
            · obtain ⟨b2, off2, rfl, hb2, hcq⟩ := (HRY.out.below HBp.out).at_ hlt2
              have hiq := HINY.out q hlt2
              obtain ⟨j, hj⟩ : ∃ j : Nat, yf q = (j : Int) := Int.eq_ofNat_of_zero_le hiq.1
              rw [hj] at hcq hiq
              have hjn : j < n := by omega
              have HROWp : Hid (wp.rowIs g 3 n (fun i => .int .i64 (out i))) := Lib.hid (HROWo.out.of_block (HBp.out.block _ HROWo.out.lt))
              have k1 := HROWp.out.cell (i := j) hjn
              have k2 := HROWp.out.cell (i := p) hpn
              have hpo := HPO.out
              obtain ⟨a, ha⟩ : ∃ a, a = out j := ⟨_, rfl⟩
              obtain ⟨bb, hbb⟩ : ∃ b, b = out p := ⟨_, rfl⟩
              rw [← ha] at k1
              rw [← hbb] at k2 hpo
              have HA := Lib.hid ha
              have HJ := Lib.hid hj
              have wsub : IntKind.i64.wrap (bb - 1) = bb - 1 := IntWalk.i64_in _ (by omega)
              have HPO2 := Lib.hid hpo
              clear ha hbb hiq hj hpo
              by_cases e1 : a = bb - 1
              · have q1 : (a == bb - 1) = true := by rw [e1]; exact beq_self_eq_true _
                have HHIT : Hid (out (yf q).toNat = (d : Int) - ((s + 1 : Nat) : Int)) := Lib.hid (by rw [HJ.out, Int.toNat_natCast, ← HA.out, e1]; have := HPO2.out; omega)
                by_cases e2 : z < 0
                · have q2 : decide (z < 0) = true := decide_eq_true e2
                  go_wp2_with fail
                  go_quiet (fail)
                  go_wp2_with fail
                  go_roundw
                  case rel => exact ⟨q + 1, j, hos, by omega, by go_num, rfl, Lib.hid (.inr ⟨q, hlt2, HJ.out.symm, HHIT.out⟩), Lib.hid (below_drewN HBp.out _)⟩
                  case measure => simp [intOf]; omega
                · have q2 : decide (z < 0) = false := decide_eq_false e2
                  have HOLD : Hid (∃ q', q' < yn ∧ z = yf q' ∧ out (yf q').toNat = (d : Int) - ((s + 1 : Nat) : Int)) := Lib.hid (by
                    rcases HZZ.out with ⟨h, _⟩ | h
                    · omega
                    · exact h)
                  by_cases e3 : (j : Int) < z
                  · have q3 : decide ((j : Int) < z) = true := decide_eq_true e3
                    go_wp2_with fail
                    go_quiet (fail)
                    go_wp2_with fail
                    go_roundw
                    case rel => exact ⟨q + 1, j, hos, by omega, by go_num, rfl, Lib.hid (.inr ⟨q, hlt2, HJ.out.symm, HHIT.out⟩), Lib.hid (below_drewN HBp.out _)⟩
                    case measure => simp [intOf]; omega
                  · have q3 : decide ((j : Int) < z) = false := decide_eq_false e3
                    go_wp2_with fail
                    go_quiet (fail)
                    go_wp2_with fail
                    go_roundw
                    case rel => exact ⟨q + 1, z, hos, by omega, by go_num, rfl, Lib.hid (.inr HOLD.out), Lib.hid (below_drewN HBp.out _)⟩
                    case measure => simp [intOf]; omega
              · have q1 : (a == bb - 1) = false := by rw [beq_eq_false_iff_ne]; exact e1
                have q1b : decide (a = bb - 1) = false := decide_eq_false e1
                have HMISS : Hid (out (yf q).toNat ≠ (d : Int) - ((s + 1 : Nat) : Int)) := Lib.hid (by rw [HJ.out, Int.toNat_natCast, ← HA.out]; have := HPO2.out; omega)
                go_wp2_with fail
                go_quiet (fail)
                go_wp2_with fail
                go_roundw
                case rel => exact ⟨q + 1, z, hos, by omega, by go_num, rfl, Lib.hid (by
                  rcases HZZ.out with ⟨h, h'⟩ | h
                  · refine .inl ⟨h, fun q' hq' => ?_⟩
                    by_cases e : q' = q
                    · rw [e]; exact HMISS.out
                    · exact h' q' (by omega)
                  · exact .inr h), Lib.hid (below_drewN HBp.out _)⟩
                case measure => simp [intOf]; omega
            · obtain rfl : yn = q := by omega
              have hfound : ∃ q', q' < yn ∧ z = yf q' ∧ out (yf q').toNat = (d : Int) - ((s + 1 : Nat) : Int) := by
                rcases HZZ.out with ⟨_, h⟩ | h
                · obtain ⟨m, hm, he, ho⟩ := HOK.out.next (i := p) (d := d - s - 1) hpn (by rw [HPO.out]; omega)
                  obtain ⟨q', hq', hqe⟩ := edg_iff.1 he
                  rw [← HYR.out] at hq' hqe
                  have hq'' : q' < yn := hq'
                  have hqe' : yf q' = (m : Int) := hqe
                  exact absurd (by rw [hqe', Int.toNat_natCast, ho]; omega) (h q' hq'')
                · exact h
              obtain ⟨q', hq', hz', ho'⟩ := hfound
              have hiq := HINY.out q' hq'
              obtain ⟨m, hm⟩ : ∃ m : Nat, yf q' = (m : Int) := Int.eq_ofNat_of_zero_le hiq.1
              rw [hm] at hiq hz' ho'
              subst hz'
              rw [Int.toNat_natCast] at ho'
              have HSN : Hid (PathP R n t d out (snocP P s m) (s + 1)) := Lib.hid (HP.out.snoc (by omega) (by rw [← HPE.out]; exact edg_iff.2 ⟨q', by rw [← HYR.out]; exact hq', by rw [← HYR.out]; exact hm⟩) ho')
              have HOp := Lib.hid (HO.out.below HBp.out)
              have HB5 := Lib.hid (HB.out.trans (HBp.out.mono HB.out.size))
              obtain ⟨W6, hW6⟩ : ∃ W, W = wp.alloc (.cells #[.int .i64 (m : Nat)] 3) := ⟨_, rfl⟩
              have hbA : Below wp.heap.size wp W6 := by rw [hW6]; exact (Below.refl _ _).alloc (Nat.le_refl _) _
              have HO6 := Lib.hid (HOp.out.below hbA)
              have HB6 := Lib.hid (HB5.out.trans (hbA.mono HB5.out.size))
              have HR6 : Hid (Rd W6 (some ⟨wp.heap.size, 0, none⟩) 1 (fun _ => .int .i64 ((m : Nat) : Int))) := Lib.hid (by rw [hW6]; exact Rd.one wp _ _)
              have hsw : w3.heap.size ≤ W6.heap.size := HB6.out.size
              have HW6 := Lib.hid hW6
              clear hbA hW6 hiq hm ho' HZZ hc
              go_wp2_with (at_builtin; rw [← HW6.out]; refine wpList_app _ rfl (.tmp 66) (.tmp 68) 23 rfl EIh rfl HO6.out rfl (l := 1) rfl HR6.out (fun _ _ => rfl) (by unfold maxLen; omega) (by omega) hsw (s + 1 + 1) (s + 1 + 1) rfl rfl ?_; intro A3 c3 w7 hown hgr hat hb7; have HO7 := Lib.hid hown; have HB7 := Lib.hid (HB6.out.trans hb7); clear hown hgr hat hb7)
              go_roundw
              case rel => exact ⟨s + 1, snocP P s m, A3, c3, by omega, by unfold snocP; rw [if_neg (by omega)], rfl, Lib.hid (by unfold snocP; rw [if_pos (Nat.zero_le _)]; exact HP0.out), HSN, Lib.hid (HO7.out.congr fun i hi => by
                unfold snocP
                by_cases e : i < s + 1
                · rw [cat_lt e, if_pos (by omega)]
                · rw [cat_ge (by omega), if_neg (by omega)]), HB7⟩
              case measure => simp; omega
        · obtain rfl : s = d := by omega
          obtain rfl : p = t := HOK.out.zero hpn (by rw [hpo]; omega)
          have hpt : ((p : Int) != (p : Int)) = false := by simp
          go_wp2_with fail
          go_ret2
          exact ⟨.inr ⟨HZ.out, f, p, rfl, rfl, hf, ht, out, HOK.out, .inr ⟨s, A', c', P, HDV.out, d8, rfl, HO.out.le.1, HO.out.rd, HP.out, HP0.out, HPE.out.symm⟩⟩, HB3.out.trans (HB.out.mono HB3.out.size)⟩
  · obtain ⟨z, hzz⟩ : ∃ z, z = hwE n R 2 (ftD x y) := ⟨_, rfl⟩
    rw [← hzz] at hz HWR
    have hzb : (z != 0) = true := by rw [bne_iff_ne]; exact hz
    have HZ := Lib.hid hzz
    have HZB := Lib.hid hzb
    clear hz hzz
    go_enter Try.func6, Try.ntmps6
    go_wp2_with fail
    rw [← HW1.out]
    refine HWR.out.mono ?_
    rintro e w2 ⟨rfl, hb2⟩
    have HB2 := Lib.hid (HB1.out.trans (hb2.mono HB1.out.size))
    clear hb2 HWR
    go_wp2_with fail
    go_ret2
    exact ⟨.inl ⟨z, HZ.out.symm, HZB.out, rfl⟩, HB2.out⟩
end Go.Proofs.Ytnkgdcaojfoanaa
