/- comb's read: the trees of a list. Condition: the list may be. -/
import Derived.Test.YtmbemikhbcjfmaaCombDec
import Derived.BigRegion
import Derived.Deep.DeepCutAuto
namespace Go.Proofs.Ytmbemikhbcjfmaa
open Go.ChangeShapes Go.WideShapes Go.ChangeAt Go.RowKit
set_option linter.unusedVariables false
set_option linter.unusedSimpArgs false
theorem EPr2 : Elem Try.prog 56 45 1 8 := Elem.of Try.underlying56 (by kernel_rfl : (Try.prog.info? 45).map (fun i => (i.zero, i.size, i.bytes)) = some (some (.pointer none), 1, 8)) rfl (by omega)
def RdP (w0 : World) (t : Tm) (e : Ending) (w' : World) : Prop := ∃ g, e = .returned (.pointer (some ⟨g, 0, none⟩)) ∧ TAt 58 w' t g
theorem nd_lf (W : World) (k v : Int) : (W.alloc (.cells #[.int .i64 k, .int .i64 v, .pointer none, .pointer none] 58)).rowIs W.heap.size 58 4 (ndC k v (.pointer none) (.pointer none)) := row4 W _ _ _ _ _ _ rfl rfl rfl rfl
theorem nd_set1 {W : World} {g : Nat} {k v v' : Int} {p q : Value} (h : W.rowIs g 58 4 (ndC k v p q)) : (W.setCell ⟨g, 1, none⟩ (.int .i64 v')).rowIs g 58 4 (ndC k v' p q) := (h.set 1 _).congr fun i hi => by
  match i, hi with
  | 0, _ => rfl
  | 1, _ => rfl
  | 2, _ => rfl
  | 3, _ => rfl
theorem nd_set2 {W : World} {g : Nat} {k v : Int} {p q p' : Value} (h : W.rowIs g 58 4 (ndC k v p q)) : (W.setCell ⟨g, 2, none⟩ p').rowIs g 58 4 (ndC k v p' q) := (h.set 2 _).congr fun i hi => by
  match i, hi with
  | 0, _ => rfl
  | 1, _ => rfl
  | 2, _ => rfl
  | 3, _ => rfl
theorem nd_set3 {W : World} {g : Nat} {k v : Int} {p q q' : Value} (h : W.rowIs g 58 4 (ndC k v p q)) : (W.setCell ⟨g, 3, none⟩ q').rowIs g 58 4 (ndC k v p q') := (h.set 3 _).congr fun i hi => by
  match i, hi with
  | 0, _ => rfl
  | 1, _ => rfl
  | 2, _ => rfl
  | 3, _ => rfl
set_option maxRecDepth 100000 in
set_option maxHeartbeats 4000000 in
theorem read_any (A : Option Addr) (n c : Nat) (L : Nat → Cb) (w : World) (h : Rd w A (n * 4) (lcC L)) (hok : OkC L n) (hn : 1 ≤ n ∧ n ≤ 1000) :
    Calls Try.prog 19 #[.slice A n c] w fun e w' => RdP w (dec L (n - 1)) e w' ∧ Below w.heap.size w w' := by
  obtain ⟨b, o, rfl, hb, _⟩ := h.at_ (show 0 < n * 4 by omega)
  have H := Lib.hid h
  have HOK := Lib.hid hok
  clear h hok
  go_enter Try.func19, Try.ntmps19
  go_wp2_with fail
  go_loopw [3, 9] (fun s3 s9 wr => ∃ (i : Nat) (A : Option Addr) (c : Nat) (gs : Nat → Nat), i ≤ n ∧ s9 = .int .i64 (i : Nat) ∧ s3 = .slice A i c ∧ Hid (∀ q, q < i → TAt 58 wr (dec L q) (gs q)) ∧ Hid (Own wr w.heap.size 45 1 A i c i (fun q => ptrV (gs q))) ∧ Hid (Below w.heap.size w wr)) (fun _ s9 _ => n - (intOf s9).toNat)
  case atStart => exact ⟨0, none, 0, fun _ => 0, Nat.zero_le _, rfl, rfl, Lib.hid (fun q hq => absurd hq (Nat.not_lt_zero _)), Lib.hid (Own.nil _ _ _ _ _), Lib.hid (Below.refl _ _)⟩
  case round =>
    obtain ⟨wo, rfl⟩ : ∃ wo : World, wo = wr := ⟨_, rfl⟩
    obtain ⟨i, A, c2, gs, hi, rfl, rfl, HT, HO, HB⟩ := hrel
    by_cases hin : i < n
    · obtain ⟨k0, k1, k2, k3⟩ := lc_at (H.out.below HB.out) hin
      obtain ⟨v1, v2, v3⟩ := cC_zero (HOK.out i hin)
      have hbo : b < wo.heap.size := by have := HB.out.size; omega
      have hws := HB.out.size
      have hapd : ∀ a : Nat, (a : Int) < i → True := fun _ _ => trivial
      obtain ⟨K, hK⟩ : ∃ K, K = (L i).1 := ⟨_, rfl⟩
      obtain ⟨xa, hxa⟩ : ∃ K, K = (L i).2.1 := ⟨_, rfl⟩
      obtain ⟨xb, hxb⟩ : ∃ K, K = (L i).2.2.1 := ⟨_, rfl⟩
      obtain ⟨xv, hxv⟩ : ∃ K, K = (L i).2.2.2 := ⟨_, rfl⟩
      rw [← hK] at k0 v1 v2 v3
      rw [← hxa] at k1 v3
      rw [← hxb] at k2 v3
      rw [← hxv] at k3 v2
      have HK := Lib.hid hK
      have HXA := Lib.hid hxa
      have HXB := Lib.hid hxb
      have HXV := Lib.hid hxv
      clear hK hxa hxb hxv
      by_cases hk4 : K = 4
      · subst hk4
        obtain ⟨⟨a1, a2⟩, b1, b2⟩ := v3 rfl
        obtain ⟨a, rfl⟩ := Int.eq_ofNat_of_zero_le a1
        obtain ⟨bb, rfl⟩ := Int.eq_ofNat_of_zero_le b1
        obtain ⟨G, o2, rfl, hG, hca⟩ := HO.out.rd.at_ (show a < i by omega)
        have hcb : wo.cell? ⟨G, o2 + bb, none⟩ = some (ptrV (gs bb)) := by
          obtain ⟨G', o', e, _, hc⟩ := HO.out.rd.at_ (show bb < i by omega)
          cases e; exact hc
        have hca' : wo.cell? ⟨G, o2 + a, none⟩ = some (.pointer (some ⟨gs a, 0, none⟩)) := hca
        have hcb' : wo.cell? ⟨G, o2 + bb, none⟩ = some (.pointer (some ⟨gs bb, 0, none⟩)) := hcb
        obtain ⟨ga, hga⟩ : ∃ g, g = gs a := ⟨_, rfl⟩
        obtain ⟨gb, hgb⟩ : ∃ g, g = gs bb := ⟨_, rfl⟩
        rw [← hga] at hca'
        rw [← hgb] at hcb'
        have HGA := Lib.hid hga
        have HGB := Lib.hid hgb
        clear hca hcb hga hgb v1 v2 v3
        go_upto_region 9 with fail
        go_region
        obtain ⟨Wn, hWn⟩ : ∃ W, W = ((wo.alloc (.cells #[.int .i64 4, .int .i64 (a : Nat), .int .i64 (bb : Nat), .int .i64 xv] 37)).alloc (.cells #[.int .i64 4, .int .i64 0, .pointer (some ⟨ga, 0, none⟩), .pointer (some ⟨gb, 0, none⟩)] 58)).drew := ⟨_, rfl⟩
        rw [← hWn]
        have hbn : Below wo.heap.size wo Wn := by rw [hWn]; exact (((Below.refl _ _).alloc (Nat.le_refl _) _).alloc (by simp) _).drew
        have hon := HO.out.below hbn
        have htn : TAt 58 Wn (dec L i) (wo.heap.size + 1) := by
          rw [hWn]
          obtain ⟨da, db, hde⟩ := dec_ap HOK.out hin HK.out.symm HXA.out.symm HXB.out.symm; rw [hde, show wo.heap.size + 1 = (wo.alloc (.cells #[.int .i64 4, .int .i64 (a : Nat), .int .i64 (bb : Nat), .int .i64 xv] 37)).heap.size by simp]; have hbb2 : Below wo.heap.size wo (((wo.alloc (.cells #[.int .i64 4, .int .i64 (a : Nat), .int .i64 (bb : Nat), .int .i64 xv] 37)).alloc (.cells #[.int .i64 4, .int .i64 0, .pointer (some ⟨ga, 0, none⟩), .pointer (some ⟨gb, 0, none⟩)] 58)).drew) := (((Below.refl _ _).alloc (Nat.le_refl _) _).alloc (by simp) _).drew; exact ⟨ga, gb, row4 _ _ _ _ _ _ _ rfl rfl rfl rfl, (show TAt 58 wo (dec L a) ga by rw [HGA.out]; exact HT.out a (by omega)).below hbb2, (show TAt 58 wo (dec L bb) gb by rw [HGB.out]; exact HT.out bb (by omega)).below hbb2⟩
        have HTN := Lib.hid htn
        have HTO : Hid (∀ q, q < i → TAt 58 Wn (dec L q) (gs q)) := Lib.hid (fun q hq => (HT.out q hq).below hbn)
        have hbw : Below w.heap.size w Wn := HB.out.trans (hbn.mono hws)
        have HBW := Lib.hid hbw
        have hwn := hbw.size
        have HON := Lib.hid hon
        clear hWn hbn hon htn hbw
        go_wp2_with (at_builtin; refine wpList_app _ rfl (.tmp 44) (.tmp 46) 56 rfl EPr2 rfl (HON.out.alloc _) rfl (l := 1) (by omega) (Rd.one _ (.pointer (some ⟨wo.heap.size + 1, 0, none⟩)) _) (fun _ _ => rfl) (by unfold maxLen; omega) (by omega) (by simp; omega) (i + 1) (i + 1) rfl rfl ?_; intro A2 ac2 w3 hown2 hg2 hat2 hbl2; have HOW := Lib.hid hown2; have HB3 := Lib.hid ((HBW.out.alloc HBW.out.size (.cells #[.pointer (some ⟨wo.heap.size + 1, 0, none⟩)] 45)).trans hbl2); have HGR := Lib.hid hg2; clear hown2 hg2 hat2 hbl2)
        go_roundw
        case rel => exact ⟨i + 1, A2, ac2, fun q => if q < i then gs q else wo.heap.size + 1, by omega, by go_num, rfl, Lib.hid (fun q hq => by
          have hgrow : ∀ {t : Tm} {g : Nat}, TAt 58 Wn t g → TAt 58 w3 t g := fun h => (h.below ((Below.refl _ _).alloc (Nat.le_refl _) _)).grown HGR.out (e' := 45) (by decide) (own_obj (HON.out.alloc _))
          by_cases e : q < i
          · simp only [if_pos e]; exact hgrow (HTO.out q e)
          · simp only [if_neg e]; rw [show q = i by omega]; exact hgrow HTN.out), Lib.hid (HOW.out.congr fun q hq => by
          rcases Nat.lt_or_ge q i with e | e
          · rw [cat_lt e]; simp only [if_pos e]
          · rw [cat_ge e]; simp only [if_neg (Nat.not_lt.2 e)]; rfl), HB3⟩
        case measure => simp [intOf]; omega
      · have q4 : (K == 4) = false := by rw [beq_eq_false_iff_ne]; exact hk4
        by_cases hk3 : K = 3
        · subst hk3
          clear v1 v2 v3
          go_upto_region 10 with fail
          obtain ⟨Wn, hWn⟩ : ∃ W, W = (wo.alloc (.cells #[.int .i64 3, .int .i64 xa, .int .i64 xb, .int .i64 xv] 37)).alloc (.cells #[.int .i64 3, .int .i64 xv, .pointer none, .pointer none] 58) := ⟨_, rfl⟩
          rw [← hWn]
          have hbn : Below wo.heap.size wo Wn := by rw [hWn]; exact ((Below.refl _ _).alloc (Nat.le_refl _) _).alloc (by simp) _
          have hon := HO.out.below hbn
          have htn : TAt 58 Wn (dec L i) (wo.heap.size + 1) := by
            rw [hWn]
            rw [dec_lf (by rw [← HK.out]; decide), ← HK.out, if_pos rfl, ← HXV.out, show wo.heap.size + 1 = (wo.alloc (.cells #[.int .i64 3, .int .i64 xa, .int .i64 xb, .int .i64 xv] 37)).heap.size by simp]; exact ⟨by decide, by decide, by decide, nd_lf _ _ _⟩
          have HTN := Lib.hid htn
          have HTO : Hid (∀ q, q < i → TAt 58 Wn (dec L q) (gs q)) := Lib.hid (fun q hq => (HT.out q hq).below hbn)
          have hbw : Below w.heap.size w Wn := HB.out.trans (hbn.mono hws)
          have HBW := Lib.hid hbw
          have hwn := hbw.size
          have HON := Lib.hid hon
          clear hWn hbn hon htn hbw
          go_wp2_with (at_builtin; refine wpList_app _ rfl (.tmp 44) (.tmp 46) 56 rfl EPr2 rfl (HON.out.alloc _) rfl (l := 1) (by omega) (Rd.one _ (.pointer (some ⟨wo.heap.size + 1, 0, none⟩)) _) (fun _ _ => rfl) (by unfold maxLen; omega) (by omega) (by simp; omega) (i + 1) (i + 1) rfl rfl ?_; intro A2 ac2 w3 hown2 hg2 hat2 hbl2; have HOW := Lib.hid hown2; have HB3 := Lib.hid ((HBW.out.alloc HBW.out.size (.cells #[.pointer (some ⟨wo.heap.size + 1, 0, none⟩)] 45)).trans hbl2); have HGR := Lib.hid hg2; clear hown2 hg2 hat2 hbl2)
          go_roundw
          case rel => exact ⟨i + 1, A2, ac2, fun q => if q < i then gs q else wo.heap.size + 1, by omega, by go_num, rfl, Lib.hid (fun q hq => by
            have hgrow : ∀ {t : Tm} {g : Nat}, TAt 58 Wn t g → TAt 58 w3 t g := fun h => (h.below ((Below.refl _ _).alloc (Nat.le_refl _) _)).grown HGR.out (e' := 45) (by decide) (own_obj (HON.out.alloc _))
            by_cases e : q < i
            · simp only [if_pos e]; exact hgrow (HTO.out q e)
            · simp only [if_neg e]; rw [show q = i by omega]; exact hgrow HTN.out), Lib.hid (HOW.out.congr fun q hq => by
            rcases Nat.lt_or_ge q i with e | e
            · rw [cat_lt e]; simp only [if_pos e]
            · rw [cat_ge e]; simp only [if_neg (Nat.not_lt.2 e)]; rfl), HB3⟩
          case measure => simp [intOf]; omega
        · have q3 : (K == 3) = false := by rw [beq_eq_false_iff_ne]; exact hk3
          clear v2 v3
          go_upto_region 10 with fail
          obtain ⟨Wn, hWn⟩ : ∃ W, W = (wo.alloc (.cells #[.int .i64 K, .int .i64 xa, .int .i64 xb, .int .i64 xv] 37)).alloc (.cells #[.int .i64 K, .int .i64 0, .pointer none, .pointer none] 58) := ⟨_, rfl⟩
          rw [← hWn]
          have hbn : Below wo.heap.size wo Wn := by rw [hWn]; exact ((Below.refl _ _).alloc (Nat.le_refl _) _).alloc (by simp) _
          have hon := HO.out.below hbn
          have htn : TAt 58 Wn (dec L i) (wo.heap.size + 1) := by
            rw [hWn]
            rw [dec_lf (by rw [← HK.out]; exact hk4), ← HK.out, if_neg hk3, show wo.heap.size + 1 = (wo.alloc (.cells #[.int .i64 K, .int .i64 xa, .int .i64 xb, .int .i64 xv] 37)).heap.size by simp]; exact ⟨hk4, v1.1, by omega, nd_lf _ _ _⟩
          have HTN := Lib.hid htn
          have HTO : Hid (∀ q, q < i → TAt 58 Wn (dec L q) (gs q)) := Lib.hid (fun q hq => (HT.out q hq).below hbn)
          have hbw : Below w.heap.size w Wn := HB.out.trans (hbn.mono hws)
          have HBW := Lib.hid hbw
          have hwn := hbw.size
          have HON := Lib.hid hon
          clear hWn hbn hon htn hbw
          go_wp2_with (at_builtin; refine wpList_app _ rfl (.tmp 44) (.tmp 46) 56 rfl EPr2 rfl (HON.out.alloc _) rfl (l := 1) (by omega) (Rd.one _ (.pointer (some ⟨wo.heap.size + 1, 0, none⟩)) _) (fun _ _ => rfl) (by unfold maxLen; omega) (by omega) (by simp; omega) (i + 1) (i + 1) rfl rfl ?_; intro A2 ac2 w3 hown2 hg2 hat2 hbl2; have HOW := Lib.hid hown2; have HB3 := Lib.hid ((HBW.out.alloc HBW.out.size (.cells #[.pointer (some ⟨wo.heap.size + 1, 0, none⟩)] 45)).trans hbl2); have HGR := Lib.hid hg2; clear hown2 hg2 hat2 hbl2)
          go_roundw
          case rel => exact ⟨i + 1, A2, ac2, fun q => if q < i then gs q else wo.heap.size + 1, by omega, by go_num, rfl, Lib.hid (fun q hq => by
            have hgrow : ∀ {t : Tm} {g : Nat}, TAt 58 Wn t g → TAt 58 w3 t g := fun h => (h.below ((Below.refl _ _).alloc (Nat.le_refl _) _)).grown HGR.out (e' := 45) (by decide) (own_obj (HON.out.alloc _))
            by_cases e : q < i
            · simp only [if_pos e]; exact hgrow (HTO.out q e)
            · simp only [if_neg e]; rw [show q = i by omega]; exact hgrow HTN.out), Lib.hid (HOW.out.congr fun q hq => by
            rcases Nat.lt_or_ge q i with e | e
            · rw [cat_lt e]; simp only [if_pos e]
            · rw [cat_ge e]; simp only [if_neg (Nat.not_lt.2 e)]; rfl), HB3⟩
          case measure => simp [intOf]; omega
    · obtain rfl : i = n := by omega
      obtain ⟨l, rfl⟩ : ∃ l, i = l + 1 := ⟨i - 1, by omega⟩
      have hlast := HT.out l (by omega)
      obtain ⟨G, o2, rfl, _, hc⟩ := HO.out.rd.at_ (show l < l + 1 by omega)
      have HL := Lib.hid hlast
      obtain ⟨x, hx⟩ : ∃ x, x = gs l := ⟨_, rfl⟩
      rw [← hx] at hc HL
      have hc' : wo.cell? ⟨G, o2 + l, none⟩ = some (.pointer (some ⟨x, 0, none⟩)) := hc
      clear hlast hc hx
      go_wp2_with fail
      go_ret
      exact ⟨⟨x, rfl, HL.out⟩, HB.out⟩
end Go.Proofs.Ytmbemikhbcjfmaa
