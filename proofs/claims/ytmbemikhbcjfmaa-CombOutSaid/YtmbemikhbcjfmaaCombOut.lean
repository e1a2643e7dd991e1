/- CombOut: without a variable, put to another one, it comes to the term with the other one in its place. No condition. -/
import Derived.Test.YtmbemikhbcjfmaaCombOutG
import Derived.Test.YtmbemikhbcjfmaaCombTw
import Derived.Test.YtmbemikhbcjfmaaCombRef
import Derived.Test.YtmbemikhbcjfmaaCombRef3
namespace Go.Proofs.Ytmbemikhbcjfmaa.combOut
open Go.ChangeShapes Go.WideShapes Go.ChangeAt Go.RowKit
set_option linter.unusedVariables false
set_option linter.unusedSimpArgs false
def ofF (F : Nat → Int) (i : Nat) : Cb := (F (i * 4), F (i * 4 + 1), F (i * 4 + 2), F (i * 4 + 3))
theorem ofF_lc (F : Nat → Int) (q : Nat) : Value.int .i64 (F q) = lcC (ofF F) q := by
  unfold lcC c1C ofF
  have : q % 4 = 0 ∨ q % 4 = 1 ∨ q % 4 = 2 ∨ q % 4 = 3 := by omega
  rcases this with e | e | e | e
  · rw [if_pos e, show q / 4 * 4 = q by omega]
  · rw [if_neg (by omega), if_pos e, show q / 4 * 4 + 1 = q by omega]
  · rw [if_neg (by omega), if_neg (by omega), if_pos e, show q / 4 * 4 + 2 = q by omega]
  · rw [if_neg (by omega), if_neg (by omega), if_neg (by omega), show q / 4 * 4 + 3 = q by omega]
def two (s : Nat) (x : Int) (i : Nat) : Cb := if i = 0 then (3, 0, 0, x) else (4, (s : Int), (s : Int) + 1, 0)
def ptL (L : Nat → Cb) (s : Nat) (x : Int) (i : Nat) : Cb := if i < s + 1 then L i else two s x (i - (s + 1))
theorem two_rd (W : World) (s : Nat) (x : Int) (e : TypeId) : Rd (W.alloc (.cells #[.int .i64 3, .int .i64 0, .int .i64 0, .int .i64 x, .int .i64 4, .int .i64 (s : Nat), .int .i64 ((s : Int) + 1), .int .i64 0] e)) (some ⟨W.heap.size, 0, none⟩) 8 (lcC (two s x)) := by
  refine Rd.of_row (t := e) (n := 8) ?_ (Nat.le_refl _)
  exact World.rowIs_alloc W _ e _ fun i hi => by
    have hi8 : i < 8 := hi
    have : i = 0 ∨ i = 1 ∨ i = 2 ∨ i = 3 ∨ i = 4 ∨ i = 5 ∨ i = 6 ∨ i = 7 := by omega
    clear hi hi8
    rcases this with rfl | rfl | rfl | rfl | rfl | rfl | rfl | rfl
    all_goals rfl
theorem pt_cat {C : Nat → Value} {L : Nat → Cb} {s q : Nat} {x : Int} (h : q < (s + 1) * 4 + 8) : cat ((s + 1) * 4) (cat 0 C (lcC L)) (lcC (two s x)) q = lcC (ptL L s x) q := by
  unfold lcC ptL
  by_cases e : q < (s + 1) * 4
  · rw [cat_lt e, cat_ge (Nat.zero_le _), if_pos (by omega)]; rfl
  · rw [cat_ge (by omega), if_neg (by omega), show (q - (s + 1) * 4) / 4 = q / 4 - (s + 1) by omega, show (q - (s + 1) * 4) % 4 = q % 4 by omega]
theorem pt_lt {L : Nat → Cb} {s i : Nat} {x : Int} (h : i < s + 1) : ptL L s x i = L i := if_pos h
theorem pt_dec {L : Nat → Cb} {s : Nat} {x : Int} (h : OkC L (s + 1)) (hx : 0 ≤ x ∧ x ≤ 1000) : dec (ptL L s x) (s + 2) = .ap (dec L s) (.lf 3 x) := by
  have en : ptL L s x (s + 1) = (3, 0, 0, x) := by unfold ptL; rw [if_neg (by omega), Nat.sub_self]; rfl
  have en1 : ptL L s x (s + 2) = (4, (s : Int), (s : Int) + 1, 0) := by unfold ptL; rw [if_neg (by omega), show s + 2 - (s + 1) = 1 by omega]; rfl
  have hok : OkC (ptL L s x) (s + 3) := fun i hi => by
    by_cases e : i < s + 1
    · rw [cC_congr (pt_lt e)]; exact h i e
    · by_cases e2 : i = s + 1
      · rw [e2]
        unfold cC
        rw [en]
        rw [if_neg (fun e => e ⟨show (1 : Int) ≤ 3 by decide, show (3 : Int) ≤ 4 by decide⟩), if_neg (fun e => e.2 hx), if_neg (fun e => absurd (show (3 : Int) = 4 from e.1) (by decide))]
      · have : i = s + 2 := by omega
        rw [this]
        unfold cC
        rw [en1]
        rw [if_neg (fun e => e ⟨show (1 : Int) ≤ 4 by decide, show (4 : Int) ≤ 4 by decide⟩), if_neg (fun e => absurd (show (4 : Int) = 3 from e.1) (by decide)), if_neg (fun e => e.2 ⟨⟨by show 0 ≤ (s : Int); omega, by show (s : Int) < _; omega⟩, by show 0 ≤ (s : Int) + 1; omega, by show (s : Int) + 1 < _; omega⟩)]
  obtain ⟨_, _, hd⟩ := dec_ap (a := s) (b := s + 1) hok (show s + 2 < s + 3 by omega) (by rw [en1]) (by rw [en1]) (by rw [en1]; show (s : Int) + 1 = _; omega)
  rw [hd]
  rw [dec_lf (i := s + 1) (by rw [en]; show (3 : Int) ≠ 4; decide), en]
  have : dec L s = dec (ptL L s x) s := dec_congr h (fun i hi => (pt_lt hi).symm) _ _ (by omega) (by omega)
  rw [← this]; rfl
def zB (x : Int) : Bool := x == 0
set_option maxRecDepth 100000 in
theorem combed_any (A : Option Addr) (n c : Nat) (L : Nat → Cb) (w : World) (h : Rd w A (n * 4) (lcC L)) (hn : n ≤ maxLen) :
    Calls Try.prog 7 #[.slice A n c] w fun e w' => e = .returned (.bool (zB (ckE L n))) ∧ Below w.heap.size w w' := by
  have HCK := Lib.hid (rcheck_any A n c L w h hn)
  clear h hn
  go_enter Try.func7, Try.ntmps7
  go_wp2_with fail
  refine HCK.out.mono ?_
  rintro e w2 ⟨rfl, hb⟩
  go_wp2_with fail
  go_ret
  exact ⟨rfl, hb⟩
set_option maxRecDepth 100000 in
set_option maxHeartbeats 8000000 in
theorem walk (w : World) (A : Option Addr) (n c : Nat) (F : Nat → Int) (v y : Int) (h0 : Rd w A (n * 4) (fun q => .int .i64 (F q))) (wf : ∀ i, (Lit.int .i64 (F i)).wf = true) (hl : n ≤ c) (hm : c ≤ maxLen) (z : c * 32 ≤ 140737488351232) (wv : (Lit.int .i64 v).wf = true) (wy : (Lit.int .i64 y).wf = true) :
    Calls Try.prog 5 #[.slice A n c, .int .i64 v, .int .i64 y] w fun e w' => e = .returned (.bool true) ∧ Below w.heap.size w w' := by
  have hmm : n ≤ maxLen := by omega
  obtain ⟨L, hL⟩ : ∃ L, L = ofF F := ⟨_, rfl⟩
  have h : Rd w A (n * 4) (lcC L) := by rw [hL]; exact h0.congr fun q _ => ofF_lc F q
  have HCO := Lib.hid (fun X (hX : Below w.heap.size w X) => combed_any A n c L X (h.below hX) hmm)
  have H := Lib.hid h
  by_cases hck : ckE L n = 0
  · rw [hck, show zB 0 = true from rfl] at HCO
    by_cases hv : 0 ≤ v ∧ v ≤ 1000
    · obtain ⟨hn1, hok, hsz⟩ := ckE_zero hck
      have HOU := Lib.hid (Out_any A n c v L w h hck hv)
      have HWI := Lib.hid (fun X => by have := within_any 0 v 1000 X; rw [inB_yes hv.1 hv.2] at this; exact this)
      have HOK := Lib.hid hok
      have hgd := gd_dec hok n (n - 1) (by omega) (by omega)
      obtain ⟨l, hl2⟩ : ∃ l, n = l + 1 := ⟨n - 1, by omega⟩
      subst hl2
      rw [show l + 1 - 1 = l by omega] at HOU hgd hsz
      obtain ⟨t, ht⟩ : ∃ t, t = dec L l := ⟨_, rfl⟩
      rw [← ht] at HOU hgd hsz
      have HRL := Lib.hid (fun X (hX : Below w.heap.size w X) => by have := rread_any A (l + 1) c L hok (l + 1) l X (by omega) (by omega) (by omega) (h.below hX); rw [← ht] at this; exact this)
      have HGD := Lib.hid hgd
      clear h0 wf hL h hl hm z wv wy hmm hck hok hgd ht
      go_enter Try.func5, Try.ntmps5
      go_wp2_with fail
      refine HOU.out.mono ?_
      rintro e w1 ⟨hp, hb1⟩
      have HB1 := Lib.hid hb1
      rcases hp with ⟨_, rfl⟩ | ⟨hos, A6, c6, rfl, l6, m6, hrd6⟩
      · clear hb1
        go_wp2_with fail
        refine (HCO.out w1 HB1.out).mono ?_
        rintro e w2 ⟨rfl, hb2⟩
        have HB2 := Lib.hid (HB1.out.trans (hb2.mono HB1.out.size))
        clear hb2
        go_wp2_with fail
        refine (HWI.out w2).mono ?_
        rintro e w3 ⟨rfl, rfl⟩
        go_wp2_with fail
        go_ret
        exact ⟨rfl, HB2.out⟩
      · have hog := oT_gd v t HGD.out
        obtain ⟨hwo, hwd⟩ := wr_ok (oT v t) (fun _ => (0, 0, 0, 0)) 0 hog (fun i hi => absurd hi (Nat.not_lt_zero _))
        rw [Nat.zero_add] at hwo hwd
        have hop := (oT v t).sz_pos
        have HSN := Lib.hid (oT_st v t)
        obtain ⟨su, hsu⟩ : ∃ su, (oT v t).sz = su + 1 := ⟨(oT v t).sz - 1, by omega⟩
        rw [hsu] at hos hwo hwd hrd6 l6 ⊢
        obtain ⟨M, hM⟩ : ∃ M, M = wrF (oT v t) (fun _ => (0, 0, 0, 0)) 0 := ⟨_, rfl⟩
        rw [← hM] at hwo hwd hrd6
        rw [show su + 1 - 1 = su by omega] at hwd
        have HR6 := Lib.hid hrd6
        have HWO := Lib.hid hwo
        have HWD := Lib.hid hwd
        have HTW := Lib.hid (fun X (hX : Below w1.heap.size w1 X) => treeWrong_no A6 (su + 1) c6 M X (hrd6.below hX) hwo hos)
        have HRM := Lib.hid (fun X (hX : Below w1.heap.size w1 X) => by have := rread_any A6 (su + 1) c6 M hwo (su + 1) su X (by omega) (by omega) (by omega) (hrd6.below hX); rw [hwd] at this; exact this)
        have qs1 : (((su + 1 : Nat) : Int) == 0) = false := by rw [beq_eq_false_iff_ne]; omega
        have qs2 : ((su : Int) + 1 == 0) = false := by rw [beq_eq_false_iff_ne]; omega
        clear hb1 hog hwo hwd hrd6 l6 m6 hop hM hsu
        go_wp2_with fail
        refine (HCO.out w1 HB1.out).mono ?_
        rintro e w2 ⟨rfl, hb2⟩
        have HB2 := Lib.hid hb2
        clear hb2
        go_wp2_with fail
        refine (HWI.out w2).mono ?_
        rintro e w3 ⟨rfl, rfl⟩
        go_wp2_with fail
        refine (HTW.out w2 HB2.out).mono ?_
        rintro e w3 ⟨rfl, hb3⟩
        have HB3 := Lib.hid (HB2.out.trans (hb3.mono HB2.out.size))
        clear hb3
        go_wp2_with fail
        refine (HRM.out w3 HB3.out).mono ?_
        rintro e w4 ⟨⟨q4, rfl, ht4⟩, hb4⟩
        have HB4 := Lib.hid (HB3.out.trans (hb4.mono HB3.out.size))
        have hsd := stands_any v (oT v t) q4 w4 ht4
        rw [HSN.out] at hsd
        have HSD := Lib.hid hsd
        clear hb4 hsd ht4
        go_wp2_with fail
        refine HSD.out.mono ?_
        rintro e w5 ⟨rfl, rfl⟩
        have HB5 := Lib.hid (HB1.out.trans (HB4.out.mono HB1.out.size))
        by_cases hy : 0 ≤ y ∧ y ≤ 1000
        · have HWY := Lib.hid (fun X => by have := within_any 0 y 1000 X; rw [inB_yes hy.1 hy.2] at this; exact this)
          by_cases h40 : su + 1 + 2 ≤ 40
          · have HRO := Lib.hid ((HR6.out.below HB4.out).below ((Below.refl w4.heap.size w4).alloc (Nat.le_refl _) (.cells #[] 37)))
            go_wp2_with fail
            refine (HWY.out w4).mono ?_
            rintro e w6 ⟨rfl, rfl⟩
            go_wp2_with (first
              | (at_builtin; refine wpList_app _ rfl (.tmp 67) (.tmp 68) 22 rfl ECb rfl (Own.empty w4 w4.heap.size 37 4 (lcC M) (Nat.le_refl _)) rfl (l := (su + 1) * 4) rfl HRO.out (fun _ _ => c1_one _ _) (by unfold maxLen; omega) (by omega) (by simp) (su + 1) ((su + 1) * 4) (by omega) (by omega) ?_; intro A5 c5 w5 hown5 hg5 hat5 hbl5; have hbe5 := ((Below.refl w4.heap.size w4).alloc (Nat.le_refl _) (.cells #[] 37)).trans hbl5; have hs5 := hbe5.size)
              | (at_builtin; refine wpList_app _ rfl (.tmp 69) (.tmp 78) 22 rfl ECb rfl (hown5.alloc _) rfl (l := 8) rfl (two_rd _ su y 37) (fun _ _ => c1_one _ _) (by unfold maxLen; omega) (by omega) (by simp; omega) (su + 1 + 2) ((su + 1 + 2) * 4) rfl (by omega) ?_; intro A7 c7 w7 hown7 hg7 hat7 hbl7; have hbe7 := (hbe5.alloc hbe5.size _).trans hbl7; have HRD7 := Lib.hid (hown7.rd.congr (C' := lcC (ptL M su y)) (fun q hq => pt_cat (by omega))); have HB7 := Lib.hid (HB5.out.trans (hbe7.mono HB5.out.size)); clear hown7 hg7 hat7 hbl7 hown5 hbl5 hbe5 hbe7 hg5 hat5 hs5))
            have hpd := pt_dec HWO.out hy
            rw [HWD.out] at hpd
            have HPD := Lib.hid hpd
            have htsz := iT_sz v (k := 3) (y := y) t
            have hxg := iT_gd v (x := .lf 3 y) ⟨⟨by omega, by omega⟩, fun _ => hy, fun e => absurd rfl e⟩ t HGD.out
            have hpr := oT_prs v (.lf 3 y) t
            obtain ⟨X, hX⟩ : ∃ X, X = iT v (.lf 3 y) t := ⟨_, rfl⟩
            rw [← hX] at htsz hxg hpr
            obtain ⟨hwx, hwdx⟩ := wr_ok X (fun _ => (0, 0, 0, 0)) 0 hxg (fun i hi => absurd hi (Nat.not_lt_zero _))
            rw [Nat.zero_add] at hwdx
            have HPR := Lib.hid hpr
            have HX := Lib.hid hX
            have HWDX := Lib.hid hwdx
            have hxs : X.sz ≤ 300 := by omega
            obtain ⟨sx, hsx⟩ : ∃ sx, sx = X.sz := ⟨_, rfl⟩
            rw [← hsx] at hxs
            have HSX := Lib.hid hsx
            clear hpd htsz hxg hpr hX hwx hwdx hsx
            refine (HRL.out w7 HB7.out).mono ?_
            rintro e w8 ⟨⟨q8, rfl, ht8⟩, hb8⟩
            have HB8 := Lib.hid (HB7.out.trans (hb8.mono HB7.out.size))
            have HR8 := Lib.hid (HRD7.out.below hb8)
            have hins := insted_any v (.lf 3 y) t q8 w8.heap.size (w8.alloc (.cells #[.int .i64 3, .int .i64 y, .pointer none, .pointer none] 43)) (ht8.below ((Below.refl _ _).alloc (Nat.le_refl _) _)) (lf_at ⟨by decide, by decide, by decide⟩)
            rw [← HX.out] at hins
            have HINS := Lib.hid hins
            clear hb8 ht8 hins
            go_wp2_with fail
            refine HINS.out.mono ?_
            rintro e w9 ⟨⟨p9, rfl, ht9⟩, hb9⟩
            have hb89 : Below w8.heap.size w8 w9 := ((Below.refl _ _).alloc (Nat.le_refl _) _).trans (hb9.mono (by simp))
            have HB9 := Lib.hid (HB8.out.trans (hb89.mono HB8.out.size))
            have HN9 := Lib.hid (norm6_any A7 (su + 1 + 2) c7 (ptL M su y) w9 (HR8.out.below hb89) (by unfold maxLen; omega))
            have HT9 := Lib.hid ht9
            clear hb9 hb89 ht9
            go_wp2_with fail
            refine HN9.out.mono ?_
            rintro e w10 ⟨hp1, hb10⟩
            have HB10 := Lib.hid (HB9.out.trans (hb10.mono HB9.out.size))
            have HW10 := Lib.hid (rwrite_any X p9 w10 none 0 0 (fun _ => (0, 0, 0, 0)) (HT9.out.below hb10) (Rd.zero _ _ _) (by rw [← HSX.out]; omega))
            clear hb10
            rcases hp1 with ⟨x1, qx1, rfl⟩ | ⟨i1, u1, A1, c1, hi1, hn1, he1, hs1, rfl, hr1⟩
            · go_wp2_with fail
              refine HW10.out.mono ?_
              rintro e w11 ⟨A11, c11, rfl, l11, m11, hr11, hb11⟩
              rw [Nat.zero_add, ← HSX.out] at hr11 ⊢
              have HB11 := Lib.hid (HB10.out.trans (hb11.mono HB10.out.size))
              have HN11 := Lib.hid (norm6_any A11 sx c11 _ w11 hr11 (by unfold maxLen; omega))
              clear hr11 hb11 l11 m11
              go_wp2_with fail
              refine HN11.out.mono ?_
              rintro e w12 ⟨hp2, hb12⟩
              have HB12 := Lib.hid (HB11.out.trans (hb12.mono HB11.out.size))
              clear hb12
              rcases hp2 with ⟨x2, qx2, rfl⟩ | ⟨i2, u2, A2, c2, hi2, hn2, he2, hs2, rfl, hr2⟩
              · go_wp2_with fail
                go_ret
                exact ⟨rfl, HB12.out⟩
              · clear hn2 he2 hr2
                go_wp2_with fail
                go_ret
                exact ⟨rfl, HB12.out⟩
            · rw [show su + 1 + 2 - 1 = su + 2 by omega, HPD.out] at hn1
              have HNA := Lib.hid (nrm_prs hn1)
              have HR1 := Lib.hid hr1
              have HE1 := Lib.hid he1
              obtain ⟨z1, hz1⟩ : ∃ z, z = u1.sz := ⟨_, rfl⟩
              have HZ1 := Lib.hid hz1
              rw [← hz1] at hs1 HR1 ⊢
              clear hn1 hr1 he1 hz1
              go_wp2_with fail
              refine HW10.out.mono ?_
              rintro e w11 ⟨A11, c11, rfl, l11, m11, hr11, hb11⟩
              rw [Nat.zero_add, ← HSX.out] at hr11 ⊢
              have HB11 := Lib.hid (HB10.out.trans (hb11.mono HB10.out.size))
              have HR11 := Lib.hid (HR1.out.below hb11)
              have HN11 := Lib.hid (norm6_any A11 sx c11 _ w11 hr11 (by unfold maxLen; omega))
              clear hr11 hb11 l11 m11
              go_wp2_with fail
              refine HN11.out.mono ?_
              rintro e w12 ⟨hp2, hb12⟩
              have HB12 := Lib.hid (HB11.out.trans (hb12.mono HB11.out.size))
              have HR12 := Lib.hid (HR11.out.below hb12)
              clear hb12
              rcases hp2 with ⟨x2, qx2, rfl⟩ | ⟨i2, u2, A2, c2, hi2, hn2, he2, hs2, rfl, hr2⟩
              · go_wp2_with fail
                go_ret
                exact ⟨rfl, HB12.out⟩
              · by_cases e1 : i1 = 60
                · subst e1
                  clear hn2 he2 hr2
                  go_wp2_with fail
                  go_ret
                  exact ⟨rfl, HB12.out⟩
                · have q1 : (((i1 : Nat) : Int) == 60) = false := by rw [beq_eq_false_iff_ne]; omega
                  by_cases e2 : i2 = 60
                  · subst e2
                    clear hn2 he2 hr2
                    go_wp2_with fail
                    go_ret
                    exact ⟨rfl, HB12.out⟩
                  · have q2 : (((i2 : Nat) : Int) == 60) = false := by rw [beq_eq_false_iff_ne]; omega
                    rw [HSX.out, HWDX.out] at hn2
                    have huu : u2 = u1 := norm_same (HPR.out.trans (nrm_prs hn2)) HNA.out (he2.resolve_left e2) (HE1.out.resolve_left e1)
                    subst huu
                    rw [← HZ1.out] at hr2 ⊢
                    have HCM := Lib.hid (combs_same A1 A2 z1 c1 c2 _ w12 HR12.out hr2 (by omega))
                    clear hn2 he2 hr2
                    go_wp2_with fail
                    refine HCM.out.mono ?_
                    rintro e w13 ⟨rfl, k13, rfl⟩
                    go_wp2_with fail
                    go_ret
                    exact ⟨rfl, below_drewN HB12.out _⟩
          · go_wp2_with fail
            refine (HWY.out w4).mono ?_
            rintro e w6 ⟨rfl, rfl⟩
            go_wp2_with fail
            go_ret
            exact ⟨rfl, HB5.out⟩
        · have HWY := Lib.hid (fun X => by have := within_any 0 y 1000 X; rw [inB_no hy] at this; exact this)
          go_wp2_with fail
          refine (HWY.out w4).mono ?_
          rintro e w6 ⟨rfl, rfl⟩
          go_wp2_with fail
          go_ret
          exact ⟨rfl, HB5.out⟩
    · have HNO := Lib.hid (Out_bad A n c v L w h hmm (.inr hv))
      have HWI := Lib.hid (fun X => by have := within_any 0 v 1000 X; rw [inB_no hv] at this; exact this)
      clear h0 wf hL h hl hm z wv wy hmm hck hv
      go_enter Try.func5, Try.ntmps5
      go_wp2_with fail
      refine HNO.out.mono ?_
      rintro e w1 ⟨⟨x, qx, rfl⟩, hb1⟩
      have HB1 := Lib.hid hb1
      clear hb1
      go_wp2_with fail
      refine (HCO.out w1 HB1.out).mono ?_
      rintro e w2 ⟨rfl, hb2⟩
      have HB2 := Lib.hid (HB1.out.trans (hb2.mono HB1.out.size))
      clear hb2
      go_wp2_with fail
      refine (HWI.out w2).mono ?_
      rintro e w3 ⟨rfl, rfl⟩
      go_wp2_with fail
      go_ret
      exact ⟨rfl, HB2.out⟩
  · have hzb : zB (ckE L n) = false := by unfold zB; rw [beq_eq_false_iff_ne]; exact hck
    have HNO := Lib.hid (Out_bad A n c v L w h hmm (.inl hck))
    rw [hzb] at HCO
    clear h0 wf hL h hl hm z wv wy hmm hck hzb
    go_enter Try.func5, Try.ntmps5
    go_wp2_with fail
    refine HNO.out.mono ?_
    rintro e w1 ⟨⟨x, qx, rfl⟩, hb1⟩
    have HB1 := Lib.hid hb1
    clear hb1
    go_wp2_with fail
    refine (HCO.out w1 HB1.out).mono ?_
    rintro e w2 ⟨rfl, hb2⟩
    have HB2 := Lib.hid (HB1.out.trans (hb2.mono HB1.out.size))
    clear hb2
    go_wp2_with fail
    go_ret
    exact ⟨rfl, HB2.out⟩
end Go.Proofs.Ytmbemikhbcjfmaa.combOut
