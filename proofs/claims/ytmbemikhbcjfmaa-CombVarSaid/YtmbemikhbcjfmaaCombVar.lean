/- CombVar: no variable comes in; and where fewer steps were done nothing becomes anything any more. No condition. -/
import Derived.Test.YtmbemikhbcjfmaaCombVarLaw
import Derived.Test.YtmbemikhbcjfmaaCombTw
import Derived.Test.YtmbemikhbcjfmaaCombRef2
import Derived.Test.YtmbemikhbcjfmaaCombRef3
namespace Go.Proofs.Ytmbemikhbcjfmaa.combVar
open Go.ChangeShapes Go.WideShapes Go.ChangeAt Go.RowKit
set_option linter.unusedVariables false
set_option linter.unusedSimpArgs false
def ofF (F : Nat → Int) (i : Nat) : Cb := (F (i * 4), F (i * 4 + 1), F (i * 4 + 2), F (i * 4 + 3))
theorem ofF_lc (F : Nat → Int) (q : Nat) : Value.int .i64 (F q) = lcC (ofF F) q := by
  unfold lcC c1C ofF
  have : q % 4 = 0 ∨ q % 4 = 1 ∨ q % 4 = 2 ∨ q % 4 = 3 := by omega
  rcases this with e | e | e | e
  · rw [if_pos e, show q / 4 * 4 = q by omega]
  · rw [if_neg (by omega), if_pos e, show q / 4 * 4 + 1 = q by omega]
  · rw [if_neg (by omega), if_neg (by omega), if_pos e, show q / 4 * 4 + 2 = q by omega]
  · rw [if_neg (by omega), if_neg (by omega), if_neg (by omega), show q / 4 * 4 + 3 = q by omega]
set_option maxRecDepth 100000 in
set_option maxHeartbeats 2000000 in
theorem norm_bad (A : Option Addr) (n c : Nat) (s : Int) (L : Nat → Cb) (w : World) (h : Rd w A (n * 4) (lcC L)) (hn : n ≤ maxLen) (hz : ckE L n ≠ 0) :
    Calls Try.prog 6 #[.slice A n c, .int .i64 s] w fun e w' => e = .returned (.tuple #[.slice none 0 0, .int .i64 0, .int .i64 (ckE L n)]) ∧ Below w.heap.size w w' := by
  have hck := check_any A n c L w h hn
  obtain ⟨v, hv⟩ : ∃ v, v = ckE L n := ⟨_, rfl⟩
  rw [← hv] at hck hz ⊢
  have q : (v != 0) = true := by rw [bne_iff_ne]; exact hz
  have HCK := Lib.hid hck
  clear h hck hv hz hn
  go_enter Try.func6, Try.ntmps6
  go_wp2_with fail
  refine HCK.out.mono ?_
  rintro e w2 ⟨rfl, hb⟩
  go_wp2_with fail
  go_ret3
  exact ⟨rfl, hb⟩
set_option maxRecDepth 100000 in
set_option maxHeartbeats 2000000 in
theorem norm_far (A : Option Addr) (n c : Nat) (s : Int) (L : Nat → Cb) (w : World) (h : Rd w A (n * 4) (lcC L)) (hn : n ≤ maxLen) (hz : ckE L n = 0) (hs : ¬ (0 ≤ s ∧ s ≤ 60)) :
    Calls Try.prog 6 #[.slice A n c, .int .i64 s] w fun e w' => e = .returned (.tuple #[.slice none 0 0, .int .i64 0, .int .i64 4]) ∧ Below w.heap.size w w' := by
  have hck := check_any A n c L w h hn
  rw [hz] at hck
  have HCK := Lib.hid hck
  clear h hck hz hn
  by_cases h0 : s < 0
  · go_enter Try.func6, Try.ntmps6
    go_wp2_with fail
    refine HCK.out.mono ?_
    rintro e w2 ⟨rfl, hb⟩
    go_wp2_with fail
    go_ret3
    exact ⟨rfl, hb⟩
  · have h1 : 60 < s := by omega
    go_enter Try.func6, Try.ntmps6
    go_wp2_with fail
    refine HCK.out.mono ?_
    rintro e w2 ⟨rfl, hb⟩
    go_wp2_with fail
    go_ret3
    exact ⟨rfl, hb⟩
def zB (x : Int) : Bool := x == 0
set_option maxRecDepth 100000 in
theorem combed_any (A : Option Addr) (n c : Nat) (L : Nat → Cb) (w : World) (h : Rd w A (n * 4) (lcC L)) (hn : n ≤ maxLen) :
    Calls Try.prog 7 #[.slice A n c] w fun e w' => e = .returned (.bool (zB (ckE L n))) ∧ Below w.heap.size w w' := by
  have HCK := Lib.hid (rcheck_any A n c L w h hn)
  clear h hn
  go_enter Try.func7, Try.ntmps7
  go_wp2_with fail
  refine HCK.out.mono ?_
  rintro e w2 ⟨rfl, hb⟩
  go_wp2_with fail
  go_ret
  exact ⟨rfl, hb⟩
set_option maxRecDepth 100000 in
set_option maxHeartbeats 4000000 in
theorem walk (w : World) (A : Option Addr) (n c : Nat) (F : Nat → Int) (v s : Int) (h0 : Rd w A (n * 4) (fun q => .int .i64 (F q))) (wf : ∀ i, (Lit.int .i64 (F i)).wf = true) (hl : n ≤ c) (hm : c ≤ maxLen) (z : c * 32 ≤ 140737488351232) (wv : (Lit.int .i64 v).wf = true) (ws : (Lit.int .i64 s).wf = true) :
    Calls Try.prog 3 #[.slice A n c, .int .i64 v, .int .i64 s] w fun e w' => e = .returned (.bool true) ∧ Below w.heap.size w w' := by
  have hmm : n ≤ maxLen := by omega
  obtain ⟨L, hL⟩ : ∃ L, L = ofF F := ⟨_, rfl⟩
  have h : Rd w A (n * 4) (lcC L) := by rw [hL]; exact h0.congr fun q _ => ofF_lc F q
  have HCO := Lib.hid (fun X (hX : Below w.heap.size w X) => combed_any A n c L X (h.below hX) hmm)
  have H := Lib.hid h
  by_cases hck : ckE L n = 0
  · rw [hck, show zB 0 = true from rfl] at HCO
    obtain ⟨hn1, hok, hsz⟩ := ckE_zero hck
    by_cases hs : 0 ≤ s ∧ s ≤ 60
    · obtain ⟨S, rfl⟩ := Int.eq_ofNat_of_zero_le hs.1
      have HNO := Lib.hid (norm_any A n c S L w h hck (by omega))
      have HWI := Lib.hid (fun X => by have := within_any 0 ((S : Nat) : Int) 60 X; rw [inB_yes hs.1 hs.2] at this; exact this)
      have HOK := Lib.hid hok
      have hgd := gd_dec hok n (n - 1) (by omega) (by omega)
      have HGD := Lib.hid hgd
      clear h0 wf hL h hl hm z wv ws hmm hck hok hsz hgd
      go_enter Try.func3, Try.ntmps3
      go_wp2_with fail
      refine HNO.out.mono ?_
      rintro e w1 ⟨hp, hb1⟩
      have HB1 := Lib.hid hb1
      rcases hp with ⟨rfl, _⟩ | ⟨i, u, A6, c6, hi, hnr, he, hus, rfl, hl6, hm6, hrd6⟩
      · clear hb1
        go_wp2_with fail
        refine (HCO.out w1 HB1.out).mono ?_
        rintro e w2 ⟨rfl, hb2⟩
        have HB2 := Lib.hid (HB1.out.trans (hb2.mono HB1.out.size))
        clear hb2
        go_wp2_with fail
        refine (HWI.out w2).mono ?_
        rintro e w3 ⟨rfl, rfl⟩
        go_wp2_with fail
        go_ret
        exact ⟨rfl, HB2.out⟩
      · obtain ⟨hwo, hwd⟩ := wr_ok u (fun _ => (0, 0, 0, 0)) 0 (nrm_gd hnr HGD.out) (fun i hi => absurd hi (Nat.not_lt_zero _))
        rw [Nat.zero_add] at hwo hwd
        have hup := u.sz_pos
        have HR6 := Lib.hid hrd6
        have HWO := Lib.hid hwo
        have HWD := Lib.hid hwd
        have HST := Lib.hid (nrm_st v hnr)
        have HSE : Hid (i = S ∨ (stp u).isSome = false) := Lib.hid (he.imp id (fun e => by rw [e]; rfl))
        obtain ⟨l, hl⟩ : ∃ l, n = l + 1 := ⟨n - 1, by omega⟩
        subst hl
        obtain ⟨su, hsu⟩ : ∃ su, u.sz = su + 1 := ⟨u.sz - 1, by omega⟩
        rw [hsu] at hus HWO HWD HR6 ⊢
        have qs1 : (((su + 1 : Nat) : Int) == 0) = false := by rw [beq_eq_false_iff_ne]; omega
        have qs2 : ((su : Int) + 1 == 0) = false := by rw [beq_eq_false_iff_ne]; omega
        have hi0 : ¬ ((i : Nat) : Int) < 0 := by omega
        have hiS : ¬ ((S : Nat) : Int) < ((i : Nat) : Int) := by omega
        have hTW := fun X (hX : Below w1.heap.size w1 X) => treeWrong_no A6 (su + 1) c6 _ X (HR6.out.below hX) HWO.out hus
        have HTW := Lib.hid hTW
        clear hb1 hnr he hl6 hm6 hrd6 hwo hwd hup hTW
        go_wp2_with fail
        refine (HCO.out w1 HB1.out).mono ?_
        rintro e w2 ⟨rfl, hb2⟩
        have HB2 := Lib.hid hb2
        have HB2' := Lib.hid (HB1.out.trans (hb2.mono HB1.out.size))
        clear hb2
        go_wp2_with fail
        refine (HWI.out w2).mono ?_
        rintro e w3 ⟨rfl, rfl⟩
        go_wp2_with fail
        refine (HTW.out w2 HB2.out).mono ?_
        rintro e w3 ⟨rfl, hb3⟩
        have HB3 := Lib.hid (HB2.out.trans (hb3.mono HB2.out.size))
        clear hb3
        go_wp2_with fail
        refine (rread_any A6 (su + 1) c6 _ HWO.out (su + 1) su w3 (by omega) (by omega) (by omega) (HR6.out.below HB3.out)).mono ?_
        rintro e w4 ⟨⟨q4, rfl, ht4⟩, hb4⟩
        rw [show dec (wrF u (fun _ => (0, 0, 0, 0)) 0) su = u by have := HWD.out; rwa [show su + 1 - 1 = su by omega] at this] at ht4
        have HT4 := Lib.hid ht4
        have HB4 := Lib.hid (HB3.out.trans (hb4.mono HB3.out.size))
        clear ht4 hb4
        go_wp2_with fail
        refine (stepped_any u q4 w4 HT4.out).mono ?_
        rintro e w5 ⟨⟨r5, rfl⟩, hb5⟩
        have HT5 := Lib.hid (HT4.out.below hb5)
        have HB5 := Lib.hid (HB1.out.trans ((HB4.out.trans (hb5.mono HB4.out.size)).mono HB1.out.size))
        clear hb5
        have hsd := stands_any v u q4 w5 HT5.out
        obtain ⟨ok, hok⟩ : ∃ ok, ok = (stp u).isSome := ⟨_, rfl⟩
        obtain ⟨sv, hsv⟩ : ∃ sv, sv = stT v u := ⟨_, rfl⟩
        rw [← hok] at HSE ⊢
        rw [← hsv] at hsd HST
        have HSD := Lib.hid hsd
        have HRD := Lib.hid (rread_any A (l + 1) c L HOK.out (l + 1) l w5 (by omega) (by omega) (by omega) (H.out.below HB5.out))
        have hcond : (((i : Nat) : Int) == ((S : Nat) : Int)) = true ∨ ((((i : Nat) : Int) == ((S : Nat) : Int)) = false ∧ ok = false) := by
          by_cases e : i = S
          · left; rw [e]; simp
          · right
            exact ⟨by rw [beq_eq_false_iff_ne]; omega, by rcases HSE.out with h | h; exact absurd h e; exact h⟩
        clear hok hsv hsd HSE
        rcases hcond with qiS | ⟨qiS, rfl⟩
        · cases sv with
          | false =>
            go_wp2_with fail
            refine HSD.out.mono ?_
            rintro e w6 ⟨rfl, rfl⟩
            go_wp2_with fail
            go_ret
            exact ⟨rfl, HB5.out⟩
          | true =>
            have hs2 : stT v (dec L l) = true := by have := HST.out rfl; rwa [show l + 1 - 1 = l by omega] at this
            have HS2 := Lib.hid hs2
            clear hs2
            go_wp2_with fail
            refine HSD.out.mono ?_
            rintro e w6 ⟨rfl, rfl⟩
            go_wp2_with fail
            refine HRD.out.mono ?_
            rintro e w6 ⟨⟨q6, rfl, ht6⟩, hb6⟩
            have hsd6 := stands_any v (dec L l) q6 w6 ht6
            rw [HS2.out] at hsd6
            have HSD6 := Lib.hid hsd6
            have HB6 := Lib.hid (HB5.out.trans (hb6.mono HB5.out.size))
            clear ht6 hb6 hsd6
            go_wp2_with fail
            refine HSD6.out.mono ?_
            rintro e w7 ⟨rfl, rfl⟩
            go_wp2_with fail
            go_ret
            exact ⟨rfl, HB6.out⟩
        · cases sv with
          | false =>
            go_wp2_with fail
            refine HSD.out.mono ?_
            rintro e w6 ⟨rfl, rfl⟩
            go_wp2_with fail
            go_ret
            exact ⟨rfl, HB5.out⟩
          | true =>
            have hs2 : stT v (dec L l) = true := by have := HST.out rfl; rwa [show l + 1 - 1 = l by omega] at this
            have HS2 := Lib.hid hs2
            clear hs2
            go_wp2_with fail
            refine HSD.out.mono ?_
            rintro e w6 ⟨rfl, rfl⟩
            go_wp2_with fail
            refine HRD.out.mono ?_
            rintro e w6 ⟨⟨q6, rfl, ht6⟩, hb6⟩
            have hsd6 := stands_any v (dec L l) q6 w6 ht6
            rw [HS2.out] at hsd6
            have HSD6 := Lib.hid hsd6
            have HB6 := Lib.hid (HB5.out.trans (hb6.mono HB5.out.size))
            clear ht6 hb6 hsd6
            go_wp2_with fail
            refine HSD6.out.mono ?_
            rintro e w7 ⟨rfl, rfl⟩
            go_wp2_with fail
            go_ret
            exact ⟨rfl, HB6.out⟩
    · have HNO := Lib.hid (norm_far A n c s L w h hmm hck hs)
      have HWI := Lib.hid (fun X => by have := within_any 0 s 60 X; rw [inB_no hs] at this; exact this)
      clear h0 wf hL h hl hm z wv ws hmm hck hok hsz hs
      go_enter Try.func3, Try.ntmps3
      go_wp2_with fail
      refine HNO.out.mono ?_
      rintro e w1 ⟨rfl, hb1⟩
      have HB1 := Lib.hid hb1
      clear hb1
      go_wp2_with fail
      refine (HCO.out w1 HB1.out).mono ?_
      rintro e w2 ⟨rfl, hb2⟩
      have HB2 := Lib.hid (HB1.out.trans (hb2.mono HB1.out.size))
      clear hb2
      go_wp2_with fail
      refine (HWI.out w2).mono ?_
      rintro e w3 ⟨rfl, rfl⟩
      go_wp2_with fail
      go_ret
      exact ⟨rfl, HB2.out⟩
  · have hzb : zB (ckE L n) = false := by unfold zB; rw [beq_eq_false_iff_ne]; exact hck
    have HNO := Lib.hid (norm_bad A n c s L w h hmm hck)
    rw [hzb] at HCO
    obtain ⟨x, hx⟩ : ∃ x, x = ckE L n := ⟨_, rfl⟩
    rw [← hx] at HNO hck
    have qx : (x != 0) = true := by rw [bne_iff_ne]; exact hck
    clear h0 wf hL h hl hm z wv ws hmm hck hzb hx
    go_enter Try.func3, Try.ntmps3
    go_wp2_with fail
    refine HNO.out.mono ?_
    rintro e w1 ⟨rfl, hb1⟩
    have HB1 := Lib.hid hb1
    clear hb1
    go_wp2_with fail
    refine (HCO.out w1 HB1.out).mono ?_
    rintro e w2 ⟨rfl, hb2⟩
    have HB2 := Lib.hid (HB1.out.trans (hb2.mono HB1.out.size))
    clear hb2
    go_wp2_with fail
    go_ret
    exact ⟨rfl, HB2.out⟩
end Go.Proofs.Ytmbemikhbcjfmaa.combVar
