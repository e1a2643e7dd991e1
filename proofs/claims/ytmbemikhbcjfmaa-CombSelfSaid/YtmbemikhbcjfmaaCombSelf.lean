/- CombSelf: S put to K, that to K, that to a term, comes to it in two steps. No condition. -/
import Derived.Test.YtmbemikhbcjfmaaCombNorm
import Derived.Test.YtmbemikhbcjfmaaCombRef
import Derived.Test.YtmbemikhbcjfmaaCombRef2
import Derived.Test.YtmbemikhbcjfmaaCombRef3
namespace Go.Proofs.Ytmbemikhbcjfmaa.combSelf
open Go.ChangeShapes Go.WideShapes Go.ChangeAt Go.RowKit
set_option linter.unusedVariables false
set_option linter.unusedSimpArgs false
def ofF (F : Nat → Int) (i : Nat) : Cb := (F (i * 4), F (i * 4 + 1), F (i * 4 + 2), F (i * 4 + 3))
theorem ofF_lc (F : Nat → Int) (q : Nat) : Value.int .i64 (F q) = lcC (ofF F) q := by
  unfold lcC c1C ofF
  have : q % 4 = 0 ∨ q % 4 = 1 ∨ q % 4 = 2 ∨ q % 4 = 3 := by omega
  rcases this with e | e | e | e
  · rw [if_pos e, show q / 4 * 4 = q by omega]
  · rw [if_neg (by omega), if_pos e, show q / 4 * 4 + 1 = q by omega]
  · rw [if_neg (by omega), if_neg (by omega), if_pos e, show q / 4 * 4 + 2 = q by omega]
  · rw [if_neg (by omega), if_neg (by omega), if_neg (by omega), show q / 4 * 4 + 3 = q by omega]
/-- the five behind a list of n -/
def fiv (n : Nat) (i : Nat) : Cb := if i = 0 then (1, 0, 0, 0) else if i = 1 then (2, 0, 0, 0) else if i = 2 then (4, (n : Int), (n : Int) + 1, 0) else if i = 3 then (4, (n : Int) + 2, (n : Int) + 1, 0) else (4, (n : Int) + 3, (n : Int) - 1, 0)
def sfL (L : Nat → Cb) (n : Nat) (i : Nat) : Cb := if i < n then L i else fiv n (i - n)
theorem fiv_rd (W : World) (n : Nat) (e : TypeId) : Rd (W.alloc (.cells #[.int .i64 1, .int .i64 0, .int .i64 0, .int .i64 0, .int .i64 2, .int .i64 0, .int .i64 0, .int .i64 0, .int .i64 4, .int .i64 (n : Nat), .int .i64 ((n : Int) + 1), .int .i64 0, .int .i64 4, .int .i64 ((n : Int) + 2), .int .i64 ((n : Int) + 1), .int .i64 0, .int .i64 4, .int .i64 ((n : Int) + 3), .int .i64 ((n : Int) - 1), .int .i64 0] e)) (some ⟨W.heap.size, 0, none⟩) 20 (lcC (fiv n)) := by
  refine Rd.of_row (t := e) (n := 20) ?_ (Nat.le_refl _)
  exact World.rowIs_alloc W _ e _ fun i hi => by
    have hi20 : i < 20 := hi
    have : i = 0 ∨ i = 1 ∨ i = 2 ∨ i = 3 ∨ i = 4 ∨ i = 5 ∨ i = 6 ∨ i = 7 ∨ i = 8 ∨ i = 9 ∨ i = 10 ∨ i = 11 ∨ i = 12 ∨ i = 13 ∨ i = 14 ∨ i = 15 ∨ i = 16 ∨ i = 17 ∨ i = 18 ∨ i = 19 := by omega
    clear hi hi20
    rcases this with rfl | rfl | rfl | rfl | rfl | rfl | rfl | rfl | rfl | rfl | rfl | rfl | rfl | rfl | rfl | rfl | rfl | rfl | rfl | rfl
    all_goals rfl
theorem cC_of4 {L : Nat → Cb} {i : Nat} {a b : Int} (h : L i = (4, a, b, 0)) (ha : 0 ≤ a ∧ a < (i : Int)) (hb : 0 ≤ b ∧ b < (i : Int)) : cC L i = 0 := by
  unfold cC
  rw [h]
  rw [if_neg (fun e => e ⟨show (1 : Int) ≤ 4 by decide, show (4 : Int) ≤ 4 by decide⟩), if_neg (fun e => absurd (show (4 : Int) = 3 from e.1) (by decide)), if_neg (fun e => e.2 ⟨ha, hb⟩)]
theorem cC_of1 {L : Nat → Cb} {i : Nat} {k : Int} (h : L i = (k, 0, 0, 0)) (hk : k = 1 ∨ k = 2) : cC L i = 0 := by
  unfold cC
  rw [h]
  have h1 : 1 ≤ k := by omega
  have h2 : k ≤ 4 := by omega
  have h3 : k ≠ 3 := by omega
  have h4 : k ≠ 4 := by omega
  rw [if_neg (fun e => e ⟨h1, h2⟩), if_neg (fun e => h3 e.1), if_neg (fun e => h4 e.1)]
theorem sf_cat {C : Nat → Value} {L : Nat → Cb} {n q : Nat} (h : q < n * 4 + 20) : cat (n * 4) (cat 0 C (lcC L)) (lcC (fiv n)) q = lcC (sfL L n) q := by
  unfold lcC sfL
  by_cases e : q < n * 4
  · rw [cat_lt e, cat_ge (Nat.zero_le _), if_pos (by omega)]; rfl
  · rw [cat_ge (by omega), if_neg (by omega), show (q - n * 4) / 4 = q / 4 - n by omega, show (q - n * 4) % 4 = q % 4 by omega]
theorem sf_lt {L : Nat → Cb} {n i : Nat} (h : i < n) : sfL L n i = L i := if_pos h
theorem sf_ge (L : Nat → Cb) (n i : Nat) : sfL L n (n + i) = fiv n i := by
  unfold sfL
  rw [if_neg (by omega), show n + i - n = i by omega]
theorem self_dec {L : Nat → Cb} {n : Nat} (h : OkC L n) (h1 : 1 ≤ n) : OkC (sfL L n) (n + 5) ∧ dec (sfL L n) (n + 4) = .ap (.ap (.ap (.lf 1 0) (.lf 2 0)) (.lf 2 0)) (dec L (n - 1)) := by
  have hok : OkC (sfL L n) (n + 5) := fun i hi => by
    by_cases e : i < n
    · rw [cC_congr (sf_lt e)]; exact h i e
    · obtain ⟨j, rfl⟩ : ∃ j, i = n + j := ⟨i - n, by omega⟩
      have hj : j < 5 := by omega
      match j, hj with
      | 0, _ => exact cC_of1 (k := 1) (by rw [sf_ge]; rfl) (.inl rfl)
      | 1, _ => exact cC_of1 (k := 2) (by rw [sf_ge]; rfl) (.inr rfl)
      | 2, _ => exact cC_of4 (a := (n : Int)) (b := (n : Int) + 1) (by rw [sf_ge]; rfl) (by omega) (by omega)
      | 3, _ => exact cC_of4 (a := (n : Int) + 2) (b := (n : Int) + 1) (by rw [sf_ge]; rfl) (by omega) (by omega)
      | 4, _ => exact cC_of4 (a := (n : Int) + 3) (b := (n : Int) - 1) (by rw [sf_ge]; rfl) (by omega) (by omega)
  refine ⟨hok, ?_⟩
  have e0 : dec (sfL L n) n = .lf 1 0 := by
    have := sf_ge L n 0
    rw [Nat.add_zero] at this
    rw [dec_lf (by rw [this]; show (1 : Int) ≠ 4; decide), this]; rfl
  have e1 : dec (sfL L n) (n + 1) = .lf 2 0 := by rw [dec_lf (by rw [sf_ge]; show (2 : Int) ≠ 4; decide), sf_ge]; rfl
  have e2 : dec (sfL L n) (n + 2) = .ap (.lf 1 0) (.lf 2 0) := by
    obtain ⟨_, _, hd⟩ := dec_ap (a := n) (b := n + 1) hok (show n + 2 < n + 5 by omega) (by rw [sf_ge]; rfl) (by rw [sf_ge]; rfl) (by rw [sf_ge]; show (n : Int) + 1 = _; omega)
    rw [hd, e0, e1]
  have e3 : dec (sfL L n) (n + 3) = .ap (.ap (.lf 1 0) (.lf 2 0)) (.lf 2 0) := by
    obtain ⟨_, _, hd⟩ := dec_ap (a := n + 2) (b := n + 1) hok (show n + 3 < n + 5 by omega) (by rw [sf_ge]; rfl) (by rw [sf_ge]; show (n : Int) + 2 = _; omega) (by rw [sf_ge]; show (n : Int) + 1 = _; omega)
    rw [hd, e2, e1]
  obtain ⟨_, _, hd⟩ := dec_ap (a := n + 3) (b := n - 1) hok (show n + 4 < n + 5 by omega) (by rw [sf_ge]; rfl) (by rw [sf_ge]; show (n : Int) + 3 = _; omega) (by rw [sf_ge]; show (n : Int) - 1 = _; omega)
  rw [hd, e3]
  have : dec L (n - 1) = dec (sfL L n) (n - 1) := dec_congr h (fun i hi => (sf_lt hi).symm) _ _ (by omega) (by omega)
  rw [this]
theorem step1 (x : Tm) : stp (.ap (.ap (.ap (.lf 1 0) (.lf 2 0)) (.lf 2 0)) x) = some (.ap (.ap (.lf 2 0) x) (.ap (.lf 2 0) x)) := by
  have hS : isS (.ap (.ap (.ap (.lf 1 0) (.lf 2 0)) (.lf 2 0)) x) := ⟨fun j hj => by
    match j, hj with
    | 0, _ => rfl
    | 1, _ => rfl
    | 2, _ => rfl, rfl⟩
  have hK : ¬ isK (.ap (.ap (.ap (.lf 1 0) (.lf 2 0)) (.lf 2 0)) x) := fun h => by
    have : (4 : Int) = 2 := h.2
    omega
  unfold stp rdx
  rw [if_neg hK, if_pos hS]
  rfl
theorem step2 (x : Tm) : stp (.ap (.ap (.lf 2 0) x) (.ap (.lf 2 0) x)) = some x := by
  have hK : isK (.ap (.ap (.lf 2 0) x) (.ap (.lf 2 0) x)) := ⟨fun j hj => by
    match j, hj with
    | 0, _ => rfl
    | 1, _ => rfl, rfl⟩
  unfold stp rdx
  rw [if_pos hK]
  rfl
theorem nrm_self {x u : Tm} {i : Nat} (h : Nrm (.ap (.ap (.ap (.lf 1 0) (.lf 2 0)) (.lf 2 0)) x) i u) (hi : i ≤ 2) (he : i = 2 ∨ stp u = none) : i = 2 ∧ u = x := by
  cases h with
  | zero =>
    rcases he with e | e
    · omega
    · rw [step1] at e; cases e
  | more u1 _ i1 h1 hs _ =>
    cases h1 with
    | zero =>
      rw [step1] at hs
      injection hs with hs
      subst hs
      rcases he with e | e
      · omega
      · rw [step2] at e; cases e
    | more u2 _ i2 h2 hs2 _ =>
      have : i2 = 0 := by omega
      subst this
      cases h2
      rw [step1] at hs2
      injection hs2 with hs2
      subst hs2
      rw [step2] at hs
      injection hs with hs
      exact ⟨rfl, hs.symm⟩
set_option maxRecDepth 100000 in
set_option maxHeartbeats 2000000 in
theorem norm_bad (A : Option Addr) (n c : Nat) (s : Int) (L : Nat → Cb) (w : World) (h : Rd w A (n * 4) (lcC L)) (hn : n ≤ maxLen) (hz : ckE L n ≠ 0) :
    Calls Try.prog 6 #[.slice A n c, .int .i64 s] w fun e w' => e = .returned (.tuple #[.slice none 0 0, .int .i64 0, .int .i64 (ckE L n)]) ∧ Below w.heap.size w w' := by
  have hck := check_any A n c L w h hn
  obtain ⟨v, hv⟩ : ∃ v, v = ckE L n := ⟨_, rfl⟩
  rw [← hv] at hck hz ⊢
  have q : (v != 0) = true := by rw [bne_iff_ne]; exact hz
  have HCK := Lib.hid hck
  clear h hck hv hz hn
  go_enter Try.func6, Try.ntmps6
  go_wp2_with fail
  refine HCK.out.mono ?_
  rintro e w2 ⟨rfl, hb⟩
  go_wp2_with fail
  go_ret3
  exact ⟨rfl, hb⟩
set_option maxRecDepth 100000 in
theorem step_nil (w : World) : Calls Try.prog 13 #[.slice none 0 0] w fun e w' => e = .returned (.tuple #[.slice none 0 0, .int .i64 1]) ∧ Below w.heap.size w w' := by
  have HCK := Lib.hid (check_any none 0 0 (fun _ => (0, 0, 0, 0)) w (Rd.zero _ _ _) (Nat.zero_le _))
  go_enter Try.func13, Try.ntmps13
  go_wp2_with fail
  refine HCK.out.mono ?_
  rintro e w2 ⟨rfl, hb⟩
  rw [show ckE (fun _ => (0, 0, 0, 0)) 0 = 1 from rfl]
  go_wp2_with fail
  go_ret2
  exact ⟨rfl, hb⟩
def zB (x : Int) : Bool := x == 0
set_option maxRecDepth 100000 in
theorem combed_any (A : Option Addr) (n c : Nat) (L : Nat → Cb) (w : World) (h : Rd w A (n * 4) (lcC L)) (hn : n ≤ maxLen) :
    Calls Try.prog 7 #[.slice A n c] w fun e w' => e = .returned (.bool (zB (ckE L n))) ∧ Below w.heap.size w w' := by
  have HCK := Lib.hid (rcheck_any A n c L w h hn)
  clear h hn
  go_enter Try.func7, Try.ntmps7
  go_wp2_with fail
  refine HCK.out.mono ?_
  rintro e w2 ⟨rfl, hb⟩
  go_wp2_with fail
  go_ret
  exact ⟨rfl, hb⟩
set_option maxRecDepth 100000 in
set_option maxHeartbeats 4000000 in
theorem walk (w : World) (A : Option Addr) (n c : Nat) (F : Nat → Int) (h0 : Rd w A (n * 4) (fun q => .int .i64 (F q))) (wf : ∀ i, (Lit.int .i64 (F i)).wf = true) (hl : n ≤ c) (hm : c ≤ maxLen) (z : c * 32 ≤ 140737488351232) :
    Calls Try.prog 4 #[.slice A n c] w fun e w' => e = .returned (.bool true) ∧ Below w.heap.size w w' := by
  have hmm : n ≤ maxLen := by omega
  have hn63 : (n : Int) + 6 ≤ 9223372036854775807 := by unfold maxLen at hmm hm; omega
  obtain ⟨L, hL⟩ : ∃ L, L = ofF F := ⟨_, rfl⟩
  have h : Rd w A (n * 4) (lcC L) := by rw [hL]; exact h0.congr fun q _ => ofF_lc F q
  have HCO := Lib.hid (combed_any A n c L w h hmm)
  have H := Lib.hid h
  have HNM := Lib.hid hmm
  clear h0 wf hL h
  by_cases hck : ckE L n = 0
  · rw [hck, show zB 0 = true from rfl] at HCO
    by_cases h34 : n + 6 ≤ 40
    · obtain ⟨hn1, hok, hsz⟩ := ckE_zero hck
      obtain ⟨hok', hdec⟩ := self_dec hok hn1.1
      have HOK := Lib.hid hok
      have HOK' := Lib.hid hok'
      have HDEC := Lib.hid hdec
      have HSZ := Lib.hid hsz
      have hn40 : 1 ≤ n ∧ n ≤ 34 := by omega
      clear hok hok' hdec hsz hck hn1 hmm hn63 hm z hl h34
      go_enter Try.func4, Try.ntmps4
      go_wp2_with fail
      refine HCO.out.mono ?_
      rintro e w1 ⟨rfl, hb1⟩
      have HB1 := Lib.hid hb1
      have HO1 := Lib.hid ((H.out.below hb1).below ((Below.refl w1.heap.size w1).alloc (Nat.le_refl _) (.cells #[] 37)))
      clear hb1
      go_wp2_with (first
        | (at_builtin; refine wpList_app _ rfl (.tmp 27) (.tmp 28) 22 rfl ECb rfl (Own.empty w1 w1.heap.size 37 4 (lcC L) (Nat.le_refl _)) rfl (l := n * 4) rfl HO1.out (fun _ _ => c1_one _ _) (by unfold maxLen; omega) (by omega) (by simp) n (n * 4) (by omega) (by omega) ?_; intro A5 c5 w5 hown5 hg5 hat5 hbl5; have hbe5 := ((Below.refl w1.heap.size w1).alloc (Nat.le_refl _) (.cells #[] 37)).trans hbl5; have hs5 := hbe5.size)
        | (at_builtin; refine wpList_app _ rfl (.tmp 29) (.tmp 46) 22 rfl ECb rfl (hown5.alloc _) rfl (l := 20) rfl (fiv_rd _ n 37) (fun _ _ => c1_one _ _) (by unfold maxLen; omega) (by omega) (by simp; omega) (n + 5) ((n + 5) * 4) rfl (by omega) ?_; intro A4 c4 w4 hown4 hg4 hat4 hbl4; have hbe4 := (hbe5.alloc hbe5.size _).trans hbl4; have hrd4 := hown4.rd.congr (C' := lcC (sfL L n)) (fun q hq => sf_cat (by omega)); have HRD4 := Lib.hid hrd4; have HB4 := Lib.hid (HB1.out.trans (hbe4.mono HB1.out.size)); have hle4 := hown4.le; clear hown4 hg4 hat4 hbl4 hown5 hbl5 hbe5 hbe4 hrd4 hg5 hat5 hs5))
      obtain ⟨l, rfl⟩ : ∃ l, n = l + 1 := ⟨n - 1, by omega⟩
      by_cases hz : ckE (sfL L (l + 1)) (l + 1 + 5) = 0
      · refine (norm_any A4 (l + 1 + 5) c4 2 (sfL L (l + 1)) w4 HRD4.out hz (by omega)).mono ?_
        rintro e w6 ⟨hp, hb6⟩
        have HB6 := Lib.hid (HB4.out.trans (hb6.mono HB4.out.size))
        rcases hp with ⟨rfl, _⟩ | ⟨i, u, A6, c6, hi, hnr, he, hus, rfl, hl6, hm6, hrd6⟩
        · clear hz hb6
          go_wp2_with fail
          go_ret
          exact ⟨rfl, HB6.out⟩
        · rw [show l + 1 + 5 - 1 = l + 1 + 4 by omega, HDEC.out, show l + 1 - 1 = l by omega] at hnr
          obtain ⟨rfl, rfl⟩ := nrm_self hnr hi he
          have HRD := Lib.hid (fun X (hX : Below w.heap.size w X) => rread_any A (l + 1) c L HOK.out (l + 1) l X (by omega) (by omega) (by omega) (H.out.below hX))
          have HR6 := Lib.hid hrd6
          obtain ⟨x, hx⟩ : ∃ x, x = dec L l := ⟨_, rfl⟩
          rw [← hx] at HRD HR6 hus ⊢
          obtain ⟨sx, hsx⟩ : ∃ s, s = x.sz := ⟨_, rfl⟩
          have HSX := Lib.hid hsx
          rw [← hsx] at HR6 hus ⊢
          clear hz hb6 hi hnr he hl6 hm6 hrd6 hx hsx
          go_wp2_with fail
          refine (HRD.out w6 HB6.out).mono ?_
          rintro e w7 ⟨⟨q7, rfl, ht7⟩, hb7⟩
          have HB7 := Lib.hid (HB6.out.trans (hb7.mono HB6.out.size))
          have HR7 := Lib.hid (HR6.out.below hb7)
          have HW7 := Lib.hid (rwrite_any x q7 w7 none 0 0 (fun _ => (0, 0, 0, 0)) ht7 (Rd.zero _ _ _) (by rw [← HSX.out]; omega))
          clear hb7 ht7
          go_wp2_with fail
          refine HW7.out.mono ?_
          rintro e w8 ⟨A8, c8, rfl, l8, m8, hr8, hb8⟩
          rw [Nat.zero_add, ← HSX.out] at hr8 ⊢
          have HB8 := Lib.hid (HB7.out.trans (hb8.mono HB7.out.size))
          have HCM := Lib.hid (combs_same A6 A8 sx c6 c8 (wrF x (fun _ => (0, 0, 0, 0)) 0) w8 (HR7.out.below hb8) hr8 (by omega))
          clear hb8 hr8 l8 m8
          go_wp2_with fail
          refine HCM.out.mono ?_
          rintro e w9 ⟨rfl, k9, rfl⟩
          go_wp2_with fail
          go_ret
          exact ⟨rfl, below_drewN HB8.out _⟩
      · have hv : ckE (sfL L (l + 1)) (l + 1 + 5) = 1 := by
          have h0 := fstE_zero.2 HOK'.out
          unfold ckE at hz ⊢
          rw [if_neg (by omega), if_neg (by rw [h0]; exact fun h => h rfl)] at hz ⊢
          split at hz
          · rename_i hc; rw [if_pos hc]
          · exact absurd rfl hz
        have hnb := norm_bad A4 (l + 1 + 5) c4 2 (sfL L (l + 1)) w4 HRD4.out (by unfold maxLen; omega) hz
        rw [hv] at hnb
        refine hnb.mono ?_
        rintro e w6 ⟨rfl, hb6⟩
        have HB6 := Lib.hid (HB4.out.trans (hb6.mono HB4.out.size))
        clear hz hb6 hv hnb
        go_wp2_with fail
        go_ret
        exact ⟨rfl, HB6.out⟩
    · have h34' : 40 < (n : Int) + 6 := by omega
      have wn6 : IntKind.i64.wrap ((n : Int) + 6) = (n : Int) + 6 := IntWalk.i64_in _ (by omega)
      clear hck hmm hm z hl h34 hn63
      go_enter Try.func4, Try.ntmps4
      go_wp2_with fail
      refine HCO.out.mono ?_
      rintro e w1 ⟨rfl, hb1⟩
      have HB1 := Lib.hid hb1
      clear hb1
      go_wp2_with fail
      refine (step_nil w1).mono ?_
      rintro e w2 ⟨rfl, hb2⟩
      go_wp2_with fail
      go_ret
      exact ⟨rfl, HB1.out.trans (hb2.mono HB1.out.size)⟩
  · have hzb : zB (ckE L n) = false := by unfold zB; rw [beq_eq_false_iff_ne]; exact hck
    rw [hzb] at HCO
    clear hck hzb hmm hm z hl hn63
    go_enter Try.func4, Try.ntmps4
    go_wp2_with fail
    refine HCO.out.mono ?_
    rintro e w1 ⟨rfl, hb1⟩
    have HB1 := Lib.hid hb1
    clear hb1
    go_wp2_with fail
    refine (step_nil w1).mono ?_
    rintro e w2 ⟨rfl, hb2⟩
    go_wp2_with fail
    go_ret
    exact ⟨rfl, HB1.out.trans (hb2.mono HB1.out.size)⟩
end Go.Proofs.Ytmbemikhbcjfmaa.combSelf
