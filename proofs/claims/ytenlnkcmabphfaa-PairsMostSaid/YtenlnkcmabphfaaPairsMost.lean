/- PairsMost: the greatest choice is one, no other has more, and with a number more in a row it has so much more. No condition. -/
import Derived.Test.YtenlnkcmabphfaaPairsMst
import Derived.Test.YtenlnkcmabphfaaPairsSq
import Derived.Test.YtenlnkcmabphfaaRefHas
import Derived.Test.YtenlnkcmabphfaaIntsQ
import Derived.Deep.DeepCutAuto
namespace Go.Proofs.Ytenlnkcmabphfaa.pairsMost
open Go.ChangeShapes Go.WideShapes Go.ChangeAt Go.RowKit
set_option linter.unusedVariables false
set_option linter.unusedSimpArgs false
theorem in_one {n : Nat} {x : Nat} (W : World) (e : TypeId) (h : x < n) : Calls Try.prog 9 #[.int .i64 (n : Int), .slice (some ⟨W.heap.size, 0, none⟩) 1 1] (W.alloc (.cells #[.int .i64 (x : Nat)] e)) fun e' w' => e' = .returned (.bool true) ∧ (W.alloc (.cells #[.int .i64 (x : Nat)] e)) = w' := by
  have := inside_any (n : Int) (some ⟨W.heap.size, 0, none⟩) 1 1 (fun _ => ((x : Nat) : Int)) (W.alloc (.cells #[.int .i64 (x : Nat)] e)) (Rd.one W _ e) (by unfold maxLen; omega)
  rwa [insB_iff.2 fun i _ => ⟨Int.natCast_nonneg x, Int.ofNat_lt.2 h⟩] at this
theorem rwP_set (F : Nat → Value) (i0 : Nat) (v u : Value) (q : Nat) : (if q = i0 then u else (if q = i0 then v else F q)) = (if q = i0 then u else F q) := by
  by_cases e : q = i0
  · simp only [if_pos e]
  · simp only [if_neg e]
theorem own_more {x m : Int} {yf : Nat → Int} {j q : Nat} (h : m = yf j) (hq : q < j + 1) : cat j (fun q => .int .i64 (x + yf q)) (fun _ => .int .i64 (x + m)) q = .int .i64 (x + yf q) := by
  rcases Nat.lt_or_ge q j with e | e
  · rw [cat_lt e]
  · obtain rfl : q = j := by omega
    rw [cat_ge e, h]
def rwP (F : Nat → Value) (i0 : Nat) (v : Value) (q : Nat) : Value := if q = i0 then v else F q
theorem EPr : Elem Try.prog 22 24 1 24 := Elem.of Try.underlying22 (by kernel_rfl : (Try.prog.info? 24).map (fun i => (i.zero, i.size, i.bytes)) = some (some (.slice none 0 0), 1, 24)) rfl (by omega)
theorem dist_lt {cc c2 j n : Nat} (h : cc < n) (hj : j < n) (hcj : cc ≠ j) (h2 : (cc + 1 = n ∧ c2 = 0) ∨ (cc + 1 < n ∧ c2 = cc + 1)) : (j + n - (intOf (.int .i64 (c2 : Int))).toNat) % n < (j + n - (intOf (.int .i64 (cc : Int))).toNat) % n := by
  show (j + n - (c2 : Int).toNat) % n < (j + n - (cc : Int).toNat) % n
  rw [Int.toNat_natCast, Int.toNat_natCast]
  rcases h2 with ⟨a, rfl⟩ | ⟨a, rfl⟩
  · rw [Nat.sub_zero, Nat.add_mod_right, Nat.mod_eq_of_lt hj, show j + n - cc = j + 1 by omega, Nat.mod_eq_of_lt (by omega)]; omega
  · rcases Nat.lt_or_ge cc j with b | b
    · rw [show j + n - (cc + 1) = (j - cc - 1) + n by omega, show j + n - cc = (j - cc) + n by omega, Nat.add_mod_right, Nat.add_mod_right, Nat.mod_eq_of_lt (by omega), Nat.mod_eq_of_lt (by omega)]; omega
    · rw [Nat.mod_eq_of_lt (by omega), Nat.mod_eq_of_lt (by omega)]; omega
theorem next_c {cc n : Nat} (h : cc < n) : ∃ c2 : Nat, c2 < n ∧ ((cc : Int) + 1) % (n : Int) = (c2 : Int) ∧ ((cc + 1 = n ∧ c2 = 0) ∨ (cc + 1 < n ∧ c2 = cc + 1)) := by
  by_cases e : cc + 1 = n
  · exact ⟨0, by omega, by rw [show (cc : Int) + 1 = (n : Int) by omega, Int.emod_self]; rfl, .inl ⟨e, rfl⟩⟩
  · refine ⟨cc + 1, by omega, ?_, .inr ⟨by omega, rfl⟩⟩
    rw [show (cc : Int) + 1 = ((cc + 1 : Nat) : Int) by omega, ← Int.natCast_emod, Nat.mod_eq_of_lt (by omega)]
theorem sm_same {M : Nat → Nat → Int} {T U : Nat → Nat} : ∀ {r}, (∀ i, i < r → T i = U i) → smP M T r = smP M U r
  | 0, _ => rfl
  | r + 1, h => by simp only [smP]; rw [sm_same (r := r) fun i hi => h i (by omega), h r (by omega)]
theorem sm_more {M : Nat → Nat → Int} {T : Nat → Nat} {r c : Nat} : smP M T r + M r c = smP M (fun q => if q < r then T q else c) (r + 1) := by
  simp only [smP]
  rw [sm_same (T := T) (U := fun q => if q < r then T q else c) fun i hi => by simp only [if_pos hi]]
  simp
theorem ok_more {T : Nat → Nat} {n r c : Nat} (h : OkT T n r) (hc : c < n) (hn : ∀ i, i < r → T i ≠ c) : OkT (fun q => if q < r then T q else c) n (r + 1) := fun i hi => by
  by_cases e : i < r
  · simp only [if_pos e]
    exact ⟨(h i e).1, fun k hk => by rw [if_pos (by omega)]; exact (h i e).2 k hk⟩
  · simp only [if_neg e]
    exact ⟨hc, fun k hk => by rw [if_pos (by omega)]; exact hn k (by omega)⟩
set_option maxRecDepth 100000 in
set_option maxHeartbeats 8000000 in
theorem walk (w : World) (A : Option Addr) (n c : Nat) (R : Nat → SI) (PA : Option Addr) (pn pc : Nat) (pf : Nat → Int) (ai x : Int) (h : Rd w A n (fun i => (R i).val)) (hg : ∀ i, (R i).good w) (hl : n ≤ c) (hm : c ≤ maxLen) (z : c * 24 ≤ 140737488351232)
    (hp : Rd w PA pn (fun i => .int .u8 (pf i))) (wp : ∀ i, (Lit.int .u8 (pf i)).wf = true) (hpl : pn ≤ pc) (hpm : pc ≤ maxLen) (zp : pc * 1 ≤ 140737488351232) (wi : (Lit.int .u8 ai).wf = true) (wx : (Lit.int .i64 x).wf = true) :
    Calls Try.prog 3 #[.slice A n c, .slice PA pn pc, .int .u8 ai, .int .i64 x] w fun e w' => e = .returned (.bool true) ∧ Below w.heap.size w w' := by
  have hai : 0 ≤ ai ∧ ai ≤ 255 := by simp [Lit.wf, IntKind.min, IntKind.max, IntKind.signed, IntKind.bits] at wi; omega
  have hpf : ∀ i, 0 ≤ pf i ∧ pf i ≤ 255 := fun i => by have := wp i; simp [Lit.wf, IntKind.min, IntKind.max, IntKind.signed, IntKind.bits] at this; omega
  have H : Hid (GrP w A n R) := Lib.hid ⟨h, fun i _ => hg i⟩
  have HNM : Hid (n ≤ maxLen) := Lib.hid (by omega)
  have HPF := Lib.hid hpf
  have HPR := Lib.hid hp
  have HPM : Hid (pn ≤ maxLen) := Lib.hid (by omega)
  have hpn : pn ≤ 9223372036854775807 := by unfold maxLen at hpm; omega
  have HWX := Lib.hid wx
  clear h hg hl hm z hp wp hpl hpm zp wi wx hpf
  go_enter Try.func3, Try.ntmps3
  go_wp2_with fail
  refine (most_any A n c R w H.out HNM.out).mono ?_
  rintro e w1 ⟨he, hb1⟩
  have HB1 := Lib.hid hb1
  clear hb1
  rcases he with ⟨hne, rfl⟩ | ⟨hz, L, lc, rfl, hrl, hlc⟩
  · have hsq := squaredP_any A n c R w1 (H.out.below HB1.out) HNM.out
    rw [show (pwE n R == 0) = false from beq_eq_false_iff_ne.2 hne] at hsq
    have HSQ := Lib.hid hsq
    obtain ⟨v, hv⟩ : ∃ v, v = pwE n R := ⟨_, rfl⟩
    have qv : (v != 0) = true := by rw [bne_iff_ne, hv]; exact hne
    rw [← hv]
    clear hsq hv hne
    go_wp2_with fail
    refine HSQ.out.mono ?_
    rintro e w2 ⟨rfl, rfl⟩
    clear HSQ
    go_wp2_with fail
    go_ret
    exact ⟨rfl, HB1.out⟩
  · have hsq := squaredP_any A n c R w1 (H.out.below HB1.out) HNM.out
    rw [show (pwE n R == 0) = true by rw [hz]; rfl] at hsq
    have HSQ := Lib.hid hsq
    obtain ⟨⟨n1, n6⟩, hlen, hval⟩ := pwE_zero hz
    have hM : InP (mtP R) n := fun i hi j hj => hval i hi j hj
    obtain ⟨hok, hsum⟩ := lP_all n6 hM
    obtain ⟨rB, rO, rfl, hAlt, _⟩ := H.out.1.at_ (show 0 < n by omega)
    obtain ⟨lb, lo, rfl, hLlt, _⟩ := hrl.at_ (show 0 < n by omega)
    have hcl : ∀ X : World, Below w1.heap.size w1 X → GrP X (some ⟨rB, rO, none⟩) n R ∧ Rd X (some ⟨lb, lo, none⟩) n (fun i => .int .i64 ((lP (mtP R) n i : Nat) : Int)) ∧ Rd X PA pn (fun i => .int .u8 (pf i)) := fun X hX =>
      ⟨H.out.below (HB1.out.trans (hX.mono HB1.out.size)), hrl.below hX, HPR.out.below (HB1.out.trans (hX.mono HB1.out.size))⟩
    have HCL := Lib.hid hcl
    have HM := Lib.hid hM
    have HLEN := Lib.hid hlen
    have HVAL := Lib.hid hval
    have HOK := Lib.hid hok
    have HSUM := Lib.hid hsum
    have hbd := bst_bd n6 hM n (2 ^ n - 1) (by have := (full_bt n n6).2.2.2; omega) (full_bt n n6).2.1
    have HMAX : Hid (∀ T, OkT T n n → smP (mtP R) T n ≤ bst (mtP R) n (2 ^ n - 1)) := Lib.hid fun T hT => sm_end n6 hT
    obtain ⟨K, hK⟩ : ∃ K, K = bst (mtP R) n (2 ^ n - 1) := ⟨_, rfl⟩
    rw [← hK] at hsum hbd HSUM HMAX ⊢
    have HKK := Lib.hid hK
    have qnn : ((n : Int) != (n : Int)) = false := by simp
    clear hsq hz hlen hval hM hok hsum hrl hcl hK
    go_wp2_with fail
    refine HSQ.out.mono ?_
    rintro e w2 ⟨rfl, rfl⟩
    clear HSQ
    go_wp2_with fail
    go_loopw [13, 50] (fun s13 s50 wr => ∃ r : Nat, r ≤ n ∧ s50 = .int .i64 (r : Nat) ∧ s13 = .int .i64 (smP (mtP R) (lP (mtP R) n) r) ∧ Hid (Below w1.heap.size w1 wr)) (fun _ s50 _ => n - (intOf s50).toNat)
    case atStart => exact ⟨0, Nat.zero_le _, rfl, rfl, Lib.hid (Below.refl _ _)⟩
    case round =>
      obtain ⟨wo, rfl⟩ : ∃ wo : World, wo = wr := ⟨_, rfl⟩
      obtain ⟨r, hr, rfl, rfl, HB⟩ := hrel
      by_cases hrn : r < n
      · obtain ⟨hgr, hrl, _⟩ := HCL.out wo HB.out
        obtain ⟨t1, t2⟩ := HOK.out r hrn
        have hcl1 : wo.cell? ⟨lb, lo + r, none⟩ = some (.int .i64 ((lP (mtP R) n r : Nat) : Int)) := by
          obtain ⟨b', o', e, _, hc⟩ := hrl.at_ hrn
          cases e; exact hc
        have hca : wo.cell? ⟨rB, rO + r, none⟩ = some (R r).val := by
          obtain ⟨b', o', e, _, hc⟩ := hgr.1.at_ hrn
          cases e; exact hc
        have hgood := hgr.2 r hrn
        have hln := HLEN.out r hrn
        have hs1 := sm_bd HM.out (r := r) (by omega) (fun i hi => (HOK.out i (by omega)).1)
        have hs2 := sm_bd HM.out (r := r + 1) (by omega) (fun i hi => (HOK.out i (by omega)).1)
        have hhas : hasP (fun i => ((lP (mtP R) n i : Nat) : Int)) r ((lP (mtP R) n r : Nat) : Int) = false := by
          cases e : hasP (fun i => ((lP (mtP R) n i : Nat) : Int)) r ((lP (mtP R) n r : Nat) : Int)
          · rfl
          · obtain ⟨i, hi, h⟩ := hasP_iff.1 e
            exact absurd (Int.ofNat.inj h) (t2 i hi)
        have HH : Hid (∀ X : World, Below w1.heap.size w1 X → Calls Try.prog 10 #[.slice (some ⟨lb, lo, none⟩) r lc, .int .i64 ((lP (mtP R) n r : Nat) : Int)] X fun e w' => e = .returned (.bool false) ∧ X = w') := Lib.hid fun X hX => by
          have := refHasP_any (some ⟨lb, lo, none⟩) r lc (fun i => ((lP (mtP R) n i : Nat) : Int)) ((lP (mtP R) n r : Nat) : Int) X ((HCL.out X hX).2.1.le (by omega)) (by unfold maxLen; omega)
          rwa [hhas] at this
        have hsm : smP (mtP R) (lP (mtP R) n) (r + 1) = smP (mtP R) (lP (mtP R) n) r + (R r).f (lP (mtP R) n r) := rfl
        obtain ⟨y, hy⟩ : ∃ y, y = R r := ⟨_, rfl⟩
        rw [← hy] at hgood hca hln hsm
        obtain ⟨yA, yn, yc, yf⟩ := y
        have hln' : yn = n := hln
        obtain ⟨tt, htt⟩ : ∃ tt, tt = lP (mtP R) n r := ⟨_, rfl⟩
        rw [← htt] at t1 t2 hcl1 HH hsm
        obtain ⟨yb, yo, hyA, hyb, hcm⟩ := hgood.1.at_ (show tt < yn by omega)
        have hyA' : yA = some ⟨yb, yo, none⟩ := hyA
        subst hyA'
        have hca' : wo.cell? ⟨rB, rO + r, none⟩ = some (.slice (some ⟨yb, yo, none⟩) n yc) := by rw [← hln']; exact hca
        have hcm' : wo.cell? ⟨yb, yo + tt, none⟩ = some (.int .i64 (yf tt)) := hcm
        have hsm' : smP (mtP R) (lP (mtP R) n) (r + 1) = smP (mtP R) (lP (mtP R) n) r + yf tt := hsm
        obtain ⟨m, hm⟩ : ∃ m, m = yf tt := ⟨_, rfl⟩
        obtain ⟨sm, hsmv⟩ : ∃ sm, sm = smP (mtP R) (lP (mtP R) n) r := ⟨_, rfl⟩
        rw [← hm] at hcm' hsm'
        rw [← hsmv] at hsm' hs1 ⊢
        rw [hsm'] at hs2
        have wadd : IntKind.i64.wrap (sm + m) = sm + m := IntWalk.i64_in _ (by omega)
        have HSM := Lib.hid hsm'
        have hbt : Below wo.heap.size wo (wo.alloc (.cells #[.int .i64 ((tt : Nat) : Int)] 3)) := (Below.refl _ _).alloc (Nat.le_refl _) _
        have HBA : Hid (Below w1.heap.size w1 (wo.alloc (.cells #[.int .i64 ((tt : Nat) : Int)] 3))) := Lib.hid (HB.out.trans (hbt.mono HB.out.size))
        have hrlc : r ≤ lc := by omega
        have hrBo : rB < wo.heap.size := by have := HB.out.size; have := HB1.out.size; omega
        clear hgr hrl t2 hgood hln hln' hhas hsm hsm' hm hsmv hcm hca hyA htt hbt hy
        go_wp2_with fail
        refine (in_one wo 3 t1).mono ?_
        rintro e w3 ⟨rfl, rfl⟩
        go_wp2_with fail
        refine (HH.out _ HBA.out).mono ?_
        rintro e w3 ⟨rfl, rfl⟩
        go_wp2_with fail
        go_roundw
        case rel => exact ⟨r + 1, by omega, by go_num, by rw [HSM.out], HBA⟩
        case measure => simp [intOf]; omega
      · obtain rfl : n = r := by omega
        rw [HSUM.out]
        go_wp2_with fail
        go_loopw [16, 17, 18] (fun s16 s17 s18 wr => ∃ (r : Nat) (T : Nat → Nat) (tA : Option Addr) (tc : Nat), r ≤ n ∧ s18 = .int .i64 (r : Nat) ∧ s16 = .int .i64 (smP (mtP R) T r) ∧ s17 = .slice tA r tc ∧ Hid (OkT T n r) ∧ Hid (Own wr w1.heap.size 3 1 tA r tc r (fun q => .int .i64 ((T q : Nat) : Int))) ∧ Hid (Below w1.heap.size w1 wr)) (fun _ _ s18 _ => n - (intOf s18).toNat)
        case atStart => exact ⟨0, fun _ => 0, none, 0, Nat.zero_le _, rfl, rfl, rfl, Lib.hid (fun i hi => absurd hi (Nat.not_lt_zero _)), Lib.hid (Own.nil _ _ _ _ _), HB⟩
        case round =>
          clear HB
          obtain ⟨wo, rfl⟩ : ∃ wo : World, wo = wr := ⟨_, rfl⟩
          obtain ⟨r, T, tA, tc, hr, rfl, rfl, rfl, HOKT, HO, HB⟩ := hrel
          by_cases hrn : r < n
          · obtain ⟨j, hj, hfree⟩ := rm_some n6 HOKT.out hrn
            have HFREE := Lib.hid hfree
            clear hfree
            by_cases hrp : r < pn
            · obtain ⟨b', o', rfl, hbl, hcp⟩ := (HCL.out wo HB.out).2.2.at_ hrp
              have hpv := HPF.out r
              obtain ⟨pv, hpv2⟩ : ∃ pv, pv = pf r := ⟨_, rfl⟩
              rw [← hpv2] at hcp hpv
              obtain ⟨c0, hc0e⟩ : ∃ c0 : Nat, pv % (n : Int) = (c0 : Int) := ⟨(pv % (n : Int)).toNat, by have := Int.emod_nonneg pv (show (n : Int) ≠ 0 by omega); omega⟩
              have hc0 : c0 < n := by have := Int.emod_lt_of_pos pv (show (0 : Int) < n by omega); omega
              have HC0E := Lib.hid hc0e
              clear hpv2 hc0e
              go_wp2_with fail
              go_loop [19] (fun s19 => ∃ c : Nat, c < n ∧ s19 = .int .i64 (c : Nat)) (fun s19 => (j + n - (intOf s19).toNat) % n)
              case atStart => exact ⟨c0, hc0, by rw [HC0E.out]⟩
              case round =>
                obtain ⟨cc, hcc, rfl⟩ := hrel
                have hha := refHasP_any tA r tc (fun i => ((T i : Nat) : Int)) ((cc : Nat) : Int) wo HO.out.rd (by unfold maxLen; omega)
                cases hb : hasP (fun i => ((T i : Nat) : Int)) r ((cc : Nat) : Int) with
                | true =>
                  rw [hb] at hha
                  have hcj : cc ≠ j := fun e => by
                    obtain ⟨i, hi, h⟩ := hasP_iff.1 hb
                    exact HFREE.out i hi ((Int.ofNat.inj h).trans e)
                  have HHA := Lib.hid hha
                  obtain ⟨c2, hc2, hc2e, hc2v⟩ := next_c hcc
                  have HC2V := Lib.hid hc2v
                  have HC2E := Lib.hid hc2e
                  clear hb hha hc2v hc2e
                  go_wp2_with fail
                  refine HHA.out.mono ?_
                  rintro e w3 ⟨rfl, rfl⟩
                  clear HHA
                  go_wp2_with fail
                  go_round
                  case rel => exact ⟨c2, hc2, by rw [HC2E.out]⟩
                  case measure => rw [HC2E.out]; exact dist_lt hcc hj hcj HC2V.out
                | false =>
                  rw [hb] at hha
                  have HHA := Lib.hid hha
                  have HNEW : Hid (∀ i, i < r → T i ≠ cc) := Lib.hid fun i hi e => by
                    rw [show hasP (fun i => ((T i : Nat) : Int)) r ((cc : Nat) : Int) = true from hasP_iff.2 ⟨i, hi, by rw [e]⟩] at hb; cases hb
                  obtain ⟨hgr, _, _⟩ := HCL.out wo HB.out
                  have hca : wo.cell? ⟨rB, rO + r, none⟩ = some (R r).val := by
                    obtain ⟨b', o', e, _, hc⟩ := hgr.1.at_ hrn
                    cases e; exact hc
                  have hgood := hgr.2 r hrn
                  have hln := HLEN.out r hrn
                  have hs1 := sm_bd HM.out (r := r) (by omega) (fun i hi => (HOKT.out i (by omega)).1)
                  have hvv := HVAL.out r hrn cc hcc
                  obtain ⟨y, hy⟩ : ∃ y, y = R r := ⟨_, rfl⟩
                  have HY := Lib.hid hy
                  rw [← hy] at hgood hca hln hvv
                  obtain ⟨yA, yn, yc, yf⟩ := y
                  have hln' : yn = n := hln
                  obtain ⟨yb, yo, hyA, hyb, hcm⟩ := hgood.1.at_ (show cc < yn by omega)
                  have hyA' : yA = some ⟨yb, yo, none⟩ := hyA
                  subst hyA'
                  have hca' : wo.cell? ⟨rB, rO + r, none⟩ = some (.slice (some ⟨yb, yo, none⟩) n yc) := by rw [← hln']; exact hca
                  have hcm' : wo.cell? ⟨yb, yo + cc, none⟩ = some (.int .i64 (yf cc)) := hcm
                  have hvv' : -20 ≤ yf cc ∧ yf cc ≤ 20 := hvv
                  obtain ⟨m, hm⟩ : ∃ m, m = yf cc := ⟨_, rfl⟩
                  have HMV : Hid (m = mtP R r cc) := Lib.hid (by rw [hm]; unfold mtP; rw [← HY.out])
                  obtain ⟨sm, hsmv⟩ : ∃ sm, sm = smP (mtP R) T r := ⟨_, rfl⟩
                  have HSMV := Lib.hid hsmv
                  rw [← hm] at hcm' hvv'
                  rw [← hsmv] at hs1 ⊢
                  have wadd : IntKind.i64.wrap (sm + m) = sm + m := IntWalk.i64_in _ (by omega)
                  have hrBo : rB < wo.heap.size := by have := HB.out.size; have := HB1.out.size; omega
                  have hybo : yb < wo.heap.size := hyb
                  have hca2 : ∀ X : World, Below w1.heap.size w1 X → X.cell? ⟨rB, rO + r, none⟩ = some (.slice (some ⟨yb, yo, none⟩) n yc) ∧ X.cell? ⟨yb, yo + cc, none⟩ = some (.int .i64 m) := fun X hX => by
                    obtain ⟨g1, _, _⟩ := HCL.out X hX
                    have h1 : (R r).val = .slice (some ⟨yb, yo, none⟩) n yc := by rw [← HY.out, ← hln']; rfl
                    constructor
                    · obtain ⟨b', o', e, _, hc⟩ := g1.1.at_ hrn
                      cases e; rw [hc, h1]
                    · have g2 := (g1.2 r hrn).1
                      rw [← HY.out] at g2
                      obtain ⟨b', o', e, _, hc⟩ := g2.at_ (show cc < yn by omega)
                      cases e
                      rw [hm]; exact hc
                  have HC2 := Lib.hid hca2
                  clear hb hha hgr hgood hln hln' hcm hca hyA hy hm hsmv hca2 hca' hcm' hvv
                  go_wp2_with fail
                  refine HHA.out.mono ?_
                  rintro e w3 ⟨rfl, rfl⟩
                  clear HHA
                  go_wp2_with (at_builtin; refine wpList_app _ rfl (.tmp 100) (.tmp 102) 24 rfl EIg rfl (HO.out.alloc _) rfl (l := 1) (by omega) (Rd.one _ (.int .i64 ((cc : Nat) : Int)) _) (fun _ _ => rfl) (by unfold maxLen; omega) (by omega) (by have := HB.out.size; simp; omega) (r + 1) (r + 1) rfl rfl ?_; intro A2 ac2 w3 hown2 hg2 hat2 hbl2; have HOW := Lib.hid hown2; have HB3 := Lib.hid ((HB.out.alloc HB.out.size (.cells #[.int .i64 ((cc : Nat) : Int)] 3)).trans hbl2); obtain ⟨hx1, hx2⟩ := HC2.out _ HB3.out; clear hown2 hg2 hat2 hbl2)
                  go_roundw
                  case rel => exact ⟨r + 1, fun q => if q < r then T q else cc, A2, ac2, by omega, by go_num, by rw [HSMV.out, HMV.out, sm_more], rfl, Lib.hid (ok_more HOKT.out hcc HNEW.out), Lib.hid (HOW.out.congr fun q hq => by
                    rcases Nat.lt_or_ge q r with h | h
                    · rw [cat_lt h]; simp only [if_pos h]
                    · rw [cat_ge h]; simp only [if_neg (Nat.not_lt.2 h)]), HB3⟩
                  case measure => simp [intOf]; omega
            · have hc0 : 0 < n := by omega
              go_wp2_with fail
              go_loop [19] (fun s19 => ∃ c : Nat, c < n ∧ s19 = .int .i64 (c : Nat)) (fun s19 => (j + n - (intOf s19).toNat) % n)
              case atStart => exact ⟨0, hc0, rfl⟩
              case round =>
                obtain ⟨cc, hcc, rfl⟩ := hrel
                have hha := refHasP_any tA r tc (fun i => ((T i : Nat) : Int)) ((cc : Nat) : Int) wo HO.out.rd (by unfold maxLen; omega)
                cases hb : hasP (fun i => ((T i : Nat) : Int)) r ((cc : Nat) : Int) with
                | true =>
                  rw [hb] at hha
                  have hcj : cc ≠ j := fun e => by
                    obtain ⟨i, hi, h⟩ := hasP_iff.1 hb
                    exact HFREE.out i hi ((Int.ofNat.inj h).trans e)
                  have HHA := Lib.hid hha
                  obtain ⟨c2, hc2, hc2e, hc2v⟩ := next_c hcc
                  have HC2V := Lib.hid hc2v
                  have HC2E := Lib.hid hc2e
                  clear hb hha hc2v hc2e
                  go_wp2_with fail
                  refine HHA.out.mono ?_
                  rintro e w3 ⟨rfl, rfl⟩
                  clear HHA
                  go_wp2_with fail
                  go_round
                  case rel => exact ⟨c2, hc2, by rw [HC2E.out]⟩
                  case measure => rw [HC2E.out]; exact dist_lt hcc hj hcj HC2V.out
                | false =>
                  rw [hb] at hha
                  have HHA := Lib.hid hha
                  have HNEW : Hid (∀ i, i < r → T i ≠ cc) := Lib.hid fun i hi e => by
                    rw [show hasP (fun i => ((T i : Nat) : Int)) r ((cc : Nat) : Int) = true from hasP_iff.2 ⟨i, hi, by rw [e]⟩] at hb; cases hb
                  obtain ⟨hgr, _, _⟩ := HCL.out wo HB.out
                  have hca : wo.cell? ⟨rB, rO + r, none⟩ = some (R r).val := by
                    obtain ⟨b', o', e, _, hc⟩ := hgr.1.at_ hrn
                    cases e; exact hc
                  have hgood := hgr.2 r hrn
                  have hln := HLEN.out r hrn
                  have hs1 := sm_bd HM.out (r := r) (by omega) (fun i hi => (HOKT.out i (by omega)).1)
                  have hvv := HVAL.out r hrn cc hcc
                  obtain ⟨y, hy⟩ : ∃ y, y = R r := ⟨_, rfl⟩
                  have HY := Lib.hid hy
                  rw [← hy] at hgood hca hln hvv
                  obtain ⟨yA, yn, yc, yf⟩ := y
                  have hln' : yn = n := hln
                  obtain ⟨yb, yo, hyA, hyb, hcm⟩ := hgood.1.at_ (show cc < yn by omega)
                  have hyA' : yA = some ⟨yb, yo, none⟩ := hyA
                  subst hyA'
                  have hca' : wo.cell? ⟨rB, rO + r, none⟩ = some (.slice (some ⟨yb, yo, none⟩) n yc) := by rw [← hln']; exact hca
                  have hcm' : wo.cell? ⟨yb, yo + cc, none⟩ = some (.int .i64 (yf cc)) := hcm
                  have hvv' : -20 ≤ yf cc ∧ yf cc ≤ 20 := hvv
                  obtain ⟨m, hm⟩ : ∃ m, m = yf cc := ⟨_, rfl⟩
                  have HMV : Hid (m = mtP R r cc) := Lib.hid (by rw [hm]; unfold mtP; rw [← HY.out])
                  obtain ⟨sm, hsmv⟩ : ∃ sm, sm = smP (mtP R) T r := ⟨_, rfl⟩
                  have HSMV := Lib.hid hsmv
                  rw [← hm] at hcm' hvv'
                  rw [← hsmv] at hs1 ⊢
                  have wadd : IntKind.i64.wrap (sm + m) = sm + m := IntWalk.i64_in _ (by omega)
                  have hrBo : rB < wo.heap.size := by have := HB.out.size; have := HB1.out.size; omega
                  have hybo : yb < wo.heap.size := hyb
                  have hca2 : ∀ X : World, Below w1.heap.size w1 X → X.cell? ⟨rB, rO + r, none⟩ = some (.slice (some ⟨yb, yo, none⟩) n yc) ∧ X.cell? ⟨yb, yo + cc, none⟩ = some (.int .i64 m) := fun X hX => by
                    obtain ⟨g1, _, _⟩ := HCL.out X hX
                    have h1 : (R r).val = .slice (some ⟨yb, yo, none⟩) n yc := by rw [← HY.out, ← hln']; rfl
                    constructor
                    · obtain ⟨b', o', e, _, hc⟩ := g1.1.at_ hrn
                      cases e; rw [hc, h1]
                    · have g2 := (g1.2 r hrn).1
                      rw [← HY.out] at g2
                      obtain ⟨b', o', e, _, hc⟩ := g2.at_ (show cc < yn by omega)
                      cases e
                      rw [hm]; exact hc
                  have HC2 := Lib.hid hca2
                  clear hb hha hgr hgood hln hln' hcm hca hyA hy hm hsmv hca2 hca' hcm' hvv
                  go_wp2_with fail
                  refine HHA.out.mono ?_
                  rintro e w3 ⟨rfl, rfl⟩
                  clear HHA
                  go_wp2_with (at_builtin; refine wpList_app _ rfl (.tmp 100) (.tmp 102) 24 rfl EIg rfl (HO.out.alloc _) rfl (l := 1) (by omega) (Rd.one _ (.int .i64 ((cc : Nat) : Int)) _) (fun _ _ => rfl) (by unfold maxLen; omega) (by omega) (by have := HB.out.size; simp; omega) (r + 1) (r + 1) rfl rfl ?_; intro A2 ac2 w3 hown2 hg2 hat2 hbl2; have HOW := Lib.hid hown2; have HB3 := Lib.hid ((HB.out.alloc HB.out.size (.cells #[.int .i64 ((cc : Nat) : Int)] 3)).trans hbl2); obtain ⟨hx1, hx2⟩ := HC2.out _ HB3.out; clear hown2 hg2 hat2 hbl2)
                  go_roundw
                  case rel => exact ⟨r + 1, fun q => if q < r then T q else cc, A2, ac2, by omega, by go_num, by rw [HSMV.out, HMV.out, sm_more], rfl, Lib.hid (ok_more HOKT.out hcc HNEW.out), Lib.hid (HOW.out.congr fun q hq => by
                    rcases Nat.lt_or_ge q r with h | h
                    · rw [cat_lt h]; simp only [if_pos h]
                    · rw [cat_ge h]; simp only [if_neg (Nat.not_lt.2 h)]), HB3⟩
                  case measure => simp [intOf]; omega
          · obtain rfl : n = r := by omega
            have hle := HMAX.out T HOKT.out
            obtain ⟨sT, hsT⟩ : ∃ sT, sT = smP (mtP R) T n := ⟨_, rfl⟩
            rw [← hsT] at hle ⊢
            have qkk : (K != K) = false := by simp
            have hnle : ¬ K < sT := by omega
            obtain ⟨i0, hi0e⟩ : ∃ i0 : Nat, ai % (n : Int) = (i0 : Int) := ⟨(ai % (n : Int)).toNat, by have := Int.emod_nonneg ai (show (n : Int) ≠ 0 by omega); omega⟩
            have hi0 : i0 < n := by have := Int.emod_lt_of_pos ai (show (0 : Int) < n by omega); omega
            have HI0 := Lib.hid hi0e
            obtain ⟨hgr, _, _⟩ := HCL.out wo HB.out
            have HRM := Lib.hid (hgr.1.alloc (.cells #[] 24))
            have hwo1 := HB.out.size
            clear hsT hi0e hgr HOKT HO
            go_upto_region 31 with (at_builtin; refine wpList_app _ rfl (.tmp 121) (.tmp 122) 22 rfl EPr rfl (Own.empty wo wo.heap.size 24 1 (fun _ => .slice none 0 0) (Nat.le_refl _)) rfl (l := n) (by omega) HRM.out (fun _ _ => rfl) (by unfold maxLen; omega) (by omega) (by simp) n n (by omega) (by omega) ?_; intro OA oc w3 hown2 hg2 hat2 hbl2; have HOW := Lib.hid hown2; have HB3 := Lib.hid (((Below.refl wo.heap.size wo).alloc (Nat.le_refl _) (.cells #[] 24)).trans hbl2); clear hown2 hg2 hat2 hbl2)
            rw [HI0.out]
            have hx0 := HOW.out.row (by omega)
            obtain ⟨og, F, hOA, hog, hrow, hnoc, hF⟩ := hx0
            subst hOA
            have hF' : ∀ q, q < n → F q = (R q).val := fun q hq => by rw [hF q hq, cat_ge (Nat.zero_le _)]; rfl
            have hfz0 := hrow.frozen i0
            have hcl0 := hrow.cell (i := i0) (by omega)
            obtain ⟨W4, hW4⟩ : ∃ W, W = w3.setCell ⟨og, i0, none⟩ (.slice none 0 0) := ⟨_, rfl⟩
            have hb4 : Below wo.heap.size wo W4 := by rw [hW4]; exact HB3.out.setCell hog _
            have hr4 : W4.rowIs og 24 oc (rwP F i0 (.slice none 0 0)) := by rw [hW4]; exact hrow.set i0 _
            have hog4 := hr4.lt
            have hocm : oc ≤ maxLen := HOW.out.le.2
            have HOCM := Lib.hid hocm
            have hcl4 : ∀ X : World, Below wo.heap.size wo X → GrP X (some ⟨rB, rO, none⟩) n R ∧ Rd X (some ⟨lb, lo, none⟩) n (fun i => .int .i64 ((lP (mtP R) n i : Nat) : Int)) := fun X hX => by
              obtain ⟨a1, a2, _⟩ := HCL.out X (HB.out.trans (hX.mono hwo1))
              exact ⟨a1, a2⟩
            have HC4 := Lib.hid hcl4
            have hln := HLEN.out i0 hi0
            have hvv := HVAL.out i0 hi0
            obtain ⟨y, hy⟩ : ∃ y, y = R i0 := ⟨_, rfl⟩
            have HY := Lib.hid hy
            rw [← hy] at hln hvv
            obtain ⟨yA, yn, yc, yf⟩ := y
            have hln' : yn = n := hln
            subst hln'
            have HVV : Hid (∀ q, q < yn → -20 ≤ yf q ∧ yf q ≤ 20) := Lib.hid hvv
            have hgd4 := ((hcl4 W4 hb4).1.2 i0 hi0)
            rw [← HY.out] at hgd4
            obtain ⟨yb, yo, hyA, hyb, hcm0⟩ := hgd4.1.at_ (show 0 < yn by omega)
            have hyA' : yA = some ⟨yb, yo, none⟩ := hyA
            subst hyA'
            have hc5 : ∀ X : World, Below wo.heap.size wo X → X.cell? ⟨rB, rO + i0, none⟩ = some (.slice (some ⟨yb, yo, none⟩) yn yc) ∧ ∀ q, q < yn → X.cell? ⟨yb, yo + q, none⟩ = some (.int .i64 (yf q)) := fun X hX => by
              obtain ⟨g1, _⟩ := HC4.out X hX
              constructor
              · obtain ⟨b', o', e, _, hc⟩ := g1.1.at_ hi0
                cases e; rw [hc, ← HY.out]; rfl
              · intro q hq
                have g2 := (g1.2 i0 hi0).1
                rw [← HY.out] at g2
                obtain ⟨b', o', e, _, hc⟩ := g2.at_ hq
                cases e; exact hc
            have HC5 := Lib.hid hc5
            have hm4 : (w3.setCell ⟨og, i0, none⟩ (.slice none 0 0)).cell? ⟨rB, rO + i0, none⟩ = some (.slice (some ⟨yb, yo, none⟩) yn yc) := by rw [← hW4]; exact (hc5 W4 hb4).1
            have HB4 := Lib.hid hb4
            have HR4 := Lib.hid hr4
            have HF := Lib.hid hF'
            have HW4 := Lib.hid hW4
            have hyn63 : (yn : Int) ≤ 9223372036854775807 := by omega
            clear hrow hF hF' hb4 hr4 hcl4 hln hvv hy hgd4 hcm0 hyA hc5 hW4 HOW HB3 HRM HCL HPF HPR HPM
            go_wp2_with fail
            rw [← HW4.out]
            have hw4s : og < W4.heap.size := hog4
            go_loopw [136] (fun s136 wr => ∃ (j : Nat) (S : Option Addr) (sc : Nat), j ≤ yn ∧ s136 = .int .i64 (j : Nat) ∧ Hid (∀ q, q < j → -20 ≤ x ∧ x ≤ 20 ∧ -20 ≤ x + yf q ∧ x + yf q ≤ 20) ∧ Hid (wr.rowIs og 24 oc (rwP F i0 (.slice S j sc))) ∧ Hid (Own wr W4.heap.size 3 1 S j sc j (fun q => .int .i64 (x + yf q))) ∧ Hid (Below wo.heap.size wo wr) ∧ Hid (W4.heap.size ≤ wr.heap.size)) (fun s136 _ => yn - (intOf s136).toNat)
            case atStart => exact ⟨0, none, 0, Nat.zero_le _, rfl, Lib.hid (fun q hq => absurd hq (Nat.not_lt_zero _)), HR4, Lib.hid (Own.nil _ _ _ _ _), HB4, Lib.hid (Nat.le_refl _)⟩
            case round =>
              clear HR4 HB4 HW4 hm4 hcl0 hfz0
              obtain ⟨wi, rfl⟩ : ∃ wi : World, wi = wr := ⟨_, rfl⟩
              obtain ⟨j, S, sc, hj, rfl, HALL, HRI, HOI, HBI, HSZ⟩ := hrel
              by_cases hjn : j < yn
              · have hy1 := (HC5.out wi HBI.out).2 j hjn
                have hv1 := HVV.out j hjn
                obtain ⟨m, hm⟩ : ∃ m, m = yf j := ⟨_, rfl⟩
                rw [← hm] at hy1 hv1
                have HM1 := Lib.hid hm
                clear hm
                by_cases hx1 : -20 ≤ x ∧ x ≤ 20
                · have wadd : IntKind.i64.wrap (x + m) = x + m := IntWalk.i64_in _ (by omega)
                  have hwi1 := within_any (-20) x 20 wi
                  rw [inB_yes hx1.1 hx1.2] at hwi1
                  have HWI1 := Lib.hid hwi1
                  clear hwi1
                  by_cases hx2 : -20 ≤ x + m ∧ x + m ≤ 20
                  · have hwi2 := within_any (-20) (x + m) 20 wi
                    rw [inB_yes hx2.1 hx2.2] at hwi2
                    have HWI2 := Lib.hid hwi2
                    have hcr : wi.cell? ⟨og, i0, none⟩ = some (.slice S j sc) := by rw [HRI.out.cell (i := i0) (by omega)]; unfold rwP; rw [if_pos rfl]
                    have hsz := HSZ.out
                    have hc7 : ∀ X, Below W4.heap.size (wi.alloc (.cells #[.int .i64 (x + m)] 3)) X → X.rowIs og 24 oc (rwP F i0 (.slice S j sc)) ∧ Below wo.heap.size wo X := fun X hX =>
                      ⟨(HRI.out.alloc _).of_block (hX.block og hog4), (HBI.out.alloc HBI.out.size _).trans (hX.mono (by omega))⟩
                    have HC7 := Lib.hid hc7
                    clear hwi2 hc7
                    go_wp2_with fail
                    refine HWI1.out.mono ?_
                    rintro e w5 ⟨rfl, rfl⟩
                    go_wp2_with fail
                    refine HWI2.out.mono ?_
                    rintro e w5 ⟨rfl, rfl⟩
                    go_wp2_with (at_builtin; refine wpList_app _ rfl (.tmp 155) (.tmp 159) 24 rfl EIg rfl (HOI.out.alloc _) rfl (l := 1) (by omega) (Rd.one _ (.int .i64 (x + m)) _) (fun _ _ => rfl) (by unfold maxLen; omega) (by omega) (by simp; omega) (j + 1) (j + 1) rfl rfl ?_; intro A2 ac2 w5 hown2 hg2 hat2 hbl2; have HOW := Lib.hid hown2; have HBL := Lib.hid hbl2; have hr5 := (HC7.out w5 hbl2).1; have hcr5 := hr5.cell (i := i0) (by omega); have hfz5 := hr5.frozen i0; clear hown2 hg2 hat2 hbl2 hr5)
                    obtain ⟨hr6, hb6⟩ := HC7.out w5 HBL.out
                    have hs6 : W4.heap.size ≤ w5.heap.size := by have := HBL.out.size; simp at this; omega
                    go_roundw
                    case rel => exact ⟨j + 1, A2, ac2, by omega, by go_num, Lib.hid (fun q hq => by
                      by_cases e : q < j
                      · exact HALL.out q e
                      · obtain rfl : q = j := by omega
                        rw [← HM1.out]; exact ⟨hx1.1, hx1.2, hx2.1, hx2.2⟩), Lib.hid ((hr6.set i0 _).congr fun q _ => rwP_set _ _ _ _ _), Lib.hid ((HOW.out.congr fun q hq => own_more HM1.out (by omega)).of_block fun g hg => Below.heap_setCell _ _ _ _ (by have := HOW.out.lt g hg; show g ≠ og; omega)), Lib.hid (hb6.setCell hog _), Lib.hid (by simpa [World.setCell] using hs6)⟩
                    case measure => simp [intOf]; omega
                  · have hwi2 := within_any (-20) (x + m) 20 wi
                    rw [inB_no hx2] at hwi2
                    have HWI2 := Lib.hid hwi2
                    clear hwi2
                    go_wp2_with fail
                    refine HWI1.out.mono ?_
                    rintro e w5 ⟨rfl, rfl⟩
                    go_wp2_with fail
                    refine HWI2.out.mono ?_
                    rintro e w5 ⟨rfl, rfl⟩
                    go_wp2_with fail
                    go_ret
                    exact ⟨rfl, HB1.out.trans ((HB.out.trans (HBI.out.mono hwo1)).mono HB1.out.size)⟩
                · have hwi1 := within_any (-20) x 20 wi
                  rw [inB_no hx1] at hwi1
                  have HWI1 := Lib.hid hwi1
                  clear hwi1
                  go_wp2_with fail
                  refine HWI1.out.mono ?_
                  rintro e w5 ⟨rfl, rfl⟩
                  go_wp2_with fail
                  go_ret
                  exact ⟨rfl, HB1.out.trans ((HB.out.trans (HBI.out.mono hwo1)).mono HB1.out.size)⟩
              · obtain rfl : yn = j := by omega
                obtain ⟨hq0, hq1⟩ : (-20 ≤ x ∧ x ≤ 20) ∧ True := ⟨⟨(HALL.out 0 (by omega)).1, (HALL.out 0 (by omega)).2.1⟩, trivial⟩
                obtain ⟨R', hR'⟩ : ∃ R' : Nat → SI, R' = fun q => if q = i0 then ⟨S, yn, sc, fun k => if k < yn then x + yf k else 0⟩ else R q := ⟨_, rfl⟩
                have hgrn := HC4.out wi HBI.out
                have hri : R' i0 = ⟨S, yn, sc, fun k => if k < yn then x + yf k else 0⟩ := by rw [hR']; exact if_pos rfl
                have hrq : ∀ q, q ≠ i0 → R' q = R q := fun q hq => by rw [hR']; simp only [if_neg hq]
                have hgr' : GrP wi (some ⟨og, 0, none⟩) yn R' := by
                  refine ⟨(Rd.of_row HRI.out (by omega)).congr fun q hq => ?_, fun q hq => ?_⟩
                  · unfold rwP
                    by_cases e : q = i0
                    · rw [if_pos e, e, hri]; rfl
                    · rw [if_neg e, hrq q e, HF.out q hq]
                  · by_cases e : q = i0
                    · rw [e, hri]
                      refine ⟨HOI.out.rd.congr fun k hk => by simp only [if_pos hk], fun k => ?_, HOI.out.le.1, HOI.out.le.2⟩
                      show (Lit.int .i64 (if k < yn then x + yf k else 0)).wf = true
                      by_cases hk : k < yn
                      · rw [if_pos hk]
                        obtain ⟨_, _, a, b⟩ := HALL.out k hk
                        simp [Lit.wf, IntKind.min, IntKind.max, IntKind.signed, IntKind.bits]; omega
                      · rw [if_neg hk]; decide
                    · rw [hrq q e]; exact hgrn.1.2 q hq
                have hl' : ∀ q, q < yn → (R' q).n = yn := fun q hq => by
                  by_cases e : q = i0
                  · rw [e, hri]
                  · rw [hrq q e]; exact HLEN.out q hq
                have hv' : ∀ q, q < yn → ∀ k, k < yn → -20 ≤ (R' q).f k ∧ (R' q).f k ≤ 20 := fun q hq k hk => by
                  by_cases e : q = i0
                  · rw [e, hri]
                    show -20 ≤ (if k < yn then x + yf k else 0) ∧ (if k < yn then x + yf k else 0) ≤ 20
                    rw [if_pos hk]; exact (HALL.out k hk).2.2
                  · rw [hrq q e]; exact HVAL.out q hq k hk
                have hz' := pwE_ok ⟨n1, n6⟩ hl' hv'
                obtain ⟨hb', hlp'⟩ := most_sh n6 hi0 HM.out (fun i hi j hj => hv' i hi j hj : InP (mtP R') yn) (x := x) fun i hi j hj => by
                  show (R' i).f j = (R i).f j + _
                  by_cases e : i = i0
                  · rw [e, hri, ← HY.out, if_pos rfl]
                    show (if j < yn then x + yf j else 0) = yf j + x
                    rw [if_pos hj]; omega
                  · rw [hrq i e, if_neg e]; omega
                rw [← HKK.out] at hb'
                have HMA := Lib.hid (most_any (some ⟨og, 0, none⟩) yn oc R' wi hgr' HNM.out)
                have HZ' := Lib.hid hz'
                have HB' : Hid (bst (mtP R') yn (2 ^ yn - 1) = K + x) := Lib.hid hb'
                have HLP : Hid (∀ r, r < yn → lP (mtP R') yn r = lP (mtP R) yn r) := Lib.hid hlp'
                have hxl : -20 ≤ x := hq0.1
                have hxu : x ≤ 20 := hq0.2
                have wkx : IntKind.i64.wrap (K + x) = K + x := IntWalk.i64_in _ (by omega)
                clear hq0 hq1 hR' hgrn hri hrq hgr' hl' hv' hz' hb' hlp'
                go_wp2_with fail
                refine HMA.out.mono ?_
                rintro e w5 ⟨he, hb5⟩
                rcases he with ⟨hne, _⟩ | ⟨_, L', lc', rfl, hrl', hlc'⟩
                · exact absurd HZ'.out hne
                rw [HB'.out]
                have HB5 := Lib.hid (HBI.out.trans (hb5.mono HBI.out.size))
                have hll := (HC4.out w5 HB5.out).2
                have qkx : ((K + x) == (K + x)) = true := by simp
                have HIN := Lib.hid (intsq_any L' (some ⟨lb, lo, none⟩) yn lc' yn lc (fun i => ((lP (mtP R') yn i : Nat) : Int)) (fun i => ((lP (mtP R) yn i : Nat) : Int)) w5 true (sameI_iff.2 ⟨rfl, fun i hi => by rw [HLP.out i hi]⟩) hrl' hll HNM.out HNM.out)
                clear hb5 hrl' hll
                go_wp2_with fail
                refine HIN.out.mono ?_
                rintro e w6 ⟨rfl, k6, rfl⟩
                go_wp2_with fail
                go_ret
                exact ⟨rfl, below_drewN (HB1.out.trans ((HB.out.trans (HB5.out.mono hwo1)).mono HB1.out.size)) _⟩
end Go.Proofs.Ytenlnkcmabphfaa.pairsMost
