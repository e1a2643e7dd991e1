/- What passes some checks passes each of them; of all checks half let a set pass. No condition. -/
import Derived.Test.YtmnleblbandghaaLoneHas
import Derived.Test.YtmnleblbandghaaLoneCheck
import Derived.Deep.RegionLaw
import Derived.IntWalk
namespace Go.Proofs.Ytmnleblbandghaa.loneSieve
open Go.ChangeShapes Go.WideShapes Go.ChangeAt Go.RowKit
set_option linter.unusedVariables false
def both (qa : Nat) (P R : Nat → Int) (i : Nat) : Int := if i < qa then P i else R (i - qa)
theorem qok_right {n : Int} {qa qb : Nat} {P R : Nat → Int} (h : QOk n (qa + qb) (both qa P R)) : QOk n qb R := ⟨by have := h.1; omega, fun i hi => by
  have := h.2 (qa + i) (by omega)
  unfold both at this
  rw [if_neg (by omega), show qa + i - qa = i by omega] at this
  exact this⟩
theorem okS_both {S : Nat → Nat} {qa qb : Nat} {P R : Nat → Int} {i : Nat} : okS S (tN (both qa P R)) (qa + qb) i = (okS S (tN P) qa i && okS S (tN R) qb i) := by
  unfold okS
  rw [anyB_cat, Bool.not_or]
  congr 2
  · rw [Bool.eq_iff_iff]
    unfold anyB
    simp only [decide_eq_true_eq]
    exact ⟨fun ⟨j, hj, h⟩ => ⟨j, hj, by unfold tN both at h; rw [if_pos hj] at h; exact h⟩, fun ⟨j, hj, h⟩ => ⟨j, hj, by unfold tN both; rw [if_pos hj]; exact h⟩⟩
  · rw [Bool.eq_iff_iff]
    unfold anyB
    simp only [decide_eq_true_eq]
    exact ⟨fun ⟨j, hj, h⟩ => ⟨j, hj, by unfold tN both at h; rw [if_neg (by omega), show qa + j - qa = j by omega] at h; exact h⟩, fun ⟨j, hj, h⟩ => ⟨j, hj, by unfold tN both; rw [if_neg (by omega), show qa + j - qa = j by omega]; exact h⟩⟩
theorem wfN {x N : Nat} (h5 : N ≤ 5) (hx : x < 2 ^ N) : x < 32 := Nat.lt_of_lt_of_le hx (Nat.pow_le_pow_right (by omega) h5)
theorem sieve1_any (N : Nat) (A QA : Option Addr) (x c : Nat) (w : World) (h1 : 1 ≤ N) (h5 : N ≤ 5) (hx : x < 2 ^ N) (hc : c < 2 ^ N) (h : Rd w A 1 (fun _ => .int .u32 (x : Nat))) (hq : Rd w QA 1 (fun _ => .int .u32 (c : Nat))) :
    Calls Try.prog 7 #[.int .i64 (N : Nat), .slice A 1 1, .slice QA 1 1] w fun e w' => (∃ (A' : Option Addr) (cn cc : Nat), e = .returned (.tuple #[.slice A' cn cc, .int .i64 0]) ∧ cn ≤ 1 ∧ Hid (halfN x (c + 1) = halfN x c + cn)) ∧ Below w.heap.size w w' := by
  have x32 := wfN h5 hx
  have c32 := wfN h5 hc
  have wf (y : Nat) (hy : y < 32) : (Lit.int .u32 (y : Int)).wf = true := by simp [Lit.wf, IntKind.min, IntKind.max, IntKind.bits, IntKind.signed]; omega
  refine (sieveL_any (N : Nat) A QA 1 1 1 1 (fun _ => (x : Int)) (fun _ => (c : Int)) w (by simp [Lit.wf, IntKind.min, IntKind.max, IntKind.bits, IntKind.signed]; omega) h (by unfold maxLen; omega) (fun i _ => wf x x32) hq (by unfold maxLen; omega) (fun i _ => wf c c32)).mono ?_
  rintro e w' ⟨A', cn, cc, G, z, rfl, hb, hz⟩
  rcases hz with ⟨rfl, _, _, _, hcn, hs⟩ | ⟨_, _, _, _, hno⟩
  · refine ⟨⟨A', cn, cc, rfl, hcn, Lib.hid ?_⟩, hb⟩
    have h2 := hs.cnt
    have h3 : okS (tN fun _ => (x : Int)) (tN fun _ => (c : Int)) 1 0 = !notP x c := by
      show (!anyB (fun j => notP x c) 1) = _
      cases hp : notP x c
      · rw [anyB_no (p := fun j => false) (fun _ _ => rfl)]
      · rw [anyB_yes (p := fun j => true) (k := 0) (by omega) rfl]
    have h4 : cn = cntO (okS (tN fun _ => (x : Int)) (tN fun _ => (c : Int)) 1) 0 + if okS (tN fun _ => (x : Int)) (tN fun _ => (c : Int)) 1 0 then 1 else 0 := h2
    rw [h3] at h4
    show halfN x c + (if notP x c then 0 else 1) = _
    rw [h4]
    cases notP x c <;> rfl
  · have px : (x : Int) < 2 ^ ((N : Nat) : Int).toNat := by
      rw [Int.toNat_natCast]; exact_mod_cast hx
    have pc : (c : Int) < 2 ^ ((N : Nat) : Int).toNat := by
      rw [Int.toNat_natCast]; exact_mod_cast hc
    exact absurd ⟨⟨⟨by omega, by omega⟩, ⟨by omega, by omega⟩, fun i _ => px, fun i j h1 h2 => by omega⟩, ⟨by omega, fun i _ => pc⟩⟩ hno
theorem rd_one2 (w : World) (o : Obj) (v : Value) (e : TypeId) : Rd ((w.alloc o).alloc (.cells #[v] e)) (some ⟨w.heap.size + 1, 0, none⟩) 1 (fun _ => v) := by
  have h := Rd.one (w.alloc o) v e
  rw [show (w.alloc o).heap.size = w.heap.size + 1 by simp] at h
  exact h
set_option maxRecDepth 100000 in
set_option maxHeartbeats 2000000 in
theorem walk (w : World) (n : Int) (A : Option Addr) (m c : Nat) (S : Nat → Int) (PA : Option Addr) (qa ca : Nat) (P : Nat → Int) (RA : Option Addr) (qb cb : Nat) (R : Nat → Int)
    (wn : (Lit.int .i64 n).wf = true) (h : Rd w A m (fun i => .int .u32 (S i))) (wfS : ∀ i, (Lit.int .u32 (S i)).wf = true) (hl : m ≤ c) (hm : c ≤ maxLen) (z : c ≤ 1048576)
    (ha : Rd w PA qa (fun i => .int .u32 (P i))) (wfP : ∀ i, (Lit.int .u32 (P i)).wf = true) (hla : qa ≤ ca) (hma : ca ≤ maxLen) (za : ca ≤ 1048576)
    (hb : Rd w RA qb (fun i => .int .u32 (R i))) (wfR : ∀ i, (Lit.int .u32 (R i)).wf = true) (hlb : qb ≤ cb) (hmb : cb ≤ maxLen) (zb : cb ≤ 1048576) :
    Calls Try.prog 3 #[.int .i64 n, .slice A m c, .slice PA qa ca, .slice RA qb cb] w fun e w' => e = .returned (.bool true) ∧ Below w.heap.size w w' := by
  have hmm : m ≤ maxLen := by omega
  have hqa : qa ≤ maxLen := by omega
  have hqb : qb ≤ maxLen := by omega
  have H := Lib.hid h
  have HA := Lib.hid ha
  have HB := Lib.hid hb
  have HS := Lib.hid wfS
  have HP := Lib.hid wfP
  have HR := Lib.hid wfR
  have HMM := Lib.hid hmm
  have HQA := Lib.hid hqa
  have HQB := Lib.hid hqb
  clear h ha hb wfS wfP wfR hm hma hmb hmm hqa hqb
  go_enter Try.func3, Try.ntmps3
  go_wp2_with fail
  refine (sieveL_any n A PA m c qa ca S P w wn H.out HMM.out (fun i _ => HS.out i) HA.out HQA.out (fun i _ => HP.out i)).mono ?_
  rintro e w1 ⟨A1, n1, c1, G1, x1, rfl, hb1, hcase1⟩
  have HC1 := Lib.hid hcase1
  have hs1 := hb1.size
  have HB1 := Lib.hid hb1
  have HE := Lib.hid (Own.empty w1 w1.heap.size 27 1 (fun _ => .int .u32 0) (Nat.le_refl _))
  have HA1 := Lib.hid ((HA.out.below hb1).alloc (.cells #[] 27))
  clear hcase1 hb1
  go_wp2_with (first
    | (at_builtin; refine wpList_app _ rfl (.tmp 33) (.tmp 34) 22 rfl EW rfl HE.out rfl (l := qa) (by omega) HA1.out (fun _ _ => rfl) (by unfold maxLen; omega) (by omega) (by simp) qa qa (by omega) (by omega) ?_; intro A2 c2 w2 hown2 hg2 hat2 hbl2)
    | (at_builtin; refine wpList_app _ rfl (.tmp 35) (.tmp 36) 22 rfl EW rfl hown2 rfl (l := qb) (by omega) ((HB.out.below HB1.out).below (((Below.refl _ _).alloc (Nat.le_refl _) _).trans hbl2)) (fun _ _ => rfl) (by unfold maxLen; omega) (by omega) (by have := hbl2.size; simp at this; omega) (qa + qb) (qa + qb) (by omega) (by omega) ?_; intro A3 c3 w3 hown3 hg3 hat3 hbl3))
  have hb3 : Below w1.heap.size w1 w3 := (((Below.refl _ _).alloc (Nat.le_refl _) _).trans hbl2).trans hbl3
  have hB3 := HB1.out.trans (hb3.mono hs1)
  have hrd3 : Rd w3 A3 (qa + qb) (fun i => .int .u32 (both qa P R i)) := hown3.rd.congr (fun i hi => by
    unfold both
    by_cases e : i < qa
    · rw [cat_lt e, cat_ge (Nat.zero_le _), Nat.sub_zero, if_pos e]
    · rw [cat_ge (by omega), if_neg e])
  have hwb : ∀ i, (Lit.int .u32 (both qa P R i)).wf = true := fun i => by
    unfold both; split
    · exact HP.out i
    · exact HR.out _
  have HB3 := Lib.hid hB3
  have HRD3 := Lib.hid hrd3
  have HWB := Lib.hid hwb
  have hs3 := hb3.size
  have HB13 := Lib.hid hb3
  clear hb3 hB3 hrd3 hwb hown2 hg2 hat2 hbl2 hown3 hg3 hat3 hbl3 HE HA1
  refine (sieveL_any n A A3 m c (qa + qb) c3 S (both qa P R) w3 wn (H.out.below HB3.out) HMM.out (fun i _ => HS.out i) HRD3.out (by unfold maxLen; omega) (fun i _ => HWB.out i)).mono ?_
  rintro e w4 ⟨A4, n4, c4, G4, x4, rfl, hb4, hcase4⟩
  have hB4 := HB3.out.trans (hb4.mono HB3.out.size)
  have HB4 := Lib.hid hB4
  have HB34 := Lib.hid hb4
  clear hB4 hb4
  rcases HC1.out with ⟨rfl, hok1, hqk1, hrd1, hcn1, hsv1⟩ | ⟨hx1, rfl, rfl, rfl, hno1⟩
  · rcases hcase4 with ⟨rfl, _, hqk4, hrd4, hcn4, hsv4⟩ | ⟨hx4, rfl, rfl, rfl, hno4⟩
    · have HOK := Lib.hid hok1
      have HSV1 := Lib.hid hsv1
      have HSV4 := Lib.hid hsv4
      have HQ4 := Lib.hid hqk4
      have HRD4 := Lib.hid hrd4
      have HRD1 := Lib.hid (hrd1.below (HB13.out.trans (HB34.out.mono HB13.out.size)))
      have hn15 := hok1.1
      have hm200 := hok1.2.1
      clear hok1 hsv1 hsv4 hqk4 hqk1 hrd4 hrd1 HC1
      go_wp2_with fail
      refine (setted_any n A m c S w4 wn (H.out.below HB4.out) HMM.out (fun i _ => HS.out i)).mono ?_
      rintro e w5 ⟨⟨v, rfl, hv⟩, hb5⟩
      obtain rfl : v = true := hv.2 HOK.out
      have HB5 := Lib.hid (HB4.out.trans (hb5.mono HB4.out.size))
      have HRD1' := Lib.hid (HRD1.out.below hb5)
      have HRD4' := Lib.hid (HRD4.out.below hb5)
      clear hv hb5 HRD1 HRD4
      go_wp2_with fail
      refine (sieveL_any n A RA m c qb cb S R w5 wn (H.out.below HB5.out) HMM.out (fun i _ => HS.out i) (HB.out.below HB5.out) HQB.out (fun i _ => HR.out i)).mono ?_
      rintro e w6 ⟨A6, n6, c6, G6, x6, rfl, hb6, hcase6⟩
      rcases hcase6 with ⟨rfl, _, _, hrd6, hcn6, hsv6⟩ | ⟨_, _, _, _, hno6⟩
      · have HSV6 := Lib.hid hsv6
        have HRD6 := Lib.hid hrd6
        have HRD1 := Lib.hid (HRD1'.out.below hb6)
        have HRD4 := Lib.hid (HRD4'.out.below hb6)
        have HB6 := Lib.hid (HB5.out.trans (hb6.mono HB5.out.size))
        clear hsv6 hrd6 hb6 HRD1' HRD4'
        go_wp2_with fail
        have hSN := rd_tN (H.out.below HB6.out) (fun i _ => HS.out i)
        have HSN := Lib.hid hSN
        have hX32 : ∀ i, i < m → tN S i < 32 := fun i hi => by
          have h1 := HOK.out.2.2.1 i hi
          have h2 := wf_u32 (HS.out i)
          have h3 := pow32 hn15.1 hn15.2
          show (S i).toNat < 32; omega
        have HX32 := Lib.hid hX32
        have hun : ∀ i, i < m → ∀ j, j < m → tN S j = tN S i → j = i := fun i hi j hj e => by
          have h1 := wf_u32 (HS.out i)
          have h2 := wf_u32 (HS.out j)
          have e2 : S j = S i := by have e3 : (S j).toNat = (S i).toNat := e; omega
          rcases Nat.lt_trichotomy i j with h | h | h
          · exact absurd e2 (HOK.out.2.2.2 j i h hj)
          · exact h.symm
          · exact absurd e2.symm (HOK.out.2.2.2 i j h hi)
        have HUN := Lib.hid hun
        clear hSN hX32 hun
        go_loopw [70] (fun s70 wr => ∃ i : Nat, i ≤ m ∧ s70 = .int .i64 (i : Nat) ∧ Below w6.heap.size w6 wr) (fun s70 _ => m - (intOf s70).toNat)
        case atStart => exact ⟨0, by omega, rfl, Below.refl _ _⟩
        case round =>
          obtain ⟨wo, rfl⟩ : ∃ wo : World, wo = wr := ⟨_, rfl⟩
          obtain ⟨i, hi, rfl, hbo⟩ := hrel
          by_cases hlt : i < m
          · obtain ⟨b, off, rfl, hbb, hc0⟩ := HSN.out.at_ hlt
            have hc := (hbo.cell (p := ⟨b, off + i, none⟩) hbb).trans hc0
            have p1 := svd_has HSV1.out hlt (HUN.out i hlt)
            have p4 := svd_has HSV4.out hlt (HUN.out i hlt)
            have p6 := svd_has HSV6.out hlt (HUN.out i hlt)
            rw [okS_both] at p4
            have hX := HX32.out i hlt
            obtain ⟨X, hXe⟩ : ∃ X, X = tN S i := ⟨_, rfl⟩
            obtain ⟨k1, hk1⟩ : ∃ k1, k1 = okS (tN S) (tN P) qa i := ⟨_, rfl⟩
            obtain ⟨k6, hk6⟩ : ∃ k6, k6 = okS (tN S) (tN R) qb i := ⟨_, rfl⟩
            rw [← hk1, ← hk6] at p4
            rw [← hk1] at p1
            rw [← hk6] at p6
            rw [← hXe] at p1 p4 p6 hc hX
            have h1 := has_any A1 n1 c1 G1 X wo (HRD1.out.below hbo) (by unfold maxLen; omega)
            have h4 := has_any A4 n4 c4 G4 X wo (HRD4.out.below hbo) (by unfold maxLen; omega)
            have h6 := has_any A6 n6 c6 G6 X wo (HRD6.out.below hbo) (by unfold maxLen; omega)
            rw [p1] at h1
            rw [p4] at h4
            rw [p6] at h6
            have H1 := Lib.hid h1
            have H4 := Lib.hid h4
            have H6 := Lib.hid h6
            have HXE := Lib.hid hXe
            have HK1 := Lib.hid hk1
            have HK6 := Lib.hid hk6
            clear p1 p4 p6 h1 h4 h6 hc0 hXe hk1 hk6
            go_wp2_with fail
            refine H1.out.mono ?_
            rintro e w' ⟨rfl, rfl⟩
            go_wp2_with fail
            refine H6.out.mono ?_
            rintro e w' ⟨rfl, rfl⟩
            go_wp2_with fail
            refine H4.out.mono ?_
            rintro e w' ⟨rfl, rfl⟩
            clear H1 H4 H6
            have hk0 : X = 0 → k1 = true := fun h => by
              rw [HK1.out]; unfold okS
              rw [anyB_no]; rfl
              intro j _
              rw [← HXE.out, h]; unfold notP; rw [Nat.and_zero]; rfl
            have HK0 := Lib.hid hk0
            clear hk0
            have hX2 : X < 2 ^ n.toNat := by
              have h1 := HOK.out.2.2.1 i hlt
              have h2 := wf_u32 (HS.out i)
              have h3 : X = (S i).toNat := HXE.out
              have h4 : ((2 ^ n.toNat : Nat) : Int) = 2 ^ n.toNat := by push_cast; rfl
              omega
            obtain ⟨N, rfl⟩ : ∃ N : Nat, n = (N : Int) := ⟨n.toNat, by omega⟩
            rw [Int.toNat_natCast] at hX2
            have hN1 : 1 ≤ N := by omega
            have hN5 : N ≤ 5 := by omega
            have hhalf := half_of hN5 hX2
            have HXN := Lib.hid hX2
            clear hX2
            obtain ⟨PN, hPN⟩ : ∃ PN : Nat, PN = 2 ^ N := ⟨_, rfl⟩
            rw [← hPN] at hhalf
            have hp16 : PN ≤ 32 ∧ 2 ≤ PN := by
              rw [hPN]
              have : N = 1 ∨ N = 2 ∨ N = 3 ∨ N = 4 ∨ N = 5 := by omega
              rcases this with rfl | rfl | rfl | rfl | rfl <;> decide
            have hpi : (2 : Int) ^ N = (PN : Int) := by rw [hPN]; push_cast; rfl
            have hpm : (2 : Int) ^ N % 4294967296 = (PN : Int) := by rw [hpi]; omega
            have HPN := Lib.hid hPN
            have HPI := Lib.hid hpi
            have HHF := Lib.hid hhalf
            clear hPN hpi hhalf
            have hz : (((X : Int) == 0) = true ∧ ((X : Int) != 0) = false ∧ X = 0 ∧ k1 = true) ∨ (((X : Int) == 0) = false ∧ ((X : Int) != 0) = true ∧ X ≠ 0) := by
              by_cases e : X = 0
              · exact .inl ⟨by simp [e], by simp [e], e, HK0.out e⟩
              · exact .inr ⟨by simp [e], by simp [e], e⟩
            clear HK0 HK1 HK6
            rcases hz with ⟨q0, q1, hx0, rfl⟩ | ⟨q0, q1, hx0⟩
            all_goals (have HX0 := Lib.hid hx0; clear hx0)
            all_goals (try cases k1)
            all_goals cases k6
            all_goals
              go_wp2_with fail
              go_loopw [19, 20] (fun s19 s20 wr => ∃ c h : Nat, c ≤ PN ∧ h ≤ c ∧ s20 = .int .u32 (c : Nat) ∧ s19 = .int .i64 (h : Nat) ∧ Hid (h = halfN X c) ∧ Below w6.heap.size w6 wr) (fun _ s20 _ => PN - (intOf s20).toNat)
              case atStart => exact ⟨0, 0, by omega, by omega, rfl, rfl, Lib.hid rfl, hbo⟩
              case round =>
                clear hbo
                obtain ⟨wi, rfl⟩ : ∃ wi : World, wi = wr := ⟨_, rfl⟩
                obtain ⟨c, h, hc, hh, rfl, rfl, HC, hbi⟩ := hrel
                by_cases hlc : c < PN
                · have hc2 : c < 2 ^ N := by rw [← HPN.out]; exact hlc
                  have HC2 := Lib.hid hc2
                  clear hc2
                  go_wp2_with fail
                  refine (sieve1_any N _ _ X c _ hN1 hN5 HXN.out HC2.out ((Rd.one wi _ _).alloc _) (rd_one2 wi _ _ _)).mono ?_
                  rintro e wn' ⟨⟨A', cn, cc, rfl, hcn, HN⟩, hbn⟩
                  have HBN := Lib.hid (hbi.trans ((((Below.refl _ _).alloc (Nat.le_refl _) _).alloc (by simp) _).trans (hbn.mono (by simp; omega))|>.mono hbi.size))
                  clear hbn hbi
                  go_wp2_with fail
                  go_roundw
                  case rel => exact ⟨c + 1, h + cn, by omega, by omega, by go_num, by go_num, Lib.hid (by rw [HN.out, ← HC.out]), HBN.out⟩
                  case measure => simp [intOf]; omega
                · obtain rfl : c = PN := by omega
                  have hw64 : wrap64 ((2 : Int) ^ N) = (c : Int) := by rw [HPI.out]; exact IntWalk.wrap64_in _ (by omega)
                  have hf0 : X = 0 → h = c := fun e => by rw [HC.out]; exact HHF.out.1 e
                  have hf1 : X ≠ 0 → 2 * h = c := fun e => by rw [HC.out]; exact HHF.out.2 e
                  first
                    | (have q2 : ((h : Int) != wrap64 ((2 : Int) ^ N)) = false := by rw [hw64, hf0 HX0.out]; exact bne_self_eq_false _)
                    | (have q2 : ((2 * (h : Int)) != wrap64 ((2 : Int) ^ N)) = false := by have h2 := hf1 HX0.out; rw [hw64, ← h2, Int.natCast_mul]; exact bne_self_eq_false _)
                  clear hf0 hf1 hw64
                  go_wp2_with fail
                  go_roundw
                  case rel => exact ⟨i + 1, by omega, by go_num, hbi⟩
                  case measure => simp [intOf]; omega
          · obtain rfl : i = m := by omega
            go_wp2_with fail
            go_ret
            exact ⟨rfl, HB6.out.trans (hbo.mono HB6.out.size)⟩
      · exact absurd ⟨HOK.out, qok_right HQ4.out⟩ hno6
    · have hne : (x4 != 0) = true := by simp [hx4]
      clear hcn1 hsv1 hrd1 hqk1 hok1 HC1 hno4
      go_wp2_with fail
      all_goals
        go_ret
        exact ⟨rfl, HB4.out⟩
  · have hne : (x1 != 0) = true := by simp [hx1]
    clear hcase4 hno1 HC1
    go_wp2_with fail
    go_ret
    exact ⟨rfl, HB4.out⟩
end Go.Proofs.Ytmnleblbandghaa.loneSieve
