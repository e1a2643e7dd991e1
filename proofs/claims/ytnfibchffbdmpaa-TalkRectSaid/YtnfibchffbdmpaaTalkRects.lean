/- talk.Rects: what it computes. Condition: the rows read as told. -/
import Derived.Test.YtnfibchffbdmpaaTalkTop
import Derived.Test.YtnfibchffbdmpaaRectDef
import Derived.Test.YtnfibchffbdmpaaApp
import Derived.BigQuiet
import Derived.IntWalk
namespace Go.Proofs.Ytnfibchffbdmpaa
open Go.ChangeShapes Go.WideShapes Go.ChangeAt Go.RowKit
set_option linter.unusedVariables false
set_option linter.unusedSimpArgs false
theorem EUt : Elem Try.prog 49 35 1 8 := Elem.of Try.underlying49 (by kernel_rfl : (Try.prog.info? 35).map (fun i => (i.zero, i.size, i.bytes)) = some (some (.int .u64 0), 1, 8)) rfl (by omega)
def tbB (R : Nat → SB) (i j : Nat) : Bool := (R i).f j
theorem list_app {W : World} {B sc : Nat} {S : Option Addr} {L : List Nat} {x : Nat} {D : Nat → Value} (h : Own W B 35 1 S (L.length + 1) sc (L.length + 1) (cat L.length (fun q => .int .u64 (L.getD q 0 : Nat)) D)) (hD : D 0 = .int .u64 (x : Nat)) : Own W B 35 1 S (L ++ [x]).length sc (L ++ [x]).length (fun q => .int .u64 ((L ++ [x]).getD q 0 : Nat)) := by
  rw [List.length_append]
  refine h.congr fun q hq => ?_
  rcases Nat.lt_or_ge q L.length with l | l
  · rw [cat_lt l, List.getD_eq_getElem?_getD, List.getD_eq_getElem?_getD, List.getElem?_append_left l]
  · obtain rfl : q = L.length := by omega
    rw [cat_ge (Nat.le_refl _), Nat.sub_self, hD, List.getD_eq_getElem?_getD, List.getElem?_concat_length]
    rfl
set_option maxRecDepth 100000 in
set_option maxHeartbeats 8000000 in
theorem rects_any (A : Option Addr) (n c : Nat) (R : Nat → SB) (v : Bool) (w : World) (h : GrT w A n R) (hn : n ≤ maxLen) :
    Calls Try.prog 8 #[.slice A n c, .bool v] w fun e w' => e = .returned (.tuple #[.int .i64 (if tkE n R = 0 then (reQ (plQ (tbB R) v (R 0).n n) (R 0).n n : Nat) else 0), .int .i64 (tkE n R)]) ∧ Below w.heap.size w w' := by
  have H := Lib.hid h
  have HN := Lib.hid hn
  obtain ⟨x, hx⟩ : ∃ x, x = tkE n R := ⟨_, rfl⟩
  have HX := Lib.hid hx
  have hz := fun (h0 : x = 0) => tkE_zero (n := n) (R := R) (by rw [← hx]; exact h0)
  rw [← hx]
  have hnx := hn
  unfold maxLen at hnx
  clear h hn
  by_cases hx0 : x = 0
  · obtain ⟨⟨n1, n4⟩, ⟨m1, m4⟩, hlen⟩ := hz hx0
    obtain ⟨m, hmm⟩ : ∃ mm, mm = (R 0).n := ⟨_, rfl⟩
    rw [← hmm] at m1 m4 hlen
    have HL := Lib.hid hlen
    rw [← hmm]
    obtain ⟨T, hT⟩ : ∃ T : Nat, T = reQ (plQ (tbB R) v m n) m n := ⟨_, rfl⟩
    have HT := Lib.hid hT
    rw [← hT]
    subst hx0
    obtain ⟨rB, rO, rfl, hAlt, hc0⟩ := H.out.1.at_ (show 0 < n by omega)
    have HM0 : Hid ((R 0).n = m) := Lib.hid hmm.symm
    clear hx hz hlen hmm hT
    go_enter Try.func8, Try.ntmps8
    go_wp2_with fail
    refine (wrongT_any _ n c R w H.out HN.out).mono ?_
    rintro e w1 ⟨rfl, hb1⟩
    rw [← HX.out]
    have HB1 := Lib.hid hb1
    have HG1 := Lib.hid (H.out.below hb1)
    have hc1 : w1.cell? ⟨rB, rO, none⟩ = some (.slice (R 0).A m (R 0).c) := by
      have := (hb1.cell (p := ⟨rB, rO, none⟩) hAlt).trans hc0
      rw [this]
      show some (Value.slice (R 0).A (R 0).n (R 0).c) = _
      rw [HM0.out]
    clear hb1 hc0
    go_wp2_with fail
    clear hc1
    go_loop [8, 35] (fun s8 s35 => ∃ (i P : Nat), i ≤ n ∧ P < 65536 ∧ s8 = .int .u64 (P : Nat) ∧ s35 = .int .i64 (i : Nat) ∧ Hid (P = plQ (tbB R) v m i)) (fun _ s35 => n - (intOf s35).toNat)
    case atStart => exact ⟨0, 0, Nat.zero_le _, by omega, rfl, rfl, Lib.hid rfl⟩
    case round =>
      obtain ⟨i, P, hi, hP, rfl, rfl, HP⟩ := hrel
      by_cases hin : i < n
      · have hAc : w1.cell? ⟨rB, rO + i, none⟩ = some (.slice (R i).A (R i).n (R i).c) := by
          obtain ⟨b', o', e, _, hc⟩ := HG1.out.1.at_ hin
          cases e; exact hc
        rw [HL.out i hin] at hAc
        have hgi := (HG1.out.2 i hin).1
        rw [HL.out i hin] at hgi
        obtain ⟨yA, hyA⟩ : ∃ y, y = (R i).A := ⟨_, rfl⟩
        obtain ⟨yc, hyc⟩ : ∃ y, y = (R i).c := ⟨_, rfl⟩
        rw [← hyA, ← hyc] at hAc
        rw [← hyA] at hgi
        have hq0 := mi_le2 m4 n4 hin
        obtain ⟨q0, hq0e⟩ : ∃ q, q = m * i := ⟨_, rfl⟩
        rw [← hq0e] at hq0
        have hqw : IntKind.i64.wrap ((m : Int) * (i : Int)) = (q0 : Int) := by rw [show (m : Int) * (i : Int) = (q0 : Int) by rw [hq0e]; exact (Int.natCast_mul m i).symm]; exact IntWalk.i64_in _ (by omega)
        have HGI := Lib.hid hgi
        have HQ0 := Lib.hid hq0e
        have hpl : ∀ k, k ≤ m → (P ||| rowQ (tbB R) v m i k) < 65536 := fun k hk => by
          have := Nat.or_lt_two_pow (n := 16) (show P < 2 ^ 16 by omega) (row_lt (f := tbB R) (v := v) m4 n4 hin hk)
          omega
        have HPL := Lib.hid hpl
        clear hgi hyA hyc hq0e hpl
        go_wp2_with fail
        go_loop [8, 42] (fun s8 s42 => ∃ (j Q : Nat), j ≤ m ∧ Q < 65536 ∧ s8 = .int .u64 (Q : Nat) ∧ s42 = .int .i64 (j : Nat) ∧ Hid (Q = P ||| rowQ (tbB R) v m i j)) (fun _ s42 => m - (intOf s42).toNat)
        case atStart => exact ⟨0, P, Nat.zero_le _, hP, rfl, rfl, Lib.hid (Nat.or_zero P).symm⟩
        case round =>
          clear hAc
          obtain ⟨j, Q, hj, hQ, rfl, rfl, HQ⟩ := hrel
          by_cases hjm : j < m
          · obtain ⟨b2, o2, hA2, hb2, hcj⟩ := HGI.out.at_ hjm
            obtain rfl : yA = some ⟨b2, o2, none⟩ := hA2
            have hq16 : q0 + j < 16 := by rw [HQ0.out]; exact mi_le m4 n4 hin hjm
            have hnx2 : P ||| rowQ (tbB R) v m i (j + 1) = Q ||| cellQ (tbB R) v m i j := by
              rw [HQ.out]
              show P ||| (rowQ (tbB R) v m i j ||| cellQ (tbB R) v m i j) = _
              exact (Nat.or_assoc _ _ _).symm
            have hlt := HPL.out (j + 1) (by omega)
            have hcq : cellQ (tbB R) v m i j = if (R i).f j = v then 2 ^ (q0 + j) else 0 := by rw [HQ0.out]; rfl
            obtain ⟨bv, hbv⟩ : ∃ b, b = (R i).f j := ⟨_, rfl⟩
            rw [← hbv] at hcj hcq
            clear hbv
            by_cases hbe : bv = v
            · subst hbe
              rw [if_pos rfl] at hcq
              rw [hcq] at hnx2
              have HNX := Lib.hid hnx2
              have HO1 := Lib.hid (or1U hQ hq16)
              have qb : (bv == bv) = true := by simp
              have HLT := Lib.hid hlt
              clear hnx2 hcq hlt
              go_wp2_with fail
              go_round
              case rel => exact ⟨j + 1, _, by omega, HLT.out, by rw [HO1.out, HNX.out], by go_num, Lib.hid rfl⟩
              case measure => simp [intOf]; omega
            · have qb : (bv == v) = false := by cases bv <;> cases v <;> first | rfl | exact absurd rfl hbe
              rw [if_neg hbe] at hcq
              rw [hcq, Nat.or_zero] at hnx2
              have HNX := Lib.hid hnx2
              clear hnx2 hcq hlt
              go_wp2_with fail
              go_round
              case rel => exact ⟨j + 1, Q, by omega, hQ, rfl, by go_num, Lib.hid HNX.out.symm⟩
              case measure => simp [intOf]; omega
          · obtain rfl : j = m := by omega
            go_wp2_with fail
            go_round
            case rel => exact ⟨i + 1, Q, by omega, hQ, rfl, by go_num, Lib.hid (by rw [HQ.out, HP.out]; rfl)⟩
            case measure => simp [intOf]; omega
      · obtain rfl : i = n := by omega
        have HPD := HP
        clear HP
        obtain ⟨N1, N2, N3, N4⟩ := pow_u i (by omega)
        obtain ⟨M1, M2, M3, M4⟩ := pow_u m (by omega)
        have hN16 : 2 ^ i ≤ 16 := by have : 2 ^ i ≤ 2 ^ 4 := Nat.pow_le_pow_right (by decide) n4; omega
        obtain ⟨N, hN⟩ : ∃ N, N = 2 ^ i := ⟨_, rfl⟩
        rw [← hN] at N1 N3 N4 hN16
        have HNN := Lib.hid hN
        have HN1 := Lib.hid N1
        have HM2 := Lib.hid M2
        clear N1 N2 M1 M2 N4 M4 hN
        have hcle := fun s k => col_le (P := P) (m := m) (s := s) k
        have hm16 : 2 ^ m ≤ 16 := by have : 2 ^ m ≤ 2 ^ 4 := Nat.pow_le_pow_right (by decide) m4; omega
        have HCLE : Hid (∀ s k, colQ P m s k < 65536) := Lib.hid fun s k => by have := hcle s k; omega
        have HM16 := Lib.hid hm16
        clear hcle hm16 M3
        go_wp2_with fail
        go_loopw [13, 14] (fun s13 s14 wr => ∃ (s : Nat) (S : Option Addr) (sc : Nat) (L : List Nat), 1 ≤ s ∧ s ≤ N ∧ L.length ≤ 15 ∧ s13 = .slice S L.length sc ∧ s14 = .int .u64 (s : Nat) ∧ Hid (L = rectsQ P m i (s - 1)) ∧ Hid (Own wr w.heap.size 35 1 S L.length sc L.length (fun q => .int .u64 (L.getD q 0 : Nat))) ∧ Hid (Below w.heap.size w wr)) (fun _ s14 _ => N - (intOf s14).toNat)
        case atStart => exact ⟨1, none, 0, [], Nat.le_refl _, by omega, by decide, rfl, rfl, Lib.hid rfl, Lib.hid (Own.nil _ _ _ _ _), HB1⟩
        case round =>
          obtain ⟨wo, rfl⟩ : ∃ wo : World, wo = wr := ⟨_, rfl⟩
          obtain ⟨s, S, sc, L, hs1, hsN, hL15, rfl, rfl, HLL, HO, HB⟩ := hrel
          by_cases hsn : s < N
          · have q1 : decide ((s : Int) < IntKind.u64.wrap (2 ^ i)) = true := decide_eq_true (by rw [HN1.out]; omega)
            have hs16 : s < 16 := by omega
            go_wp2_with fail
            go_loopw [15, 72] (fun s15 s72 wr => ∃ (k C : Nat), k ≤ i ∧ C < 65536 ∧ s15 = .int .u64 (C : Nat) ∧ s72 = .int .i64 (k : Nat) ∧ Hid (C = colQ P m s k) ∧ Hid (Own wr w.heap.size 35 1 S L.length sc L.length (fun q => .int .u64 (L.getD q 0 : Nat))) ∧ Hid (Below w.heap.size w wr)) (fun _ s72 _ => i - (intOf s72).toNat)
            case atStart => exact ⟨0, 2 ^ m - 1, Nat.zero_le _, by have := HM16.out; omega, by rw [HM2.out], rfl, Lib.hid rfl, HO, HB⟩
            case round =>
              clear HO HB
              obtain ⟨wi, rfl⟩ : ∃ wi : World, wi = wr := ⟨_, rfl⟩
              obtain ⟨k, C, hk, hC, rfl, rfl, HC, HO, HB⟩ := hrel
              by_cases hki : k < i
              · have hbt := bitU (p := s) (k := k) (by omega)
                have hq0 := mi_le2 m4 n4 hki
                obtain ⟨q0, hq0e⟩ : ∃ q, q = m * k := ⟨_, rfl⟩
                rw [← hq0e] at hq0
                have hqw : IntKind.i64.wrap ((m : Int) * (k : Int)) = (q0 : Int) := by rw [show (m : Int) * (k : Int) = (q0 : Int) by rw [hq0e]; exact (Int.natCast_mul m k).symm]; exact IntWalk.i64_in _ (by omega)
                have hcs : colQ P m s (k + 1) = if hbT s k = true then C &&& (P / 2 ^ q0 &&& (2 ^ m - 1)) else C := by rw [hq0e, HC.out]; rfl
                have HA2 := Lib.hid (and2U (q := q0) hC hP m4)
                have hcl := HCLE.out s (k + 1)
                cases hb : hbT s k with
                | true =>
                  rw [hb, if_pos rfl] at hbt hcs
                  have HCS := Lib.hid hcs
                  have HCL := Lib.hid hcl
                  clear hb hcs hcl hq0e
                  go_wp2_with fail
                  go_quiet (fail)
                  go_wp2_with fail
                  go_roundw
                  case rel => exact ⟨k + 1, _, by omega, HCL.out, by rw [HA2.out, HCS.out], by go_num, Lib.hid rfl, Lib.hid (HO.out.drewN nq), Lib.hid (below_drewN HB.out nq)⟩
                  case measure => simp [intOf]; omega
                | false =>
                  rw [hb, if_neg (by decide)] at hbt hcs
                  have HCS := Lib.hid hcs
                  clear hb hcs hcl hq0e
                  go_wp2_with fail
                  go_roundw
                  case rel => exact ⟨k + 1, C, by omega, hC, rfl, by go_num, Lib.hid HCS.out.symm, HO, HB⟩
                  case measure => simp [intOf]; omega
              · obtain rfl : k = i := by omega
                have hCm : C ≤ 2 ^ m - 1 := by rw [HC.out]; exact col_le k
                have HCM := Lib.hid hCm
                clear hCm
                go_wp2_with fail
                go_loop [17, 94] (fun s17 s94 => ∃ (g X : Nat), g ≤ k ∧ X < 65536 ∧ s17 = .int .u64 (X : Nat) ∧ s94 = .int .i64 (g : Nat) ∧ Hid (X = rcQ C m s g)) (fun _ s94 => k - (intOf s94).toNat)
                case atStart => exact ⟨0, 0, Nat.zero_le _, by omega, rfl, rfl, Lib.hid rfl⟩
                case round =>
                  obtain ⟨g, X, hg, hX, rfl, rfl, HXX⟩ := hrel
                  by_cases hgk : g < k
                  · have hbt := bitU (p := s) (k := g) (by omega)
                    have hq0 := mi_le2 m4 n4 hgk
                    obtain ⟨q0, hq0e⟩ : ∃ q, q = m * g := ⟨_, rfl⟩
                    have hsl := shl_lt m4 n4 hgk HCM.out
                    rw [← hq0e] at hq0 hsl
                    have hqw : IntKind.i64.wrap ((m : Int) * (g : Int)) = (q0 : Int) := by rw [show (m : Int) * (g : Int) = (q0 : Int) by rw [hq0e]; exact (Int.natCast_mul m g).symm]; exact IntWalk.i64_in _ (by omega)
                    have hcs : rcQ C m s (g + 1) = X ||| (if hbT s g = true then C * 2 ^ q0 else 0) := by rw [hq0e, HXX.out]; rfl
                    have hrl : rcQ C m s (g + 1) < 65536 := rc_lt m4 n4 (show g + 1 ≤ k by omega) HCM.out
                    cases hb : hbT s g with
                    | true =>
                      rw [hb, if_pos rfl] at hbt hcs
                      have HA2 := Lib.hid (or2U hX (q := q0) (C := C) (by omega))
                      have HCS := Lib.hid hcs
                      have HRL := Lib.hid hrl
                      clear hb hcs hq0e hrl hsl
                      go_wp2_with fail
                      go_round
                      case rel => exact ⟨g + 1, _, by omega, HRL.out, by rw [HA2.out, HCS.out], by go_num, Lib.hid rfl⟩
                      case measure => simp [intOf]; omega
                    | false =>
                      rw [hb, if_neg (by decide)] at hbt hcs
                      rw [Nat.or_zero] at hcs
                      have HCS := Lib.hid hcs
                      clear hb hcs hq0e hrl hsl
                      go_wp2_with fail
                      go_round
                      case rel => exact ⟨g + 1, X, by omega, hX, rfl, by go_num, Lib.hid HCS.out.symm⟩
                      case measure => simp [intOf]; omega
                  · obtain rfl : g = k := by omega
                    have hrs : rectsQ P m g (s + 1 - 1) = if C ≠ 0 then L ++ [X] else L := by
                      rw [HXX.out, HC.out, HLL.out]
                      obtain ⟨s', rfl⟩ : ∃ s', s = s' + 1 := ⟨s - 1, by omega⟩
                      rfl
                    by_cases hC0 : C = 0
                    · rw [if_neg (fun h => h hC0)] at hrs
                      have HRS := Lib.hid hrs
                      subst hC0
                      clear hrs
                      go_wp2_with fail
                      go_roundw
                      case rel => exact ⟨s + 1, S, sc, L, by omega, by omega, hL15, rfl, by go_num, Lib.hid HRS.out.symm, HO, HB⟩
                      case measure => simp [intOf]; omega
                    · rw [if_pos hC0] at hrs
                      have hll : L.length + 1 ≤ 15 := by
                        have := rects_len P m g (s - 1)
                        rw [← HLL.out] at this
                        omega
                      have HRS := Lib.hid hrs
                      have qc : ((C : Int) != 0) = true := by rw [bne_iff_ne]; omega
                      have hsz := HB.out.size
                      clear hrs
                      go_wp2_with (at_builtin; refine wpList_app _ rfl (.tmp 112) (.tmp 114) 49 rfl EUt rfl (HO.out.alloc _) rfl (l := 1) (by omega) (Rd.one _ (.int .u64 (X : Nat)) _) (fun _ _ => rfl) (by unfold maxLen; omega) (by omega) (by simp; omega) (L.length + 1) (L.length + 1) rfl rfl ?_; intro A2 ac2 w6 hown2 hg2 hat2 hbl2; have HOW := Lib.hid hown2; have HBL := Lib.hid ((HB.out.alloc hsz _).trans hbl2); clear hown2 hg2 hat2 hbl2)
                      go_roundw
                      case rel => exact ⟨s + 1, A2, ac2, L ++ [X], by omega, by omega, by rw [List.length_append]; exact hll, by rw [List.length_append]; rfl, by go_num, Lib.hid HRS.out.symm, Lib.hid (list_app HOW.out rfl), HBL⟩
                      case measure => simp [intOf]; omega
          · obtain rfl : s = N := by omega
            have q1 : decide ((s : Int) < IntKind.u64.wrap (2 ^ i)) = false := decide_eq_false (by rw [HN1.out]; omega)
            have HPO := Lib.hid (onesW_any P hP wo)
            have hL2 : rectsQ P m i (2 ^ i - 1) = L := by rw [← HNN.out]; exact HLL.out.symm
            have hTT : T = bestQ P L (2 ^ L.length) := by rw [HT.out, ← HPD.out]; unfold reQ; rw [hL2]
            obtain ⟨K1, _, K3, K4⟩ := pow_u L.length (by omega)
            have hrd := HO.out.rd
            have hLlt : ∀ x, x ∈ L → x < 2 ^ 16 := by rw [HLL.out]; exact rects_lt m4 n4 _
            have hK15 : 2 ^ L.length ≤ 32768 := by have : 2 ^ L.length ≤ 2 ^ 15 := Nat.pow_le_pow_right (by decide) hL15; omega
            obtain ⟨K, hK⟩ : ∃ K, K = 2 ^ L.length := ⟨_, rfl⟩
            rw [← hK] at K1 K3 hK15 hTT
            have HK1 := Lib.hid K1
            have HTT := Lib.hid hTT
            have HRD := Lib.hid hrd
            have HLT := Lib.hid hLlt
            have HBO := Lib.hid (best_le P L)
            clear K1 K4 hTT hrd hLlt hK hL2
            go_wp2_with fail
            refine HPO.out.mono ?_
            rintro e w2 ⟨rfl, rfl⟩
            go_wp2_with fail
            rw [HK1.out]
            go_loop [19, 121] (fun s19 s121 => ∃ (p bn : Nat), p ≤ K ∧ bn ≤ 16 ∧ s19 = .int .i64 (bn : Nat) ∧ s121 = .int .u64 (p : Nat) ∧ Hid (bn = bestQ P L p)) (fun _ s121 => K - (intOf s121).toNat)
            case atStart => exact ⟨0, popN 16 P, Nat.zero_le _, pop_le 16 P, rfl, rfl, Lib.hid rfl⟩
            case round =>
              obtain ⟨p, bn, hp, hbn, rfl, rfl, HBN⟩ := hrel
              by_cases hpK : p < K
              · go_wp2_with fail
                go_loop [21, 126] (fun s21 s126 => ∃ (g X : Nat), g ≤ L.length ∧ X < 65536 ∧ s21 = .int .u64 (X : Nat) ∧ s126 = .int .i64 (g : Nat) ∧ Hid (X = pickQ L p g)) (fun _ s126 => L.length - (intOf s126).toNat)
                case atStart => exact ⟨0, 0, Nat.zero_le _, by omega, rfl, rfl, Lib.hid rfl⟩
                case round =>
                  obtain ⟨g, X, hg, hX, rfl, rfl, HXX⟩ := hrel
                  by_cases hgl : g < L.length
                  · obtain ⟨b2, o2, hA2, hb2, hcj⟩ := HRD.out.at_ hgl
                    obtain rfl : S = some ⟨b2, o2, none⟩ := hA2
                    have hbt := bitU (p := p) (k := g) (by omega)
                    have hgd := getD_lt HLT.out g
                    have hcs : pickQ L p (g + 1) = X ||| (if hbT p g = true then L.getD g 0 else 0) := by rw [HXX.out]; rfl
                    have hpl : pickQ L p (g + 1) < 65536 := pick_lt HLT.out p (g + 1)
                    obtain ⟨y, hy⟩ : ∃ y, y = L.getD g 0 := ⟨_, rfl⟩
                    rw [← hy] at hgd hcs
                    have hcj2 : wo.cell? ⟨b2, o2 + g, none⟩ = some (.int .u64 (y : Nat)) := by rw [hcj, hy]
                    have HPL := Lib.hid hpl
                    clear hcj hy hpl
                    cases hb : hbT p g with
                    | true =>
                      rw [hb, if_pos rfl] at hbt hcs
                      have HA2 := Lib.hid (orU X y (by omega) (by omega))
                      have HCS := Lib.hid hcs
                      clear hb hcs
                      go_wp2_with fail
                      go_round
                      case rel => exact ⟨g + 1, _, by omega, HPL.out, by rw [HA2.out, HCS.out], by go_num, Lib.hid rfl⟩
                      case measure => simp [intOf]; omega
                    | false =>
                      rw [hb, if_neg (by decide)] at hbt hcs
                      rw [Nat.or_zero] at hcs
                      have HCS := Lib.hid hcs
                      clear hb hcs
                      go_wp2_with fail
                      go_round
                      case rel => exact ⟨g + 1, X, by omega, hX, rfl, by go_num, Lib.hid HCS.out.symm⟩
                      case measure => simp [intOf]; omega
                  · obtain rfl : g = L.length := by omega
                    have hbs : bestQ P L (p + 1) = if X = P then min bn (popN 16 p) else bn := by rw [HXX.out, HBN.out]; rfl
                    by_cases hXP : X = P
                    · rw [if_pos hXP] at hbs
                      have HPP := Lib.hid (onesW_any p (by omega) wo)
                      have hpp := pop_le 16 p
                      have HBS := Lib.hid hbs
                      have qx : ((X : Int) == (P : Int)) = true := by rw [beq_iff_eq]; omega
                      obtain ⟨pv, hpv⟩ : ∃ x, x = popN 16 p := ⟨_, rfl⟩
                      rw [← hpv] at HPP hpp HBS
                      clear hbs hpv
                      go_wp2_with fail
                      refine HPP.out.mono ?_
                      rintro e w3 ⟨rfl, rfl⟩
                      go_wp2_with fail
                      go_round
                      case rel => exact ⟨p + 1, min bn pv, by omega, by omega, congrArg (Value.int .i64) (by split <;> omega), by go_num, Lib.hid HBS.out.symm⟩
                      case measure => simp [intOf]; omega
                    · rw [if_neg hXP] at hbs
                      have HBS := Lib.hid hbs
                      have qx : ((X : Int) == (P : Int)) = false := by rw [beq_eq_false_iff_ne]; omega
                      clear hbs
                      go_wp2_with fail
                      go_round
                      case rel => exact ⟨p + 1, bn, by omega, hbn, rfl, by go_num, Lib.hid HBS.out.symm⟩
                      case measure => simp [intOf]; omega
              · obtain rfl : p = K := by omega
                go_wp2_with fail
                go_ret2
                exact ⟨by rw [HTT.out, ← HBN.out]; rfl, HB.out⟩
  · go_enter Try.func8, Try.ntmps8
    go_wp2_with fail
    refine (wrongT_any A n c R w H.out HN.out).mono ?_
    rintro e w1 ⟨rfl, hb1⟩
    have HB1 := Lib.hid hb1
    rw [← HX.out]
    clear hb1 hx
    go_wp2_with fail
    go_ret2
    exact ⟨rfl, HB1.out⟩
end Go.Proofs.Ytnfibchffbdmpaa
