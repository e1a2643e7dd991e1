/- PairsTurn: both sums stay when the square is turned round; with two rows exchanged the one stays, the other is negated. No condition. -/
import Derived.Test.YtenlnkcmabphfaaPairsTd
namespace Go.Proofs.Ytenlnkcmabphfaa.pairsTurn
open Go.ChangeShapes Go.WideShapes Go.ChangeAt Go.RowKit
set_option linter.unusedVariables false
set_option linter.unusedSimpArgs false
theorem sv_swap {n : Nat} {R V : Nat → SI} {p q : Nat} (hp : p < n) (hq : q < n) (hV : ∀ i, i < n → V i = R (if i = p then q else if i = q then p else i)) : svP 1 n V = svP 1 n R ∧ svP (-1) n V = if p = q then svP (-1) n R else -svP (-1) n R := by
  have hc : ∀ e, svP e n V = dt e n (fun i j => mtW R (if i = p then q else if i = q then p else i) j) := fun e => dt_congr e fun i hi j hj => by
    show (V i).f j = (R (if i = p then q else if i = q then p else i)).f j
    rw [hV i hi]
  by_cases e : p = q
  · subst e
    have hid : ∀ e, dt e n (fun i j => mtW R (if i = p then p else if i = p then p else i) j) = svP e n R := fun e => dt_congr e fun i hi j hj => by
      rw [show (if i = p then p else if i = p then p else i) = i by split <;> (try split) <;> omega]
    rw [hc, hc, hid, hid, if_pos rfl]
    exact ⟨rfl, rfl⟩
  · rw [hc, hc, dt_swp 1 (by decide) (mtW R) hp hq e, dt_swp (-1) (by decide) (mtW R) hp hq e, if_neg e]
    unfold svP
    constructor <;> omega
set_option maxRecDepth 100000 in
set_option maxHeartbeats 8000000 in
theorem walk (w : World) (A : Option Addr) (n c : Nat) (R : Nat → SI) (ai bi : Int) (h : Rd w A n (fun i => (R i).val)) (hg : ∀ i, (R i).good w) (hl : n ≤ c) (hm : c ≤ maxLen) (z : c * 24 ≤ 140737488351232)
    (wi : (Lit.int .u8 ai).wf = true) (wj : (Lit.int .u8 bi).wf = true) :
    Calls Try.prog 4 #[.slice A n c, .int .u8 ai, .int .u8 bi] w fun e w' => e = .returned (.bool true) ∧ Below w.heap.size w w' := by
  have hai : 0 ≤ ai ∧ ai ≤ 255 := by simp [Lit.wf, IntKind.min, IntKind.max, IntKind.signed, IntKind.bits] at wi; omega
  have hbi : 0 ≤ bi ∧ bi ≤ 255 := by simp [Lit.wf, IntKind.min, IntKind.max, IntKind.signed, IntKind.bits] at wj; omega
  have H : Hid (GrP w A n R) := Lib.hid ⟨h, fun i _ => hg i⟩
  have HNM : Hid (n ≤ maxLen) := Lib.hid (by omega)
  have hnx : n ≤ 9223372036854775807 := by unfold maxLen at hm; omega
  have HC1 := Lib.hid (ways_any A n c R w H.out HNM.out)
  have HC2 := Lib.hid fun X (hX : Below w.heap.size w X) => signed_any A n c R X (H.out.below hX) HNM.out
  have HC3 := Lib.hid fun X (hX : Below w.heap.size w X) => squaredP_any A n c R X (H.out.below hX) HNM.out
  obtain ⟨v, hv⟩ : ∃ v, v = pwE n R := ⟨_, rfl⟩
  obtain ⟨a, ha⟩ : ∃ a, a = (if v = 0 then dt 1 n (mtW R) else 0) := ⟨_, rfl⟩
  obtain ⟨b, hb⟩ : ∃ b, b = (if v = 0 then dt (-1) n (mtW R) else 0) := ⟨_, rfl⟩
  rw [← hv] at HC1 HC2 HC3
  rw [← ha] at HC1
  rw [← hb] at HC2
  have HV := Lib.hid hv
  have HA := Lib.hid ha
  have HB := Lib.hid hb
  clear h hg hl hm z wi wj hv ha hb
  go_enter Try.func4, Try.ntmps4
  go_wp2_with fail
  refine HC1.out.mono ?_
  rintro e w1 ⟨rfl, hb1⟩
  go_wp2_with fail
  refine (HC2.out w1 hb1).mono ?_
  rintro e w2 ⟨rfl, hb2⟩
  have hb2' := hb1.trans (hb2.mono hb1.size)
  have HB2 := Lib.hid hb2'
  have hsq := HC3.out w2 hb2'
  clear HC1 HC2 HC3 hb1 hb2 hb2'
  by_cases hv0 : v = 0
  · have HZ : Hid (pwE n R = 0) := Lib.hid (by rw [← HV.out]; exact hv0)
    have HA' : Hid (a = svP 1 n R) := Lib.hid (by rw [HA.out, if_pos hv0]; rfl)
    have HB' : Hid (b = svP (-1) n R) := Lib.hid (by rw [HB.out, if_pos hv0]; rfl)
    rw [show (v == 0) = true by rw [hv0]; rfl] at hsq
    have HSQ := Lib.hid hsq
    clear hsq HA HB HV
    subst hv0
    have hz := pwE_zero HZ.out
    obtain ⟨⟨n1, n6⟩, hlen, hval⟩ := hz
    have HLEN := Lib.hid hlen
    have HVAL := Lib.hid hval
    clear hlen hval
    have hda : -46080000000 ≤ a ∧ a ≤ 46080000000 := by rw [HA'.out]; exact sv_bd (.inl rfl) HZ.out
    have hdb : -46080000000 ≤ b ∧ b ≤ 46080000000 := by rw [HB'.out]; exact sv_bd (.inr rfl) HZ.out
    go_wp2_with fail
    refine HSQ.out.mono ?_
    rintro e w3 ⟨rfl, rfl⟩
    clear HSQ
    go_wp2_with fail
    refine (turned_any A n c R w2 (H.out.below HB2.out) HZ.out).mono ?_
    rintro e w3 ⟨S1, s1, r1, q1, rfl, g1, b3⟩
    have c1 := ways_ok (c := s1) g1 (td_ok HZ.out)
    rw [td_sv, ← HA'.out] at c1
    have HC1 := Lib.hid c1
    have HB3 := Lib.hid (HB2.out.trans (b3.mono HB2.out.size))
    clear g1 b3 c1
    go_wp2_with fail
    refine HC1.out.mono ?_
    rintro e w4 ⟨rfl, b4⟩
    have HB4 := Lib.hid (HB3.out.trans (b4.mono HB3.out.size))
    clear HC1 b4
    go_wp2_with fail
    refine (turned_any A n c R w4 (H.out.below HB4.out) HZ.out).mono ?_
    rintro e w5 ⟨S2, s2, r2, q2, rfl, g2, b5⟩
    have c2 := signed_ok (c := s2) g2 (td_ok HZ.out)
    rw [td_sv, ← HB'.out] at c2
    have HC2 := Lib.hid c2
    have HB5 := Lib.hid (HB4.out.trans (b5.mono HB4.out.size))
    clear g2 b5 c2
    go_wp2_with fail
    refine HC2.out.mono ?_
    rintro e w6 ⟨rfl, b6⟩
    have HB6 := Lib.hid (HB5.out.trans (b6.mono HB5.out.size))
    clear HC2 b6
    obtain ⟨p, hp⟩ : ∃ k : Nat, ai % (n : Int) = (k : Int) := ⟨(ai % (n : Int)).toNat, by have := Int.emod_nonneg ai (show (n : Int) ≠ 0 by omega); omega⟩
    have hpn : p < n := by have := Int.emod_lt_of_pos ai (show (0 : Int) < n by omega); omega
    obtain ⟨q, hq⟩ : ∃ k : Nat, bi % (n : Int) = (k : Int) := ⟨(bi % (n : Int)).toNat, by have := Int.emod_nonneg bi (show (n : Int) ≠ 0 by omega); omega⟩
    have hqn : q < n := by have := Int.emod_lt_of_pos bi (show (0 : Int) < n by omega); omega
    have HP := Lib.hid hp
    have HQ := Lib.hid hq
    clear hp hq
    obtain ⟨rB, rO, rfl, hAlt, _⟩ := H.out.1.at_ (show 0 < n by omega)
    have HRM := Lib.hid ((H.out.below HB6.out).1.alloc (.cells #[] 24))
    go_upto_region 10 with (at_builtin; refine wpList_app _ rfl (.tmp 63) (.tmp 64) 22 rfl EMt rfl (Own.empty w6 w6.heap.size 24 1 (fun _ => .slice none 0 0) (Nat.le_refl _)) rfl (l := n) (by omega) HRM.out (fun _ _ => rfl) (by unfold maxLen; omega) (by omega) (by simp) n n (by omega) (by omega) ?_; intro OA oc w7 hown2 hg2 hat2 hbl2; have HOW := Lib.hid hown2; have HB7 := Lib.hid (((Below.refl w6.heap.size w6).alloc (Nat.le_refl _) (.cells #[] 24)).trans hbl2); clear hown2 hg2 hat2 hbl2)
    rw [HP.out, HQ.out]
    obtain ⟨og, rfl, hcp⟩ := Cpy.of (V := R) HOW.out (by omega) fun q hq => by rw [cat_ge (Nat.zero_le _)]; rfl
    have HB7w := Lib.hid (HB6.out.trans (HB7.out.mono HB6.out.size))
    have f1 := (hcp.cell hpn).1
    have f2 := (hcp.cell hpn).2
    have f3 := (hcp.cell hqn).1
    have f4 := (hcp.cell hqn).2
    have hcell : ∀ k, k < n → w7.cell? ⟨rB, rO + k, none⟩ = some (R k).val := fun k hk => by
      obtain ⟨b', o', e, _, hc⟩ := (H.out.below HB7w.out).1.at_ hk
      cases e; exact hc
    have f5 := hcell p hpn
    have f6 := hcell q hqn
    obtain ⟨yA, hyA⟩ : ∃ y, y = (R p).A := ⟨_, rfl⟩
    obtain ⟨yn, hyn⟩ : ∃ y, y = (R p).n := ⟨_, rfl⟩
    obtain ⟨yc, hyc⟩ : ∃ y, y = (R p).c := ⟨_, rfl⟩
    obtain ⟨zA, hzA⟩ : ∃ y, y = (R q).A := ⟨_, rfl⟩
    obtain ⟨zn, hzn⟩ : ∃ y, y = (R q).n := ⟨_, rfl⟩
    obtain ⟨zc, hzc⟩ : ∃ y, y = (R q).c := ⟨_, rfl⟩
    have ep : (R p).val = .slice yA yn yc := by rw [hyA, hyn, hyc]; rfl
    have eq : (R q).val = .slice zA zn zc := by rw [hzA, hzn, hzc]; rfl
    have HX1 := Lib.hid ((hcp.set p (R q)).set q (R p))
    have HX2 := Lib.hid ((hcp.set q (R p)).set p (R q))
    have HY1 := Lib.hid ((HB7w.out.setCell (p := ⟨og, p, none⟩) (by have := hcp.ge; have := HB6.out.size; show w.heap.size ≤ og; omega) (R q).val).setCell (p := ⟨og, q, none⟩) (by have := hcp.ge; have := HB6.out.size; show w.heap.size ≤ og; omega) (R p).val)
    have HY2 := Lib.hid ((HB7w.out.setCell (p := ⟨og, q, none⟩) (by have := hcp.ge; have := HB6.out.size; show w.heap.size ≤ og; omega) (R p).val).setCell (p := ⟨og, p, none⟩) (by have := hcp.ge; have := HB6.out.size; show w.heap.size ≤ og; omega) (R q).val)
    rw [ep, eq] at HX1 HX2 HY1 HY2
    rw [ep] at f1 f5
    rw [eq] at f3 f6
    clear hyA hyn hyc hzA hzn hzc ep eq hcell hcp HOW HRM
    obtain ⟨V, hV⟩ : ∃ V : Nat → SI, V = fun i => R (if i = p then q else if i = q then p else i) := ⟨_, rfl⟩
    have hlt : ∀ i, i < n → (if i = p then q else if i = q then p else i) < n := fun i hi => by split <;> (try split) <;> omega
    have pV : pwE n V = 0 := pwE_ok ⟨n1, n6⟩ (fun i hi => by rw [hV]; exact HLEN.out _ (hlt i hi)) fun i hi t ht => by rw [hV]; exact HVAL.out _ (hlt i hi) t ht
    have hsw := sv_swap (V := V) hpn hqn fun i _ => by rw [hV]
    have hx1 : Cpy ((w7.setCell ⟨og, p, none⟩ (.slice zA zn zc)).setCell ⟨og, q, none⟩ (.slice yA yn yc)) w6.heap.size og oc n V := by
      have hx := HX1.out
      rw [show (fun i => if i = q then R p else if i = p then R q else R i) = V by
        rw [hV]; funext i
        by_cases e1 : i = q
        · rw [if_pos e1]
          by_cases e2 : i = p
          · rw [if_pos e2, ← e1, e2]
          · rw [if_neg e2, if_pos e1]
        · rw [if_neg e1]
          by_cases e2 : i = p
          · rw [if_pos e2, if_pos e2]
          · rw [if_neg e2, if_neg e2, if_neg e1]] at hx
      exact hx
    have hgrp : ∀ W8, Cpy W8 w6.heap.size og oc n V → Below w.heap.size w W8 → ∀ X, Below W8.heap.size W8 X → GrP X (some ⟨og, 0, none⟩) n V := fun W8 hc hb X hX => ⟨(hc.below hX).rd, fun i hi => by
      rw [hV]; exact (H.out.below (hb.trans (hX.mono hb.size))).2 _ (hlt i hi)⟩
    have hcc : ∀ W8, Cpy W8 w6.heap.size og oc n V → Below w.heap.size w W8 → (∀ X, Below W8.heap.size W8 X → Calls Try.prog 13 #[.slice (some ⟨og, 0, none⟩) n oc] X fun e w' => e = .returned (.tuple #[.int .i64 a, .int .i64 0]) ∧ Below X.heap.size X w') ∧
        ∀ X, Below W8.heap.size W8 X → Calls Try.prog 14 #[.slice (some ⟨og, 0, none⟩) n oc] X fun e w' => e = .returned (.tuple #[.int .i64 (if p = q then b else -b), .int .i64 0]) ∧ Below X.heap.size X w' := fun W8 hc hb => by
      constructor
      · intro X hX
        have := ways_ok (c := oc) (hgrp W8 hc hb X hX) pV
        rw [hsw.1, ← HA'.out] at this
        exact this
      · intro X hX
        have := signed_ok (c := oc) (hgrp W8 hc hb X hX) pV
        rw [hsw.2, ← HB'.out] at this
        exact this
    have HCC := Lib.hid hcc
    have HX := Lib.hid hx1
    clear hx1 hgrp hcc hsw pV hlt hV HX1 HX2
    by_cases hpq : p = q
    · subst hpq
      have e := Option.some.inj (f5.symm.trans f6)
      injection e with e1 e2 e3
      subst e1
      subst e2
      subst e3
      clear f3 f4 f6
      go_region
      obtain ⟨W8, hW8⟩ : ∃ X, X = ((w7.setCell ⟨og, p, none⟩ (.slice yA yn yc)).setCell ⟨og, p, none⟩ (.slice yA yn yc)).drew := ⟨_, rfl⟩
      have hc8 : Cpy W8 w6.heap.size og oc n V := by rw [hW8]; exact HX.out.below (Below.refl _ _).drew
      have hb8 : Below w.heap.size w W8 := by rw [hW8]; exact HY1.out.drew
      rw [← hW8]
      have hcc := HCC.out W8 hc8 hb8
      rw [if_pos rfl] at hcc
      have HC1 := Lib.hid hcc.1
      have HC2 := Lib.hid hcc.2
      have HB8 := Lib.hid hb8
      clear hW8 hc8 hb8 hcc f1 f2 f5 HY1 HY2 HX HCC
      go_wp2_with fail
      refine (HC1.out W8 (Below.refl _ _)).mono ?_
      rintro e w9 ⟨rfl, b9⟩
      go_wp2_with fail
      refine (HC2.out w9 b9).mono ?_
      rintro e w10 ⟨rfl, b10⟩
      have HBE := Lib.hid (HB8.out.trans ((b9.trans (b10.mono b9.size)).mono HB8.out.size))
      clear b9 b10 HC1 HC2
      go_wp2_with fail
      go_ret
      exact ⟨rfl, HBE.out⟩
    · have hqp : ¬ q = p := fun e => hpq e.symm
      go_region
      obtain ⟨W8, hW8⟩ : ∃ X, X = ((w7.setCell ⟨og, p, none⟩ (.slice zA zn zc)).setCell ⟨og, q, none⟩ (.slice yA yn yc)).drew := ⟨_, rfl⟩
      have hc8 : Cpy W8 w6.heap.size og oc n V := by rw [hW8]; exact HX.out.below (Below.refl _ _).drew
      have hb8 : Below w.heap.size w W8 := by rw [hW8]; exact HY1.out.drew
      rw [← hW8]
      have hcc := HCC.out W8 hc8 hb8
      rw [if_neg hpq] at hcc
      have HC1 := Lib.hid hcc.1
      have HC2 := Lib.hid hcc.2
      have HB8 := Lib.hid hb8
      have n1 : ((p : Int) == (q : Int)) = false := by rw [beq_eq_false_iff_ne]; omega
      have n2 : ((p : Int) != (q : Int)) = true := by rw [bne_iff_ne]; omega
      clear hW8 hc8 hb8 hcc f1 f2 f5 f3 f4 f6 HY1 HY2 HX HCC
      go_wp2_with fail
      refine (HC1.out W8 (Below.refl _ _)).mono ?_
      rintro e w9 ⟨rfl, b9⟩
      go_wp2_with fail
      refine (HC2.out w9 b9).mono ?_
      rintro e w10 ⟨rfl, b10⟩
      have HBE := Lib.hid (HB8.out.trans ((b9.trans (b10.mono b9.size)).mono HB8.out.size))
      clear b9 b10 HC1 HC2
      go_wp2_with fail
      go_ret
      exact ⟨rfl, HBE.out⟩
  · have q1 : (v != 0) = true := by rw [bne_iff_ne]; exact hv0
    rw [show (v == 0) = false from beq_eq_false_iff_ne.2 hv0] at hsq
    have HSQ := Lib.hid hsq
    clear hsq hv0
    go_wp2_with fail
    refine HSQ.out.mono ?_
    rintro e w3 ⟨rfl, rfl⟩
    go_wp2_with fail
    go_ret
    exact ⟨rfl, HB2.out⟩
end Go.Proofs.Ytenlnkcmabphfaa.pairsTurn
