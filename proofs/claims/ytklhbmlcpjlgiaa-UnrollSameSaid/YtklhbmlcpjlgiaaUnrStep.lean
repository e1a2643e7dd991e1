/- (*unroll.build).step: one step on. Conditions: the builder lies as told. -/
import Derived.Test.YtklhbmlcpjlgiaaUnrUB
import Derived.Test.YtklhbmlcpjlgiaaHeldMore
import Derived.IntWalk
import Derived.BigQuiet
import Derived.Deep.RegionLaw
import Derived.Deep.DeepMust
import Derived.Deep.DeepCutAuto
namespace Go.Proofs.Ytklhbmlcpjlgiaa
open Go.ChangeShapes Go.WideShapes Go.ChangeAt Go.RowKit Go.Maps
set_option linter.unusedVariables false
set_option linter.unusedSimpArgs false
set_option maxRecDepth 100000 in
set_option maxHeartbeats 200000000 in
theorem ustep_any (w W : World) (bb n K st tc : Nat) (T : Option Addr) (F : Nat → Int) (SA AA : Option Addr) (sc ac : Nat) (RA : Nat → Option Addr) (Rc : Nat → Nat) (Sg : Nat → Int) (At : Nat → Nat → Int) (R : Nat → SI) (Hh Ss fb tch tqh : Gs → Nat) (Fb Fb' : Gs → Nat → Prop)
    (hU : UB w W bb n K st tc T F SA AA sc ac RA Rc Sg At) (hT : Tm w T st R) (hR2 : ∀ q, q < st → (R q).n = 2) (hG : Gt st 2 (TR R)) (hTG : TG K st (TR R) Hh Ss fb tch tqh) (hS : SemU F K st Sg At Hh Ss Fb) (hfb : ∀ g, fb g = 1 ↔ Fb g (Hh g)) (hF' : ∀ g c, c < K → (Fb' g c ↔ (Hh g = c ∧ Ss g < st ∧ TR R (Ss g) (3 * fb g) = 1) ∨ (¬ (Hh g = c ∧ Ss g < st) ∧ Fb g c)))
    (hn : n ≤ 5000) (hK : 1 ≤ K ∧ K ≤ 5) (hst : 1 ≤ st ∧ st ≤ 2) :
    Calls Try.prog 16 #[.pointer (some ⟨bb, 0, none⟩)] W (StR w W bb n K st tc T F tch tqh Fb') := by
  have HU := Lib.hid hU
  have HT := Lib.hid hT
  have HR2 := Lib.hid hR2
  have HG := Lib.hid hG
  have HTG := Lib.hid hTG
  have HS := Lib.hid hS
  have HFB := Lib.hid hfb
  have HF' := Lib.hid hF'
  have lbb := hU.bs.lt.1
  have r2 := hU.bs.cell (j := 2) (by omega) (by omega)
  have r5 := hU.bs.cell (j := 5) (by omega) (by omega)
  change _ = some (Value.int .i64 (st : Nat)) at r2
  change _ = some (Value.slice SA K sc) at r5
  obtain ⟨tb, to_, hTe, _, _⟩ := hT.1.at_ (show 0 < st by omega)
  have HTE := Lib.hid hTe
  clear hTe
  clear hU hT hR2 hG hTG hS hfb hF'
  obtain ⟨S, hSe⟩ : ∃ S, S = st + 1 := ⟨_, rfl⟩
  have HSE := Lib.hid hSe
  have hS3 : 2 ≤ S ∧ S ≤ 3 := by omega
  have wS : IntKind.i64.wrap ((st : Int) + 1) = (S : Int) := by rw [show (st : Int) + 1 = (S : Int) by omega]; exact IntWalk.i64_in _ (by omega)
  clear hSe
  have hmk := make70 K (by omega)
  obtain ⟨nb, hnb⟩ : ∃ b, b = W.heap.size := ⟨_, rfl⟩
  go_enter Try.func16, Try.ntmps16
  go_wp2_with fail
  go_region
  go_wp2_with fail
  obtain ⟨W1, hW1⟩ : ∃ W1, W1 = (W.alloc (.cells (madeCells #[.slice none 0 0] K) 50)).drew := ⟨_, rfl⟩
  have hb1 : Below W.heap.size W W1 := by rw [hW1]; exact ((Below.refl _ _).alloc (Nat.le_refl _) _).drew
  have hs1 : W1.heap.size = nb + 1 := by rw [hW1, hnb]; simp
  have hd1 : W1.rowIs nb 50 K (fun c => if c < 0 then .slice (some ⟨nb + 1 + c, 0, none⟩) S S else .slice none 0 0) := by
    have := World.rowIs_made W (.slice none 0 0) K 50
    rw [hW1, hnb]
    exact (this.congr (g := fun c => if c < 0 then .slice (some ⟨W.heap.size + 1 + c, 0, none⟩) S S else .slice none 0 0) fun c _ => by rw [if_neg (by omega)])
  have hbase : w.heap.size ≤ nb := by rw [hnb]; exact HU.out.bel.size
  have HB1 : Hid (BT W W1 bb w.heap.size n n K 0 F F (rrU st tc K sc ac T SA AA)) := Lib.hid ((BT.refl HU.out.bs).below hb1 (by omega))
  have HD1 := Lib.hid hd1
  have hmk2 := make50 S (by omega)
  have HW1 := Lib.hid hW1
  have HNB := Lib.hid hnb
  clear hW1 hb1 hd1 r2 r5 hmk hnb
  try rw [← HNB.out]
  try rw [← HW1.out]
  go_loopw [35] (fun s35 wr => ∃ t : Nat, t ≤ K ∧ s35 = .int .i64 (t : Nat) ∧ wr.heap.size = nb + 1 + t ∧ Hid (BT W wr bb w.heap.size n n K 0 F F (rrU st tc K sc ac T SA AA)) ∧ Hid (wr.rowIs nb 50 K (fun c => if c < t then .slice (some ⟨nb + 1 + c, 0, none⟩) S S else .slice none 0 0)) ∧ Hid (∀ c, c < t → wr.rowIs (nb + 1 + c) 49 S (fun _ => .slice none 0 0))) (fun s35 _ => K - (intOf s35).toNat)
  case atStart => exact ⟨0, Nat.zero_le _, rfl, hs1, HB1, HD1, Lib.hid fun c h => absurd h (by omega)⟩
  case round =>
    as_aux_lemma =>
      clear HB1 HD1 hs1
      obtain ⟨wo, hwo⟩ : ∃ wo : World, wo = wr := ⟨_, rfl⟩
      subst hwo
      obtain ⟨t, ht, rfl, hsz, HB, HD, HRS⟩ := hrel
      by_cases hlt : t < K
      · as_aux_lemma =>
          have hltI : (t : Int) < (K : Int) := by omega
          have hfz := (HD.out.alloc (.cells (madeCells #[.slice none 0 0] S) 49)).frozen t
          have hcl := (HD.out.alloc (.cells (madeCells #[.slice none 0 0] S) 49)).cell (i := t) hlt
          rw [if_neg (by omega)] at hcl
          have hnbl := HD.out.lt
          have HDn : Hid (((wo.alloc (.cells (madeCells #[.slice none 0 0] S) 49)).setCell ⟨nb, t, none⟩ (.slice (some ⟨nb + 1 + t, 0, none⟩) S S)).rowIs nb 50 K (fun c => if c < t + 1 then .slice (some ⟨nb + 1 + c, 0, none⟩) S S else .slice none 0 0)) := Lib.hid (((HD.out.alloc _).set t _).congr fun c hc => by
            by_cases e : c = t
            · subst e; rw [if_pos rfl, if_pos (by omega)]
            · rw [if_neg e]
              by_cases e2 : c < t
              · rw [if_pos e2, if_pos (by omega)]
              · rw [if_neg e2, if_neg (by omega)])
          have hgs := grown_setG (wo.alloc (.cells (madeCells #[.slice none 0 0] S) 49)) nb t (.slice (some ⟨nb + 1 + t, 0, none⟩) S S)
          have HRn : Hid (∀ c, c < t + 1 → ((wo.alloc (.cells (madeCells #[.slice none 0 0] S) 49)).setCell ⟨nb, t, none⟩ (.slice (some ⟨nb + 1 + t, 0, none⟩) S S)).rowIs (nb + 1 + c) 49 S (fun _ => .slice none 0 0)) := Lib.hid fun c hc => by
            refine row_row (?_ : (wo.alloc (.cells (madeCells #[.slice none 0 0] S) 49)).rowIs (nb + 1 + c) 49 S (fun _ => .slice none 0 0)) hgs (by omega)
            by_cases e : c = t
            · subst e
              have := World.rowIs_made wo (.slice none 0 0) S 49
              rw [hsz] at this
              exact this
            · exact (HRS.out c (by omega)).alloc _
          have HBn : Hid (BT W ((wo.alloc (.cells (madeCells #[.slice none 0 0] S) 49)).setCell ⟨nb, t, none⟩ (.slice (some ⟨nb + 1 + t, 0, none⟩) S S)) bb w.heap.size n n K 0 F F (rrU st tc K sc ac T SA AA)) := Lib.hid (by
            refine (HB.out.below ((Below.refl _ _).alloc (Nat.le_refl _) _) (by omega)).grown hgs (by rw [← HNB.out]; exact hbase) (fun g hg => ?_) rowII_G rowII_B
            obtain rfl : nb = g := Option.some.inj hg
            obtain ⟨cs, h1, _⟩ := HD.out.alloc (.cells (madeCells #[.slice none 0 0] S) 49)
            exact ⟨by rw [HNB.out]; exact Nat.le_refl _, _, _, h1⟩)
          clear hgs
          go_wp2_with fail
          go_roundw
          case rel => exact ⟨t + 1, by omega, by go_num, by simp [World.setCell]; omega, HBn, HDn, HRn⟩
          case measure => simp [intOf]; omega
      · as_aux_lemma =>
          have hte : t = K := by omega
          have htI : ¬ (t : Int) < (K : Int) := by omega
          have HN3 : Hid (N3 wo nb K S (fun _ => none) (fun _ => 0) (fun _ => 0)) := Lib.hid ⟨HD.out.congr fun c hc => by rw [if_pos (by omega)], fun c hc => HRS.out c (by omega)⟩
          have HI0 : Hid (IV W wo bb w.heap.size n n K S nb (20 * 0) (5 * 0) F F (rrU st tc K sc ac T SA AA) (fun _ => none) (fun _ => 0) (fun _ => 0) (fun _ _ => 0) tch tqh (prD Hh Ss fb 0 0 0)) := Lib.hid ⟨HB.out.more (by omega), HNB.out, hbase, Fam.nil _ _ _ _, HN3.out, fun i _ j hj => absurd hj (by omega), fun _ _ => Nat.zero_le _, SemN.start fun g => by unfold prD; omega⟩
          obtain ⟨sb, so, hSA, _, _⟩ := HU.out.sg.rd.at_ (show 0 < K by omega)
          obtain ⟨ab, ao, hAA, _, _⟩ := HU.out.at_.rd.at_ (show 0 < K by omega)
          subst hSA
          subst hAA
          have r5 := HB.out.bs.cell (j := 5) (by omega) (by omega)
          change _ = some (Value.slice (some ⟨sb, so, none⟩) K sc) at r5
          have lbo := HB.out.bs.lt.1
          clear hte HD HRS hmk2 HN3 HB hsz lbb
          go_wp2_with fail
          clear r5 lbo
          go_loopw [6, 50] (fun s6 s50 wr => ∃ (c n' : Nat) (F' : Nat → Int) (A : Nat → Option Addr) (cc M : Nat → Nat) (L : Nat → Nat → Int) (A6 : Option Addr) (c6 : Nat), c ≤ K ∧ s50 = .int .i64 (c : Nat) ∧ s6 = .slice A6 c c6 ∧ Hid (A (K * S) = A6 ∧ M (K * S) = c ∧ cc (K * S) = c6) ∧ Hid (IV W wr bb w.heap.size n n' K S nb (20 * c) (5 * c) F F' (rrU st tc K sc ac T (some ⟨sb, so, none⟩) (some ⟨ab, ao, none⟩)) A cc M L tch tqh (prD Hh Ss fb c 0 0)) ∧ Hid (∀ g c', c' < c → (vx F' g (L (K * S) c') = true ↔ Fb' g c'))) (fun _ s50 _ => K - (intOf s50).toNat)
          case atStart => exact ⟨0, n, F, _, _, _, _, none, 0, by omega, rfl, rfl, Lib.hid ⟨rfl, rfl, rfl⟩, HI0, Lib.hid fun g c' h => absurd h (by omega)⟩
          case round =>
            as_aux_lemma =>
              clear HI0
              obtain ⟨wp, hwp⟩ : ∃ wp : World, wp = wr := ⟨_, rfl⟩
              subst hwp
              obtain ⟨c, n1, F1, A, cc, M, L, A6, c6, hc, rfl, rfl, HL6, HI, HSG⟩ := hrel
              by_cases hcK : c < K
              · as_aux_lemma =>
                  have hcI : (c : Int) < (K : Int) := by omega
                  obtain ⟨_, _, e1, lsb, cs0⟩ := (HI.out.bt.own HU.out.bs HU.out.sg intG intB).rd.at_ hcK
                  injection e1 with e1; injection e1 with e1 e2; subst e1 e2
                  obtain ⟨_, _, e1, lab, ca0⟩ := (HI.out.bt.own HU.out.bs HU.out.at_ rowI_G rowI_B).rd.at_ hcK
                  injection e1 with e1; injection e1 with e1 e2; subst e1 e2
                  have HRWc := Lib.hid (HU.out.rw_ c hcK)
                  obtain ⟨rb, ro, hRA, _, _⟩ := HRWc.out.rd.at_ (show 0 < st + 1 by omega)
                  obtain ⟨rc, hrc⟩ : ∃ x, x = Rc c := ⟨_, rfl⟩
                  have hrc2 : st + 1 ≤ rc ∧ rc ≤ maxLen := by rw [hrc]; exact HRWc.out.le
                  unfold maxLen at hrc2
                  rw [hRA, ← hrc] at ca0
                  obtain ⟨s, hs⟩ : ∃ x, x = Sg c := ⟨_, rfl⟩
                  rw [← hs] at cs0
                  have hsv : -1 ≤ s ∧ s < n := by rw [hs]; exact HU.out.sv c hcK
                  have HSS := Lib.hid hs
                  have r6 := HI.out.bt.bs.cell (j := 6) (by omega) (by omega)
                  change _ = some (Value.slice (some ⟨ab, ao, none⟩) K ac) at r6
                  have lbp := HI.out.bt.bs.lt.1
                  have hstrI : (st : Int) ≤ (rc : Int) := by omega
                  have HRA := Lib.hid hRA
                  have HRC := Lib.hid hrc
                  clear hRA hrc hs
                  have HI1 := Lib.hid ((HI.out.clear (K * S + 1) (by omega)).clear (K * S + 2) (by omega))
                  have HL61 : Hid (up (up A (K * S + 1) none) (K * S + 2) none (K * S) = A6 ∧ up (up M (K * S + 1) 0) (K * S + 2) 0 (K * S) = c ∧ up (up cc (K * S + 1) 0) (K * S + 2) 0 (K * S) = c6) := Lib.hid (by
                    rw [up_other _ _ (by omega), up_other _ _ (by omega), up_other _ _ (by omega), up_other _ _ (by omega), up_other _ _ (by omega), up_other _ _ (by omega)]; exact HL6.out)
                  have HL91 : Hid (up (up A (K * S + 1) none) (K * S + 2) none (K * S + 1) = none ∧ up (up M (K * S + 1) 0) (K * S + 2) 0 (K * S + 1) = 0 ∧ up (up cc (K * S + 1) 0) (K * S + 2) 0 (K * S + 1) = 0) := Lib.hid (by
                    refine ⟨?_, ?_, ?_⟩ <;> rw [up_other _ _ (by omega), up_same])
                  have HL10 : Hid (up (up A (K * S + 1) none) (K * S + 2) none (K * S + 2) = none ∧ up (up M (K * S + 1) 0) (K * S + 2) 0 (K * S + 2) = 0 ∧ up (up cc (K * S + 1) 0) (K * S + 2) 0 (K * S + 2) = 0) := Lib.hid (by
                    rw [up_same, up_same, up_same]; exact ⟨rfl, rfl, rfl⟩)
                  have HO1 : Hid (SemL F1 (up (up M (K * S + 1) 0) (K * S + 2) 0) L (K * S + 1) (fun g => Hh g = c ∧ Ss g < 0 ∧ Ss g < st ∧ TR R (Ss g) (3 * fb g) = 1)) := Lib.hid fun g => by
                    rw [HL91.out.2.1]
                    exact ⟨fun h => (by cases h), fun h => by omega⟩
                  have HH1 : Hid (SemL F1 (up (up M (K * S + 1) 0) (K * S + 2) 0) L (K * S + 2) (fun g => Hh g = c ∧ Ss g < 0)) := Lib.hid fun g => by
                    rw [HL10.out.2.1]
                    exact ⟨fun h => (by cases h), fun h => by omega⟩
                  go_wp2_with fail
                  clear r6 cs0 ca0 lsb lab lbp HI HL6
                  go_loopw [9, 10, 65] (fun s9 s10 s65 wr => ∃ (q n2 : Nat) (F2 : Nat → Int) (A : Nat → Option Addr) (cc M : Nat → Nat) (L : Nat → Nat → Int) (A9 : Option Addr) (m9 c9 : Nat) (A10 : Option Addr) (c10 : Nat), q ≤ st ∧ s65 = .int .i64 (q : Nat) ∧ s9 = .slice A9 m9 c9 ∧ m9 ≤ 2 * q ∧ s10 = .slice A10 q c10 ∧ Hid (A (K * S + 1) = A9 ∧ M (K * S + 1) = m9 ∧ cc (K * S + 1) = c9) ∧ Hid (A (K * S + 2) = A10 ∧ M (K * S + 2) = q ∧ cc (K * S + 2) = c10) ∧ Hid (A (K * S) = A6 ∧ M (K * S) = c ∧ cc (K * S) = c6) ∧ Hid (IV W wr bb w.heap.size n n2 K S nb (20 * c + 4 * q) (5 * c + 2 * q) F F2 (rrU st tc K sc ac T (some ⟨sb, so, none⟩) (some ⟨ab, ao, none⟩)) A cc M L tch tqh (prD Hh Ss fb c q 0)) ∧ Hid (∀ g c', c' < c → (vx F2 g (L (K * S) c') = true ↔ Fb' g c')) ∧ Hid (SemL F2 M L (K * S + 1) (fun g => Hh g = c ∧ Ss g < q ∧ Ss g < st ∧ TR R (Ss g) (3 * fb g) = 1)) ∧ Hid (SemL F2 M L (K * S + 2) (fun g => Hh g = c ∧ Ss g < q))) (fun _ _ s65 _ => st - (intOf s65).toNat)
                  case atStart => exact ⟨0, n1, F1, _, _, _, _, none, 0, 0, none, 0, by omega, rfl, rfl, by omega, rfl, HL91, HL10, HL61, HI1, HSG, HO1, HH1⟩
                  case round =>
                    as_aux_lemma =>
                      clear HI1 HL61 HL91 HL10 HO1 HH1 HSG
                      obtain ⟨wq, hwq⟩ : ∃ wq : World, wq = wr := ⟨_, rfl⟩
                      subst hwq
                      obtain ⟨q, n2, F2, A, cc, M, L, A9, m9, c9, A10, c10, hq, rfl, rfl, hm9, rfl, HL9, HL10, HL6, HI, HSG, HON, HHE⟩ := hrel
                      by_cases hqs : q < st
                      · as_aux_lemma =>
                          have hqI : (q : Int) < (st : Int) := by omega
                          obtain ⟨_, _, e1, lrb, cat0⟩ := (HI.out.bt.own HU.out.bs HRWc.out intG intB).rd.at_ (show q < st + 1 by omega)
                          rw [HRA.out] at e1
                          injection e1 with e1; injection e1 with e1 e2; subst e1 e2
                          obtain ⟨x, hx⟩ : ∃ x, x = At c q := ⟨_, rfl⟩
                          rw [← hx] at cat0
                          have hxv : -1 ≤ x ∧ x < n := by rw [hx]; exact HU.out.av c hcK q (by omega)
                          have HXV : Hid (∀ g, vx F g x = true ↔ Hh g = c ∧ Ss g = q) := Lib.hid fun g => by rw [hx]; exact (HS.out g c hcK).2 q (by omega)
                          have HOH : Hid (Own wq nb 3 1 A10 q c10 q (fun j => .int .i64 (L (K * S + 2) j))) := Lib.hid (by
                            have := HI.out.fam.own (K * S + 2) (by omega)
                            rw [HL10.out.1, HL10.out.2.1, HL10.out.2.2] at this; exact this)
                          have hsz := HI.out.size
                          have hbs : nb ≤ (wq.alloc (.cells #[.int .i64 x] 3)).heap.size := by simp; omega
                          have hRq := HR2.out q hqs
                          obtain ⟨⟨rA, rn, rC, rf⟩, hra⟩ : ∃ r, r = R q := ⟨_, rfl⟩
                          rw [← hra] at hRq
                          change rn = 2 at hRq
                          subst hRq
                          have HRQ := Lib.hid hra
                          clear hx
                          go_wp2_with (at_builtin; refine wpList_app _ rfl (.tmp 70) (.tmp 72) 49 rfl EIu rfl (HOH.out.alloc _) rfl (l := 1) (by omega) (Rd.one wq (.int .i64 x) _) (fun _ _ => rfl) (by unfold maxLen; omega) (by omega) hbs (q + 1) (q + 1) rfl rfl ?_; intro A2 c2 w3 hown2 hg2 hat2 hbl2; have HI3 := Lib.hid ((HI.out.below ((Below.refl wq.heap.size wq).alloc (Nat.le_refl _) (.cells #[.int .i64 x] 3))).app (i := K * S + 2) (A2 := A2) (c2 := c2) (x := x) (by omega) (by omega) ⟨hxv.1, by omega⟩ (by rw [HL10.out.2.1]; exact hown2) (by rw [HL10.out.1, HL10.out.2.1, HL10.out.2.2]; exact hg2) (by rw [HL10.out.1, HL10.out.2.1, HL10.out.2.2]; exact hat2)); have r4 := HI3.out.bt.bs.cell (j := 4) (by omega) (by omega); have lb3 := HI3.out.bt.bs.lt.1; change _ = some (Value.slice T st tc) at r4; rw [HTE.out] at r4; have HTM := Lib.hid (HT.out.below (HU.out.bel.trans HI3.out.bt.bel)); obtain ⟨_, _, e1, ltb, ct0⟩ := HTM.out.1.at_ hqs; rw [HTE.out] at e1; injection e1 with e1; injection e1 with e1 e2; subst e1 e2; rw [← hra] at ct0; change _ = some (Value.slice rA 2 rC) at ct0; clear hown2 hg2 hat2 hbl2)
                          have HL93 : Hid (up A (K * S + 2) A2 (K * S + 1) = A9 ∧ up M (K * S + 2) (M (K * S + 2) + 1) (K * S + 1) = m9 ∧ up cc (K * S + 2) c2 (K * S + 1) = c9) := Lib.hid (by
                            refine ⟨?_, ?_, ?_⟩ <;> rw [up_other _ _ (by omega)]
                            · exact HL9.out.1
                            · exact HL9.out.2.1
                            · exact HL9.out.2.2)
                          have HL63 : Hid (up A (K * S + 2) A2 (K * S) = A6 ∧ up M (K * S + 2) (M (K * S + 2) + 1) (K * S) = c ∧ up cc (K * S + 2) c2 (K * S) = c6) := Lib.hid (by
                            refine ⟨?_, ?_, ?_⟩ <;> rw [up_other _ _ (by omega)]
                            · exact HL6.out.1
                            · exact HL6.out.2.1
                            · exact HL6.out.2.2)
                          have HL103 : Hid (up A (K * S + 2) A2 (K * S + 2) = A2 ∧ up M (K * S + 2) (M (K * S + 2) + 1) (K * S + 2) = q + 1 ∧ up cc (K * S + 2) c2 (K * S + 2) = c2) := Lib.hid (by
                            refine ⟨?_, ?_, ?_⟩ <;> rw [up_same]
                            rw [HL10.out.2.1])
                          have HSG3 : Hid (∀ g c', c' < c → (vx F2 g (up L (K * S + 2) (snoc (L (K * S + 2)) (M (K * S + 2)) x) (K * S) c') = true ↔ Fb' g c')) := Lib.hid (by rw [up_other _ _ (by omega)]; exact HSG.out)
                          have HON3 : Hid (SemL F2 (up M (K * S + 2) (M (K * S + 2) + 1)) (up L (K * S + 2) (snoc (L (K * S + 2)) (M (K * S + 2)) x)) (K * S + 1) (fun g => Hh g = c ∧ (Ss g < q ∨ Ss g = q ∧ fb g < 0) ∧ Ss g < st ∧ TR R (Ss g) (3 * fb g) = 1)) := Lib.hid ((HON.out.other (by omega)).iff fun g => by omega)
                          have HHE3 : Hid (SemL F2 (up M (K * S + 2) (M (K * S + 2) + 1)) (up L (K * S + 2) (snoc (L (K * S + 2)) (M (K * S + 2)) x)) (K * S + 2) (fun g => Hh g = c ∧ Ss g < q + 1)) := Lib.hid (HHE.out.push fun g => by
                            rw [HI.out.bt.vx g hxv.2, HXV.out g]; omega)
                          clear HI HL9 HL10 HL6 HSG HON HHE HOH lrb cat0 hbs r4 lb3 HTM ltb ct0 hsz
                          go_loopw [9, 83] (fun s9 s83 wr => ∃ (v n3 : Nat) (F3 : Nat → Int) (A : Nat → Option Addr) (cc M : Nat → Nat) (L : Nat → Nat → Int) (A9 : Option Addr) (m9 c9 : Nat), v ≤ 2 ∧ s83 = .int .i64 (v : Nat) ∧ s9 = .slice A9 m9 c9 ∧ m9 ≤ 2 * q + v ∧ Hid (A (K * S + 1) = A9 ∧ M (K * S + 1) = m9 ∧ cc (K * S + 1) = c9) ∧ Hid (A (K * S + 2) = A2 ∧ M (K * S + 2) = q + 1 ∧ cc (K * S + 2) = c2) ∧ Hid (A (K * S) = A6 ∧ M (K * S) = c ∧ cc (K * S) = c6) ∧ Hid (IV W wr bb w.heap.size n n3 K S nb (20 * c + 4 * q + 2 * v) (5 * c + 2 * q + v) F F3 (rrU st tc K sc ac T (some ⟨sb, so, none⟩) (some ⟨ab, ao, none⟩)) A cc M L tch tqh (prD Hh Ss fb c q v)) ∧ Hid (∀ g c', c' < c → (vx F3 g (L (K * S) c') = true ↔ Fb' g c')) ∧ Hid (SemL F3 M L (K * S + 1) (fun g => Hh g = c ∧ (Ss g < q ∨ Ss g = q ∧ fb g < v) ∧ Ss g < st ∧ TR R (Ss g) (3 * fb g) = 1)) ∧ Hid (SemL F3 M L (K * S + 2) (fun g => Hh g = c ∧ Ss g < q + 1))) (fun _ s83 _ => 2 - (intOf s83).toNat)
                          case atStart => exact ⟨0, n2, F2, _, _, _, _, A9, m9, c9, by omega, rfl, rfl, by omega, HL93, HL103, HL63, HI3, HSG3, HON3, HHE3⟩
                          case round =>
                            as_aux_lemma =>
                              clear HI3 HL93 HL63 HL103 HSG3 HON3 HHE3 A cc M L
                              obtain ⟨wd, hwd⟩ : ∃ wd : World, wd = wr := ⟨_, rfl⟩
                              subst hwd
                              obtain ⟨v, n3, F3, A, cc, M, L, A9, m9, c9, hv, rfl, rfl, hm9, HL9, HL10, HL6, HI, HSG, HON, HHE⟩ := hrel
                              by_cases hv2 : v < 2
                              · as_aux_lemma =>
                                  have hvI : (v : Int) < 2 := by omega
                                  have hru := (HT.out.below (HU.out.bel.trans HI.out.bt.bel)).2 q hqs
                                  rw [← HRQ.out] at hru
                                  obtain ⟨qb, qo, hrA, lqb, cr0, cr1, cr2⟩ := Rd.atR3 hru.1 (show v < 2 from hv2)
                                  have hgt := HG.out q hqs v hv2
                                  unfold TR at hgt
                                  rw [← HRQ.out] at hgt
                                  change rA = _ at hrA
                                  subst hrA
                                  obtain ⟨wv, hwv⟩ : ∃ z, z = rf (3 * v) := ⟨_, rfl⟩
                                  obtain ⟨mv, hmv⟩ : ∃ z, z = rf (3 * v + 1) := ⟨_, rfl⟩
                                  obtain ⟨nx, hnx⟩ : ∃ z : Nat, (z : Int) = rf (3 * v + 2) := ⟨(rf (3 * v + 2)).toNat, by have := hgt.2.2.1; change 0 ≤ rf (3 * v + 2) at this; omega⟩
                                  change _ = some (Value.int .i64 (rf (3 * v))) at cr0
                                  change _ = some (Value.int .i64 (rf (3 * v + 1))) at cr1
                                  change _ = some (Value.int .i64 (rf (3 * v + 2))) at cr2
                                  change (0 ≤ rf (3 * v) ∧ rf (3 * v) < _) ∧ (-1 ≤ rf (3 * v + 1) ∧ rf (3 * v + 1) ≤ 1) ∧ (0 ≤ rf (3 * v + 2) ∧ rf (3 * v + 2) ≤ _) at hgt
                                  rw [← hwv] at cr0
                                  rw [← hmv] at cr1
                                  rw [← hnx] at cr2
                                  rw [← hwv, ← hmv, ← hnx] at hgt
                                  have hwv1 : 0 ≤ wv ∧ wv ≤ 1 := by have := hgt.1; omega
                                  have hmv1 : -1 ≤ mv ∧ mv ≤ 1 := hgt.2.1
                                  have hnxS : nx < S := by have := hgt.2.2.2; have := HSE.out; omega
                                  obtain ⟨td, htd⟩ : ∃ z : Nat, (z : Int) = clU K ((c : Int) + mv) := ⟨(clU K ((c : Int) + mv)).toNat, by have := clU_bd (show 0 < K by omega) ((c : Int) + mv); omega⟩
                                  have htdK : td < K := by have := clU_bd (show 0 < K by omega) ((c : Int) + mv); omega
                                  have HGO : Hid (∀ g, Hh g = c → Ss g = q → fb g = v → tch g = td ∧ tqh g = nx ∧ TR R (Ss g) (3 * fb g) = wv) := Lib.hid fun g h1 h2 h3 => by
                                    have h4 := HTG.out.run g (by omega)
                                    rw [h1, h2, h3] at h4
                                    have e0 : TR R q (3 * v) = wv := by unfold TR; rw [← HRQ.out, hwv]
                                    have e1 : TR R q (3 * v + 1) = mv := by unfold TR; rw [← HRQ.out, hmv]
                                    have e2 : TR R q (3 * v + 2) = (nx : Int) := by unfold TR; rw [← HRQ.out, hnx]
                                    rw [e1, e2, ← htd] at h4
                                    rw [h2, h3]
                                    exact ⟨by omega, by omega, e0⟩
                                  have HCL : Hid ((((c : Int) + mv < 0) ∧ td = 0) ∨ ((¬ (c : Int) + mv < 0) ∧ ((K : Int) - 1 < (c : Int) + mv) ∧ ((td : Nat) : Int) = (K : Int) - 1) ∨ ((¬ (c : Int) + mv < 0) ∧ (¬ (K : Int) - 1 < (c : Int) + mv) ∧ ((td : Nat) : Int) = (c : Int) + mv)) := Lib.hid (by
                                    unfold clU at htd
                                    by_cases h1 : (c : Int) + mv < 0
                                    · rw [if_pos h1, if_neg (by omega)] at htd; exact .inl ⟨h1, by omega⟩
                                    · rw [if_neg h1] at htd
                                      by_cases h2 : (K : Int) - 1 < (c : Int) + mv
                                      · rw [if_pos h2] at htd; exact .inr (.inl ⟨h1, h2, htd⟩)
                                      · rw [if_neg h2] at htd; exact .inr (.inr ⟨h1, h2, htd⟩))
                                  obtain ⟨rk, hrk⟩ : ∃ r, r = wd.heap.size := ⟨_, rfl⟩
                                  obtain ⟨w4, hw4⟩ : ∃ W, W = wd.alloc (.cells #[.int .i64 wv, .int .i64 mv, .int .i64 (nx : Nat)] 64) := ⟨_, rfl⟩
                                  have HI4 : Hid (IV W w4 bb w.heap.size n n3 K S nb (20 * c + 4 * q + 2 * v) (5 * c + 2 * q + v) F F3 (rrU st tc K sc ac T (some ⟨sb, so, none⟩) (some ⟨ab, ao, none⟩)) A cc M L tch tqh (prD Hh Ss fb c q v)) := Lib.hid (by rw [hw4]; exact HI.out.below ((Below.refl _ _).alloc (Nat.le_refl _) _))
                                  have HRK4 : Hid (w4.rowIs rk 64 3 (fun i => if i = 0 then .int .i64 wv else if i = 1 then .int .i64 mv else .int .i64 (nx : Nat))) := Lib.hid (by
                                    rw [hw4, hrk]
                                    exact World.rowIs_alloc wd #[.int .i64 wv, .int .i64 mv, .int .i64 (nx : Nat)] 64 _ fun i hi => by
                                      have : i < 3 := hi
                                      match i, this with
                                      | 0, _ => rfl
                                      | 1, _ => rfl
                                      | 2, _ => rfl)
                                  have HW4 := Lib.hid hw4
                                  have HRKE := Lib.hid hrk
                                  have hn34 := HI.out.size
                                  have lbd := HI.out.bt.bs.lt.1
                                  clear hw4 hrk hru hgt hwv hmv hnx htd HI
                                  have hv4 : (v = 1 ∧ s < 0) ∨ (v = 1 ∧ 0 ≤ s) ∨ (v = 0 ∧ s < 0) ∨ (v = 0 ∧ 0 ≤ s) := by omega
                                  rcases hv4 with ⟨hv1, hs0⟩ | ⟨hv1, hs0⟩ | ⟨hv1, hs0⟩ | ⟨hv1, hs0⟩
                                  · as_aux_lemma =>
                                      have vb : ((v : Int) == 0) = false := beq_eq_false_iff_ne.2 (by omega)
                                      have HV1 := Lib.hid hv1
                                      clear hv1
                                      go_wp2_with fail
                                      rw [← HRKE.out, ← HW4.out]
                                      refine (both_any HI4.out.bt.bs (by omega) (by omega) x s ⟨hxv.1, by omega⟩ ⟨hsv.1, by omega⟩).mono ?_
                                      rintro e w5 ⟨y, n5, F5, rfl, hbt, hyb, hyv⟩
                                      have HBT5 : Hid (BT w4 w5 bb w.heap.size n3 n5 K 2 F3 F5 (rrU st tc K sc ac T (some ⟨sb, so, none⟩) (some ⟨ab, ao, none⟩))) := Lib.hid (hbt.more (by omega))
                                      have HYV : Hid (∀ g, vx F5 g y = true ↔ Hh g = c ∧ Ss g = q ∧ fb g = v) := Lib.hid fun g => by
                                        rw [hyv g]
                                        show (vx F3 g x && vx F3 g s) = true ↔ _
                                        rw [HI4.out.bt.vx g hxv.2, HI4.out.bt.vx g hsv.2, Bool.and_eq_true, HXV.out g, HSS.out, (HS.out g c hcK).1, HV1.out]
                                        constructor
                                        · rintro ⟨⟨h1, h2⟩, h3⟩; exact ⟨h1, h2, by rw [HFB.out g, h1]; exact h3⟩
                                        · rintro ⟨h1, h2, h3⟩; exact ⟨⟨h1, h2⟩, by rw [HFB.out g, h1] at h3; exact h3⟩
                                      clear hbt hyv
                                      have HSG5 : Hid (∀ g c', c' < c → (vx F5 g (L (K * S) c') = true ↔ Fb' g c')) := Lib.hid fun g c' hc' => by
                                        rw [HBT5.out.vx g (HI4.out.ok (K * S) (by omega) c' (by rw [HL6.out.2.1]; exact hc')).2]; exact HSG.out g c' hc'
                                      have HON5 := Lib.hid (HON.out.ext HI4.out.ok (by omega) HBT5.out.ext)
                                      have HHE5 := Lib.hid (HHE.out.ext HI4.out.ok (by omega) HBT5.out.ext)
                                      have HI5 : Hid (IV W w5 bb w.heap.size n n5 K S nb (20 * c + 4 * q + 2 * (v + 1)) (5 * c + 2 * q + v) F F5 (rrU st tc K sc ac T (some ⟨sb, so, none⟩) (some ⟨ab, ao, none⟩)) A cc M L tch tqh (prD Hh Ss fb c q v)) := Lib.hid ((HI4.out.call HBT5.out).more (by omega) (Nat.le_refl _))
                                      have HRK5 := Lib.hid (row_bt HRK4.out HI4.out.bt.bs HBT5.out (by decide) (by decide))
                                      have hn5 := HI5.out.size
                                      clear HI4 HRK4 HBT5 HON HHE HSG
                                      by_cases hw1 : wv = 1
                                      · as_aux_lemma =>
                                          have HO9 : Hid (Own w5 nb 3 1 A9 m9 c9 m9 (fun j => .int .i64 (L (K * S + 1) j))) := Lib.hid (by
                                            have := HI5.out.fam.own (K * S + 1) (by omega)
                                            rw [HL9.out.1, HL9.out.2.1, HL9.out.2.2] at this; exact this)
                                          have hb5 : nb ≤ (w5.alloc (.cells #[.int .i64 y] 3)).heap.size := by simp; omega
                                          have k0 := HRK5.out.cell (i := 0) (by omega)
                                          have k1 := HRK5.out.cell (i := 1) (by omega)
                                          have lk5 := HRK5.out.lt
                                          change _ = some (Value.int .i64 wv) at k0
                                          change _ = some (Value.int .i64 mv) at k1
                                          go_upto_region 27 with (at_builtin; refine wpList_app _ rfl (.tmp 114) (.tmp 116) 49 rfl EIu rfl (HO9.out.alloc _) rfl (l := 1) (by omega) (Rd.one w5 (.int .i64 y) _) (fun _ _ => rfl) (by unfold maxLen; omega) (by omega) hb5 (m9 + 1) (m9 + 1) rfl rfl ?_; intro A3 c3 w6 hown2 hg2 hat2 hbl2; have HI6 := Lib.hid ((HI5.out.below ((Below.refl w5.heap.size w5).alloc (Nat.le_refl _) (.cells #[.int .i64 y] 3))).app (i := K * S + 1) (A2 := A3) (c2 := c3) (x := y) (by omega) (by omega) hyb (by rw [HL9.out.2.1]; exact hown2) (by rw [HL9.out.1, HL9.out.2.1, HL9.out.2.2]; exact hg2) (by rw [HL9.out.1, HL9.out.2.1, HL9.out.2.2]; exact hat2)); have HRK6 := Lib.hid (row_app (HRK5.out.alloc (.cells #[.int .i64 y] 3)) (HO9.out.alloc (.cells #[.int .i64 y] 3)) hg2 (by decide)); have j1 := HRK6.out.cell (i := 1) (by omega); change _ = some (Value.int .i64 mv) at j1; have lk6 := HRK6.out.lt; clear hown2 hg2 hat2 hbl2)
                                          have HP6 : ∃ (A' : Nat → Option Addr) (cc' M' : Nat → Nat) (L' : Nat → Nat → Int), Hid (A' (K * S + 1) = A3 ∧ M' (K * S + 1) = m9 + 1 ∧ cc' (K * S + 1) = c3) ∧ Hid (A' (K * S + 2) = A2 ∧ M' (K * S + 2) = q + 1 ∧ cc' (K * S + 2) = c2) ∧ Hid (A' (K * S) = A6 ∧ M' (K * S) = c ∧ cc' (K * S) = c6) ∧ Hid (IV W w6 bb w.heap.size n n5 K S nb (20 * c + 4 * q + 2 * (v + 1)) (5 * c + 2 * q + v) F F5 (rrU st tc K sc ac T (some ⟨sb, so, none⟩) (some ⟨ab, ao, none⟩)) A' cc' M' L' tch tqh (prD Hh Ss fb c q v)) ∧ Hid (∀ g c', c' < c → (vx F5 g (L' (K * S) c') = true ↔ Fb' g c')) ∧ Hid (SemL F5 M' L' (K * S + 1) (fun g => Hh g = c ∧ (Ss g < q ∨ Ss g = q ∧ fb g < v + 1) ∧ Ss g < st ∧ TR R (Ss g) (3 * fb g) = 1)) ∧ Hid (SemL F5 M' L' (K * S + 2) (fun g => Hh g = c ∧ Ss g < q + 1)) := by
                                            refine ⟨_, _, _, _, Lib.hid ?_, Lib.hid ?_, Lib.hid ?_, HI6, Lib.hid ?_, Lib.hid (HON5.out.push fun g => ?_), Lib.hid (HHE5.out.other (by omega))⟩
                                            · refine ⟨?_, ?_, ?_⟩ <;> rw [up_same]
                                              rw [HL9.out.2.1]
                                            · refine ⟨?_, ?_, ?_⟩ <;> rw [up_other _ _ (by omega)]
                                              · exact HL10.out.1
                                              · exact HL10.out.2.1
                                              · exact HL10.out.2.2
                                            · refine ⟨?_, ?_, ?_⟩ <;> rw [up_other _ _ (by omega)]
                                              · exact HL6.out.1
                                              · exact HL6.out.2.1
                                              · exact HL6.out.2.2
                                            · rw [up_other _ _ (by omega)]; exact HSG5.out
                                            · rw [HYV.out g]
                                              constructor
                                              · rintro ⟨h1, h2, h3, h4⟩
                                                by_cases h5 : Ss g < q ∨ Ss g = q ∧ fb g < v
                                                · exact .inl ⟨h1, h5, h3, h4⟩
                                                · exact .inr ⟨h1, by omega, by omega⟩
                                              · rintro (⟨h1, h2, h3, h4⟩ | ⟨h1, h2, h3⟩)
                                                · exact ⟨h1, by omega, h3, h4⟩
                                                · exact ⟨h1, by omega, by omega, by rw [(HGO.out g h1 h2 h3).2.2]; exact hw1⟩
                                          obtain ⟨A', cc', M', L', HL9', HL10', HL6', HI7, HSG7, HON7, HHE7⟩ := HP6
                                          clear HI6 HI5 HSG5 HON5 HHE5 HL9 HL10 HL6 k0 k1 hb5 HO9 j1 HRK5 lk5
                                          have j1 := HRK6.out.cell (i := 1) (by omega)
                                          change _ = some (Value.int .i64 mv) at j1
                                          go_cut [17] (fun s17 wx => s17 = .int .i64 (td : Nat) ∧ wx = w6)
                                          case first =>
                                            as_aux_lemma =>
                                              rcases HCL.out with ⟨h1, h2⟩ | ⟨h1, h2, h3⟩ | ⟨h1, h2, h3⟩
                                              · as_aux_lemma =>
                                                  subst h2
                                                  go_wp2_with fail
                                                  go_meet
                                                  case rel => exact ⟨rfl, rfl⟩
                                              · as_aux_lemma =>
                                                  have HH3 := Lib.hid h3
                                                  clear h3
                                                  go_wp2_with fail
                                                  go_meet
                                                  case rel => exact ⟨by rw [HH3.out], rfl⟩
                                              · as_aux_lemma =>
                                                  have HH3 := Lib.hid h3
                                                  clear h3
                                                  go_wp2_with fail
                                                  go_meet
                                                  case rel => exact ⟨by rw [HH3.out], rfl⟩
                                          case rest =>
                                            as_aux_lemma =>
                                              obtain ⟨hs17, hwc⟩ := hcut
                                              subst hs17
                                              have hwc2 := hwc.symm
                                              subst hwc2
                                              obtain ⟨gd, hgd⟩ : ∃ z, z = nb + 1 + td := ⟨_, rfl⟩
                                              obtain ⟨AL, hAL⟩ : ∃ z, z = A' (td * S + nx) := ⟨_, rfl⟩
                                              obtain ⟨ML, hML⟩ : ∃ z, z = M' (td * S + nx) := ⟨_, rfl⟩
                                              obtain ⟨CL, hCL⟩ : ∃ z, z = cc' (td * S + nx) := ⟨_, rfl⟩
                                              have hi28 : td * S + nx < K * S := leaf_lt htdK hnxS
                                              have g0 := HI7.out.n3.hd.cell htdK
                                              have g1 := (HI7.out.n3.row td htdK).cell hnxS
                                              rw [← hgd] at g0 g1
                                              rw [← hAL, ← hML, ← hCL] at g1
                                              have g2 := HRK6.out.cell (i := 2) (by omega)
                                              change _ = some (Value.int .i64 (nx : Nat)) at g2
                                              have lg0 := HI7.out.n3.hd.lt
                                              have lg1 : gd < w6.heap.size := by rw [hgd]; exact (HI7.out.n3.row td htdK).lt
                                              have HS0 : Hid (w6.drew.cell? ⟨nb, td, none⟩ = some (.slice (some ⟨gd, 0, none⟩) S S) ∧ w6.drew.cell? ⟨rk, 2, none⟩ = some (.int .i64 (nx : Nat)) ∧ w6.drew.cell? ⟨gd, nx, none⟩ = some (.slice AL ML CL)) := Lib.hid ⟨g0, g2, g1⟩
                                              have hML2 : ML ≤ 40 := by rw [hML]; have := HI7.out.mbd _ hi28; omega
                                              have htdI : (td : Int) < (K : Int) := by omega
                                              have hnxI : (nx : Int) < (S : Int) := by omega
                                              have HI8 := Lib.hid (HI7.out.below (((Below.refl w6.heap.size w6).drew).alloc (Nat.le_refl _) (.cells #[.int .i64 y] 3)))
                                              have HOL8 : Hid (Own (w6.drew.alloc (.cells #[.int .i64 y] 3)) nb 3 1 AL ML CL ML (fun j => .int .i64 (L' (td * S + nx) j))) := Lib.hid (by rw [hAL, hML, hCL]; exact HI8.out.fam.own _ (by omega))
                                              have HBA : Hid (Below w6.heap.size w6 (w6.drew.alloc (.cells #[.int .i64 y] 3))) := Lib.hid (((Below.refl w6.heap.size w6).drew).alloc (Nat.le_refl _) _)
                                              have hsz6 := HI7.out.size
                                              have HRK8 := Lib.hid ((show w6.drew.rowIs rk _ 3 _ from HRK6.out).alloc (.cells #[.int .i64 y] 3))
                                              have HGD := Lib.hid hgd
                                              have HAL := Lib.hid (And.intro hAL (And.intro hML hCL))
                                              clear hgd hAL hML hCL g0 g1 g2 HS
                                              go_wp2_with fail
                                              refine wp_region_any (by kernel_rfl) ?_
                                              change wpAny _ _ _ _ _ _ _ (World.drew _)
                                              refine any_of_T (S := fun W' => W'.cell? ⟨nb, td, none⟩ = some (.slice (some ⟨gd, 0, none⟩) S S) ∧ W'.cell? ⟨rk, 2, none⟩ = some (.int .i64 (nx : Nat)) ∧ W'.cell? ⟨gd, nx, none⟩ = some (.slice AL ML CL)) (c := 18) _ _ _ _ ?_
                                              refine anyT_takeY (i := 0) (v := ?_) rfl (by decide +kernel) (by decide +kernel) (by decide +kernel) (by decide +kernel) (fun _ _ _ h => h) (Or.inl ⟨by rfl, ?_⟩) HS0.out ?_; rotate_left 1
                                              · intro w _; go_simp; with_reducible rfl
                                              simp only [Act.put, List.getElem_toArray, List.getElem_cons_zero, List.getElem_cons_succ, List.setIfInBounds_toArray, List.set_cons_zero, List.set_cons_succ]
                                              refine anyT_takeY (i := 1) (v := ?_) rfl (by decide +kernel) (by decide +kernel) (by decide +kernel) (by decide +kernel) (fun _ _ _ h => h) (Or.inl ⟨by rfl, ?_⟩) HS0.out ?_; rotate_left 1
                                              · intro w _; go_simp; with_reducible rfl
                                              simp only [Act.put, List.getElem_toArray, List.getElem_cons_zero, List.getElem_cons_succ, List.setIfInBounds_toArray, List.set_cons_zero, List.set_cons_succ]
                                              refine anyT_takeY (i := 2) (v := ?_) rfl (by decide +kernel) (by decide +kernel) (by decide +kernel) (by decide +kernel) (fun _ _ _ h => h) (Or.inl ⟨by rfl, ?_⟩) HS0.out ?_; rotate_left 1
                                              · intro w _; go_simp; with_reducible rfl
                                              simp only [Act.put, List.getElem_toArray, List.getElem_cons_zero, List.getElem_cons_succ, List.setIfInBounds_toArray, List.set_cons_zero, List.set_cons_succ]
                                              refine anyT_takeL [17, 18] (i := 3) (v := ?_) rfl (by decide +kernel) (by decide +kernel) (by decide +kernel) (by decide +kernel) (by decide +kernel) (by decide +kernel) (fun _ _ _ h => h) (Or.inl ⟨by rfl, ?_⟩) HS0.out ?_; rotate_left 1
                                              · intro w hS; obtain ⟨s0, s1, s2⟩ := hS; go_simp; with_reducible rfl
                                              simp only [Act.put, List.getElem_toArray, List.getElem_cons_zero, List.getElem_cons_succ, List.setIfInBounds_toArray, List.set_cons_zero, List.set_cons_succ]
                                              refine anyT_takeY (i := 4) (v := ?_) rfl (by decide +kernel) (by decide +kernel) (by decide +kernel) (by decide +kernel) (fun _ _ _ h => h) (Or.inl ⟨by rfl, ?_⟩) HS0.out ?_; rotate_left 1
                                              · intro w _; go_simp; with_reducible rfl
                                              simp only [Act.put, List.getElem_toArray, List.getElem_cons_zero, List.getElem_cons_succ, List.setIfInBounds_toArray, List.set_cons_zero, List.set_cons_succ]
                                              refine anyT_takeL [17, 18] (i := 5) (v := ?_) rfl (by decide +kernel) (by decide +kernel) (by decide +kernel) (by decide +kernel) (by decide +kernel) (by decide +kernel) (fun _ _ _ h => h) (Or.inl ⟨by rfl, ?_⟩) HS0.out ?_; rotate_left 1
                                              · intro w hS; obtain ⟨s0, s1, s2⟩ := hS; go_simp; with_reducible rfl
                                              simp only [Act.put, List.getElem_toArray, List.getElem_cons_zero, List.getElem_cons_succ, List.setIfInBounds_toArray, List.set_cons_zero, List.set_cons_succ]
                                              refine anyT_takeY (i := 6) (v := ?_) rfl (by decide +kernel) (by decide +kernel) (by decide +kernel) (by decide +kernel) (fun _ _ _ h => h) (Or.inl ⟨by rfl, ?_⟩) HS0.out ?_; rotate_left 1
                                              · intro w _; go_simp; with_reducible rfl
                                              simp only [Act.put, List.getElem_toArray, List.getElem_cons_zero, List.getElem_cons_succ, List.setIfInBounds_toArray, List.set_cons_zero, List.set_cons_succ]
                                              refine anyT_takeY (i := 7) (v := ?_) rfl (by decide +kernel) (by decide +kernel) (by decide +kernel) (by decide +kernel) (fun _ _ _ h => h) (Or.inl ⟨by rfl, ?_⟩) HS0.out ?_; rotate_left 1
                                              · intro w _; go_simp; with_reducible rfl
                                              simp only [Act.put, List.getElem_toArray, List.getElem_cons_zero, List.getElem_cons_succ, List.setIfInBounds_toArray, List.set_cons_zero, List.set_cons_succ]
                                              refine anyT_takeY (i := 8) (v := ?_) rfl (by decide +kernel) (by decide +kernel) (by decide +kernel) (by decide +kernel) (fun _ _ _ h => h) (Or.inl ⟨by rfl, ?_⟩) HS0.out ?_; rotate_left 1
                                              · intro w _; go_simp; with_reducible rfl
                                              simp only [Act.put, List.getElem_toArray, List.getElem_cons_zero, List.getElem_cons_succ, List.setIfInBounds_toArray, List.set_cons_zero, List.set_cons_succ]
                                              refine anyT_takeL [12, 13, 16, 18] (i := 9) (v := ?_) rfl (by decide +kernel) (by decide +kernel) (by decide +kernel) (by decide +kernel) (by decide +kernel) (by decide +kernel) (fun _ _ _ h => h) (Or.inl ⟨by rfl, ?_⟩) HS0.out ?_; rotate_left 1
                                              · intro w hS; obtain ⟨s0, s1, s2⟩ := hS; go_simp; with_reducible rfl
                                              simp only [Act.put, List.getElem_toArray, List.getElem_cons_zero, List.getElem_cons_succ, List.setIfInBounds_toArray, List.set_cons_zero, List.set_cons_succ]
                                              refine anyT_takeY (i := 10) (v := ?_) rfl (by decide +kernel) (by decide +kernel) (by decide +kernel) (by decide +kernel) (fun _ _ _ h => h) (Or.inl ⟨by rfl, ?_⟩) HS0.out ?_; rotate_left 1
                                              · intro w _; go_simp; with_reducible rfl
                                              simp only [Act.put, List.getElem_toArray, List.getElem_cons_zero, List.getElem_cons_succ, List.setIfInBounds_toArray, List.set_cons_zero, List.set_cons_succ]
                                              refine anyT_takeL [12, 13, 16, 18] (i := 11) (v := ?_) rfl (by decide +kernel) (by decide +kernel) (by decide +kernel) (by decide +kernel) (by decide +kernel) (by decide +kernel) (fun _ _ _ h => h) (Or.inl ⟨by rfl, ?_⟩) HS0.out ?_; rotate_left 1
                                              · intro w hS; obtain ⟨s0, s1, s2⟩ := hS; go_simp; with_reducible rfl
                                              simp only [Act.put, List.getElem_toArray, List.getElem_cons_zero, List.getElem_cons_succ, List.setIfInBounds_toArray, List.set_cons_zero, List.set_cons_succ]
                                              refine anyT_takeY (i := 12) (v := ?_) rfl (by decide +kernel) (by decide +kernel) (by decide +kernel) (by decide +kernel) (fun _ _ _ h => h) (Or.inl ⟨by rfl, ?_⟩) HS0.out ?_; rotate_left 1
                                              · intro w _; go_simp; with_reducible rfl
                                              simp only [Act.put, List.getElem_toArray, List.getElem_cons_zero, List.getElem_cons_succ, List.setIfInBounds_toArray, List.set_cons_zero, List.set_cons_succ]
                                              refine anyT_takeL [16, 18] (i := 13) (v := ?_) rfl (by decide +kernel) (by decide +kernel) (by decide +kernel) (by decide +kernel) (by decide +kernel) (by decide +kernel) (fun _ _ _ h => h) (Or.inl ⟨by rfl, ?_⟩) HS0.out ?_; rotate_left 1
                                              · intro w hS; obtain ⟨s0, s1, s2⟩ := hS; go_simp; with_reducible rfl
                                              simp only [Act.put, List.getElem_toArray, List.getElem_cons_zero, List.getElem_cons_succ, List.setIfInBounds_toArray, List.set_cons_zero, List.set_cons_succ]
                                              refine anyT_takeY (i := 14) (v := ?_) rfl (by decide +kernel) (by decide +kernel) (by decide +kernel) (by decide +kernel) (fun _ _ _ h => h) (Or.inl ⟨by rfl, ?_⟩) HS0.out ?_; rotate_left 1
                                              · intro w _; go_simp; with_reducible rfl
                                              simp only [Act.put, List.getElem_toArray, List.getElem_cons_zero, List.getElem_cons_succ, List.setIfInBounds_toArray, List.set_cons_zero, List.set_cons_succ]
                                              refine anyT_one (i := 15) (by decide +kernel) rfl (fun KK hK => ?_)
                                              go_simp
                                              refine hK.out _ _ (fun _ => ⟨(HBA.out.cell (p := ⟨nb, td, none⟩) lg0).trans HS0.out.1, (HBA.out.cell (p := ⟨rk, 2, none⟩) lk6).trans HS0.out.2.1, (HBA.out.cell (p := ⟨gd, nx, none⟩) lg1).trans HS0.out.2.2⟩) ?_
                                              clear hK KK
                                              try simp only [Act.put, List.getElem_toArray, List.getElem_cons_zero, List.getElem_cons_succ, List.setIfInBounds_toArray, List.set_cons_zero, List.set_cons_succ]
                                              refine anyT_one (i := 16) (by decide +kernel) rfl (fun KK hK => ?_)
                                              refine step_app _ rfl (.tmp 139) (.tmp 141) 49 rfl EIu rfl HOL8.out rfl (l := 1) rfl (Rd.one _ (.int .i64 y) _) (fun _ _ => rfl) (by unfold maxLen; omega) (by omega) (by simp; omega) (ML + 1) (ML + 1) rfl rfl ?_
                                              intro A4 c4 w8 hown hg4 hat4 hb4
                                              have HN8 := Lib.hid (HI8.out.n3.app HOL8.out hg4)
                                              have HK8 := Lib.hid (row_app HRK8.out HOL8.out hg4 (by decide))
                                              have e0 : w8.cell? ⟨nb, td, none⟩ = some (.slice (some ⟨gd, 0, none⟩) S S) := by rw [HN8.out.hd.cell htdK, HGD.out]
                                              have e1 : w8.cell? ⟨gd, nx, none⟩ = some (.slice AL ML CL) := by rw [HGD.out, (HN8.out.row td htdK).cell hnxS, ← HAL.out.1, ← HAL.out.2.1, ← HAL.out.2.2]
                                              have e2 : w8.cell? ⟨rk, 2, none⟩ = some (.int .i64 (nx : Nat)) := HK8.out.cell (i := 2) (by omega)
                                              have fz := (HN8.out.row td htdK).frozen nx
                                              rw [← HGD.out] at fz
                                              have lg8 : gd < w8.heap.size := by rw [HGD.out]; exact (HN8.out.row td htdK).lt
                                              have HI9 : Hid (IV W (w8.setCell ⟨gd, nx, none⟩ (.slice A4 (ML + 1) c4)) bb w.heap.size n n5 K S nb (20 * c + 4 * q + 2 * (v + 1)) (5 * c + 2 * q + (v + 1)) F F5 (rrU st tc K sc ac T (some ⟨sb, so, none⟩) (some ⟨ab, ao, none⟩)) (up A' (td * S + nx) A4) (up cc' (td * S + nx) c4) (up M' (td * S + nx) (M' (td * S + nx) + 1)) (up L' (td * S + nx) (snoc (L' (td * S + nx)) (M' (td * S + nx)) y)) tch tqh (prD Hh Ss fb c q (v + 1))) := Lib.hid (by
                                                have := HI8.out.push (pr' := prD Hh Ss fb c q (v + 1)) (c := td) (q := nx) (c2 := c4) (A2 := A4) (x := y) htdK hnxS hyb (fun g => by rw [HYV.out g]; unfold prD; omega) (fun g h => by have h2 := (HYV.out g).1 h; have h3 := HGO.out g h2.1 h2.2.1 h2.2.2; exact ⟨h3.1, h3.2.1⟩) (by rw [← HAL.out.2.1]; exact hown) (by rw [← HAL.out.1, ← HAL.out.2.1, ← HAL.out.2.2]; exact hg4) (by rw [← HAL.out.1, ← HAL.out.2.1, ← HAL.out.2.2]; exact hat4)
                                                rw [← HAL.out.2.1, ← HGD.out] at this
                                                rw [← HAL.out.2.1]
                                                exact this.more (Nat.le_refl _) (by omega))
                                              have HSE0 := Lib.hid (And.intro e0 (And.intro e2 e1))
                                              clear hown hg4 hat4 hb4 e0 e2
                                              refine hK.out _ _ (fun _ => HSE0.out) ?_
                                              clear hK KK
                                              try simp only [Act.put, List.getElem_toArray, List.getElem_cons_zero, List.getElem_cons_succ, List.setIfInBounds_toArray, List.set_cons_zero, List.set_cons_succ]
                                              refine anyT_takeY (i := 17) (v := ?_) rfl (by decide +kernel) (by decide +kernel) (by decide +kernel) (by decide +kernel) (fun _ _ _ h => h) (Or.inl ⟨by rfl, ?_⟩) HSE0.out ?_; rotate_left 1
                                              · intro w _; go_simp; with_reducible rfl
                                              simp only [Act.put, List.getElem_toArray, List.getElem_cons_zero, List.getElem_cons_succ, List.setIfInBounds_toArray, List.set_cons_zero, List.set_cons_succ]
                                              refine anyT_one (i := 18) (by decide +kernel) rfl (fun KK hK => ?_)
                                              go_simp
                                              refine hK.out _ _ (fun h => absurd h (by decide +kernel)) ?_
                                              clear hK KK
                                              try simp only [Act.put, List.getElem_toArray, List.getElem_cons_zero, List.getElem_cons_succ, List.setIfInBounds_toArray, List.set_cons_zero, List.set_cons_succ]
                                              refine T_of_any _ _ _ _ (by decide +kernel) ?_
                                              refine wpAny_done (by decide +kernel) ?_ _
                                              go_wp2_with fail
                                              go_roundw
                                              case rel => exact ⟨v + 1, n5, F5, _, _, _, _, A3, m9 + 1, c3, by omega, by go_num, rfl, by omega, Lib.hid ⟨by rw [up_other _ _ (by omega)]; exact HL9'.out.1, by rw [up_other _ _ (by omega)]; exact HL9'.out.2.1, by rw [up_other _ _ (by omega)]; exact HL9'.out.2.2⟩, Lib.hid ⟨by rw [up_other _ _ (by omega)]; exact HL10'.out.1, by rw [up_other _ _ (by omega)]; exact HL10'.out.2.1, by rw [up_other _ _ (by omega)]; exact HL10'.out.2.2⟩, Lib.hid ⟨by rw [up_other _ _ (by omega)]; exact HL6'.out.1, by rw [up_other _ _ (by omega)]; exact HL6'.out.2.1, by rw [up_other _ _ (by omega)]; exact HL6'.out.2.2⟩, HI9, Lib.hid (by rw [up_other _ _ (by omega)]; exact HSG7.out), Lib.hid (HON7.out.other (by omega)), Lib.hid (HHE7.out.other (by omega))⟩
                                              case measure => simp [intOf]; omega
                                      · as_aux_lemma =>
                                          have wb : (wv == 1) = false := beq_eq_false_iff_ne.2 hw1
                                          have k0 := HRK5.out.cell (i := 0) (by omega)
                                          have k1 := HRK5.out.cell (i := 1) (by omega)
                                          have lk5 := HRK5.out.lt
                                          change _ = some (Value.int .i64 wv) at k0
                                          change _ = some (Value.int .i64 mv) at k1
                                          have HON7 : Hid (SemL F5 M L (K * S + 1) (fun g => Hh g = c ∧ (Ss g < q ∨ Ss g = q ∧ fb g < v + 1) ∧ Ss g < st ∧ TR R (Ss g) (3 * fb g) = 1)) := Lib.hid (HON5.out.iff fun g => by
                                            constructor
                                            · rintro ⟨h1, h2, h3, h4⟩
                                              refine ⟨h1, ?_, h3, h4⟩
                                              by_cases h5 : Ss g = q ∧ fb g = v
                                              · exfalso; rw [(HGO.out g h1 h5.1 h5.2).2.2] at h4; exact hw1 h4
                                              · omega
                                            · rintro ⟨h1, h2, h3, h4⟩; exact ⟨h1, by omega, h3, h4⟩)
                                          go_upto_region 27 with fail
                                          obtain ⟨w6, hw6⟩ : ∃ w6 : World, w6 = w5 := ⟨_, rfl⟩
                                          subst hw6
                                          obtain ⟨A', cc', M', L', hA', hcc', hM', hL'⟩ : ∃ (A' : Nat → Option Addr) (cc' M' : Nat → Nat) (L' : Nat → Nat → Int), A' = A ∧ cc' = cc ∧ M' = M ∧ L' = L := ⟨_, _, _, _, rfl, rfl, rfl, rfl⟩
                                          subst hA' hcc' hM' hL'
                                          have HL9' := HL9
                                          have HL10' := HL10
                                          have HL6' := HL6
                                          have HI7 := HI5
                                          have HSG7 := HSG5
                                          have HHE7 := HHE5
                                          have HRK6 := HRK5
                                          have lk6 := lk5
                                          clear HI5 HSG5 HON5 HHE5 HL9 HL10 HL6 k0 k1 HRK5 lk5 wb
                                          have j1 := HRK6.out.cell (i := 1) (by omega)
                                          change _ = some (Value.int .i64 mv) at j1
                                          go_cut [17] (fun s17 wx => s17 = .int .i64 (td : Nat) ∧ wx = w6)
                                          case first =>
                                            as_aux_lemma =>
                                              rcases HCL.out with ⟨h1, h2⟩ | ⟨h1, h2, h3⟩ | ⟨h1, h2, h3⟩
                                              · as_aux_lemma =>
                                                  subst h2
                                                  go_wp2_with fail
                                                  go_meet
                                                  case rel => exact ⟨rfl, rfl⟩
                                              · as_aux_lemma =>
                                                  have HH3 := Lib.hid h3
                                                  clear h3
                                                  go_wp2_with fail
                                                  go_meet
                                                  case rel => exact ⟨by rw [HH3.out], rfl⟩
                                              · as_aux_lemma =>
                                                  have HH3 := Lib.hid h3
                                                  clear h3
                                                  go_wp2_with fail
                                                  go_meet
                                                  case rel => exact ⟨by rw [HH3.out], rfl⟩
                                          case rest =>
                                            as_aux_lemma =>
                                              obtain ⟨hs17, hwc⟩ := hcut
                                              subst hs17
                                              have hwc2 := hwc.symm
                                              subst hwc2
                                              obtain ⟨gd, hgd⟩ : ∃ z, z = nb + 1 + td := ⟨_, rfl⟩
                                              obtain ⟨AL, hAL⟩ : ∃ z, z = A' (td * S + nx) := ⟨_, rfl⟩
                                              obtain ⟨ML, hML⟩ : ∃ z, z = M' (td * S + nx) := ⟨_, rfl⟩
                                              obtain ⟨CL, hCL⟩ : ∃ z, z = cc' (td * S + nx) := ⟨_, rfl⟩
                                              have hi28 : td * S + nx < K * S := leaf_lt htdK hnxS
                                              have g0 := HI7.out.n3.hd.cell htdK
                                              have g1 := (HI7.out.n3.row td htdK).cell hnxS
                                              rw [← hgd] at g0 g1
                                              rw [← hAL, ← hML, ← hCL] at g1
                                              have g2 := HRK6.out.cell (i := 2) (by omega)
                                              change _ = some (Value.int .i64 (nx : Nat)) at g2
                                              have lg0 := HI7.out.n3.hd.lt
                                              have lg1 : gd < w6.heap.size := by rw [hgd]; exact (HI7.out.n3.row td htdK).lt
                                              have HS0 : Hid (w6.drew.cell? ⟨nb, td, none⟩ = some (.slice (some ⟨gd, 0, none⟩) S S) ∧ w6.drew.cell? ⟨rk, 2, none⟩ = some (.int .i64 (nx : Nat)) ∧ w6.drew.cell? ⟨gd, nx, none⟩ = some (.slice AL ML CL)) := Lib.hid ⟨g0, g2, g1⟩
                                              have hML2 : ML ≤ 40 := by rw [hML]; have := HI7.out.mbd _ hi28; omega
                                              have htdI : (td : Int) < (K : Int) := by omega
                                              have hnxI : (nx : Int) < (S : Int) := by omega
                                              have HI8 := Lib.hid (HI7.out.below (((Below.refl w6.heap.size w6).drew).alloc (Nat.le_refl _) (.cells #[.int .i64 y] 3)))
                                              have HOL8 : Hid (Own (w6.drew.alloc (.cells #[.int .i64 y] 3)) nb 3 1 AL ML CL ML (fun j => .int .i64 (L' (td * S + nx) j))) := Lib.hid (by rw [hAL, hML, hCL]; exact HI8.out.fam.own _ (by omega))
                                              have HBA : Hid (Below w6.heap.size w6 (w6.drew.alloc (.cells #[.int .i64 y] 3))) := Lib.hid (((Below.refl w6.heap.size w6).drew).alloc (Nat.le_refl _) _)
                                              have hsz6 := HI7.out.size
                                              have HRK8 := Lib.hid ((show w6.drew.rowIs rk _ 3 _ from HRK6.out).alloc (.cells #[.int .i64 y] 3))
                                              have HGD := Lib.hid hgd
                                              have HAL := Lib.hid (And.intro hAL (And.intro hML hCL))
                                              clear hgd hAL hML hCL g0 g1 g2 HS
                                              go_wp2_with fail
                                              refine wp_region_any (by kernel_rfl) ?_
                                              change wpAny _ _ _ _ _ _ _ (World.drew _)
                                              refine any_of_T (S := fun W' => W'.cell? ⟨nb, td, none⟩ = some (.slice (some ⟨gd, 0, none⟩) S S) ∧ W'.cell? ⟨rk, 2, none⟩ = some (.int .i64 (nx : Nat)) ∧ W'.cell? ⟨gd, nx, none⟩ = some (.slice AL ML CL)) (c := 18) _ _ _ _ ?_
                                              refine anyT_takeY (i := 0) (v := ?_) rfl (by decide +kernel) (by decide +kernel) (by decide +kernel) (by decide +kernel) (fun _ _ _ h => h) (Or.inl ⟨by rfl, ?_⟩) HS0.out ?_; rotate_left 1
                                              · intro w _; go_simp; with_reducible rfl
                                              simp only [Act.put, List.getElem_toArray, List.getElem_cons_zero, List.getElem_cons_succ, List.setIfInBounds_toArray, List.set_cons_zero, List.set_cons_succ]
                                              refine anyT_takeY (i := 1) (v := ?_) rfl (by decide +kernel) (by decide +kernel) (by decide +kernel) (by decide +kernel) (fun _ _ _ h => h) (Or.inl ⟨by rfl, ?_⟩) HS0.out ?_; rotate_left 1
                                              · intro w _; go_simp; with_reducible rfl
                                              simp only [Act.put, List.getElem_toArray, List.getElem_cons_zero, List.getElem_cons_succ, List.setIfInBounds_toArray, List.set_cons_zero, List.set_cons_succ]
                                              refine anyT_takeY (i := 2) (v := ?_) rfl (by decide +kernel) (by decide +kernel) (by decide +kernel) (by decide +kernel) (fun _ _ _ h => h) (Or.inl ⟨by rfl, ?_⟩) HS0.out ?_; rotate_left 1
                                              · intro w _; go_simp; with_reducible rfl
                                              simp only [Act.put, List.getElem_toArray, List.getElem_cons_zero, List.getElem_cons_succ, List.setIfInBounds_toArray, List.set_cons_zero, List.set_cons_succ]
                                              refine anyT_takeL [17, 18] (i := 3) (v := ?_) rfl (by decide +kernel) (by decide +kernel) (by decide +kernel) (by decide +kernel) (by decide +kernel) (by decide +kernel) (fun _ _ _ h => h) (Or.inl ⟨by rfl, ?_⟩) HS0.out ?_; rotate_left 1
                                              · intro w hS; obtain ⟨s0, s1, s2⟩ := hS; go_simp; with_reducible rfl
                                              simp only [Act.put, List.getElem_toArray, List.getElem_cons_zero, List.getElem_cons_succ, List.setIfInBounds_toArray, List.set_cons_zero, List.set_cons_succ]
                                              refine anyT_takeY (i := 4) (v := ?_) rfl (by decide +kernel) (by decide +kernel) (by decide +kernel) (by decide +kernel) (fun _ _ _ h => h) (Or.inl ⟨by rfl, ?_⟩) HS0.out ?_; rotate_left 1
                                              · intro w _; go_simp; with_reducible rfl
                                              simp only [Act.put, List.getElem_toArray, List.getElem_cons_zero, List.getElem_cons_succ, List.setIfInBounds_toArray, List.set_cons_zero, List.set_cons_succ]
                                              refine anyT_takeL [17, 18] (i := 5) (v := ?_) rfl (by decide +kernel) (by decide +kernel) (by decide +kernel) (by decide +kernel) (by decide +kernel) (by decide +kernel) (fun _ _ _ h => h) (Or.inl ⟨by rfl, ?_⟩) HS0.out ?_; rotate_left 1
                                              · intro w hS; obtain ⟨s0, s1, s2⟩ := hS; go_simp; with_reducible rfl
                                              simp only [Act.put, List.getElem_toArray, List.getElem_cons_zero, List.getElem_cons_succ, List.setIfInBounds_toArray, List.set_cons_zero, List.set_cons_succ]
                                              refine anyT_takeY (i := 6) (v := ?_) rfl (by decide +kernel) (by decide +kernel) (by decide +kernel) (by decide +kernel) (fun _ _ _ h => h) (Or.inl ⟨by rfl, ?_⟩) HS0.out ?_; rotate_left 1
                                              · intro w _; go_simp; with_reducible rfl
                                              simp only [Act.put, List.getElem_toArray, List.getElem_cons_zero, List.getElem_cons_succ, List.setIfInBounds_toArray, List.set_cons_zero, List.set_cons_succ]
                                              refine anyT_takeY (i := 7) (v := ?_) rfl (by decide +kernel) (by decide +kernel) (by decide +kernel) (by decide +kernel) (fun _ _ _ h => h) (Or.inl ⟨by rfl, ?_⟩) HS0.out ?_; rotate_left 1
                                              · intro w _; go_simp; with_reducible rfl
                                              simp only [Act.put, List.getElem_toArray, List.getElem_cons_zero, List.getElem_cons_succ, List.setIfInBounds_toArray, List.set_cons_zero, List.set_cons_succ]
                                              refine anyT_takeY (i := 8) (v := ?_) rfl (by decide +kernel) (by decide +kernel) (by decide +kernel) (by decide +kernel) (fun _ _ _ h => h) (Or.inl ⟨by rfl, ?_⟩) HS0.out ?_; rotate_left 1
                                              · intro w _; go_simp; with_reducible rfl
                                              simp only [Act.put, List.getElem_toArray, List.getElem_cons_zero, List.getElem_cons_succ, List.setIfInBounds_toArray, List.set_cons_zero, List.set_cons_succ]
                                              refine anyT_takeL [12, 13, 16, 18] (i := 9) (v := ?_) rfl (by decide +kernel) (by decide +kernel) (by decide +kernel) (by decide +kernel) (by decide +kernel) (by decide +kernel) (fun _ _ _ h => h) (Or.inl ⟨by rfl, ?_⟩) HS0.out ?_; rotate_left 1
                                              · intro w hS; obtain ⟨s0, s1, s2⟩ := hS; go_simp; with_reducible rfl
                                              simp only [Act.put, List.getElem_toArray, List.getElem_cons_zero, List.getElem_cons_succ, List.setIfInBounds_toArray, List.set_cons_zero, List.set_cons_succ]
                                              refine anyT_takeY (i := 10) (v := ?_) rfl (by decide +kernel) (by decide +kernel) (by decide +kernel) (by decide +kernel) (fun _ _ _ h => h) (Or.inl ⟨by rfl, ?_⟩) HS0.out ?_; rotate_left 1
                                              · intro w _; go_simp; with_reducible rfl
                                              simp only [Act.put, List.getElem_toArray, List.getElem_cons_zero, List.getElem_cons_succ, List.setIfInBounds_toArray, List.set_cons_zero, List.set_cons_succ]
                                              refine anyT_takeL [12, 13, 16, 18] (i := 11) (v := ?_) rfl (by decide +kernel) (by decide +kernel) (by decide +kernel) (by decide +kernel) (by decide +kernel) (by decide +kernel) (fun _ _ _ h => h) (Or.inl ⟨by rfl, ?_⟩) HS0.out ?_; rotate_left 1
                                              · intro w hS; obtain ⟨s0, s1, s2⟩ := hS; go_simp; with_reducible rfl
                                              simp only [Act.put, List.getElem_toArray, List.getElem_cons_zero, List.getElem_cons_succ, List.setIfInBounds_toArray, List.set_cons_zero, List.set_cons_succ]
                                              refine anyT_takeY (i := 12) (v := ?_) rfl (by decide +kernel) (by decide +kernel) (by decide +kernel) (by decide +kernel) (fun _ _ _ h => h) (Or.inl ⟨by rfl, ?_⟩) HS0.out ?_; rotate_left 1
                                              · intro w _; go_simp; with_reducible rfl
                                              simp only [Act.put, List.getElem_toArray, List.getElem_cons_zero, List.getElem_cons_succ, List.setIfInBounds_toArray, List.set_cons_zero, List.set_cons_succ]
                                              refine anyT_takeL [16, 18] (i := 13) (v := ?_) rfl (by decide +kernel) (by decide +kernel) (by decide +kernel) (by decide +kernel) (by decide +kernel) (by decide +kernel) (fun _ _ _ h => h) (Or.inl ⟨by rfl, ?_⟩) HS0.out ?_; rotate_left 1
                                              · intro w hS; obtain ⟨s0, s1, s2⟩ := hS; go_simp; with_reducible rfl
                                              simp only [Act.put, List.getElem_toArray, List.getElem_cons_zero, List.getElem_cons_succ, List.setIfInBounds_toArray, List.set_cons_zero, List.set_cons_succ]
                                              refine anyT_takeY (i := 14) (v := ?_) rfl (by decide +kernel) (by decide +kernel) (by decide +kernel) (by decide +kernel) (fun _ _ _ h => h) (Or.inl ⟨by rfl, ?_⟩) HS0.out ?_; rotate_left 1
                                              · intro w _; go_simp; with_reducible rfl
                                              simp only [Act.put, List.getElem_toArray, List.getElem_cons_zero, List.getElem_cons_succ, List.setIfInBounds_toArray, List.set_cons_zero, List.set_cons_succ]
                                              refine anyT_one (i := 15) (by decide +kernel) rfl (fun KK hK => ?_)
                                              go_simp
                                              refine hK.out _ _ (fun _ => ⟨(HBA.out.cell (p := ⟨nb, td, none⟩) lg0).trans HS0.out.1, (HBA.out.cell (p := ⟨rk, 2, none⟩) lk6).trans HS0.out.2.1, (HBA.out.cell (p := ⟨gd, nx, none⟩) lg1).trans HS0.out.2.2⟩) ?_
                                              clear hK KK
                                              try simp only [Act.put, List.getElem_toArray, List.getElem_cons_zero, List.getElem_cons_succ, List.setIfInBounds_toArray, List.set_cons_zero, List.set_cons_succ]
                                              refine anyT_one (i := 16) (by decide +kernel) rfl (fun KK hK => ?_)
                                              refine step_app _ rfl (.tmp 139) (.tmp 141) 49 rfl EIu rfl HOL8.out rfl (l := 1) rfl (Rd.one _ (.int .i64 y) _) (fun _ _ => rfl) (by unfold maxLen; omega) (by omega) (by simp; omega) (ML + 1) (ML + 1) rfl rfl ?_
                                              intro A4 c4 w8 hown hg4 hat4 hb4
                                              have HN8 := Lib.hid (HI8.out.n3.app HOL8.out hg4)
                                              have HK8 := Lib.hid (row_app HRK8.out HOL8.out hg4 (by decide))
                                              have e0 : w8.cell? ⟨nb, td, none⟩ = some (.slice (some ⟨gd, 0, none⟩) S S) := by rw [HN8.out.hd.cell htdK, HGD.out]
                                              have e1 : w8.cell? ⟨gd, nx, none⟩ = some (.slice AL ML CL) := by rw [HGD.out, (HN8.out.row td htdK).cell hnxS, ← HAL.out.1, ← HAL.out.2.1, ← HAL.out.2.2]
                                              have e2 : w8.cell? ⟨rk, 2, none⟩ = some (.int .i64 (nx : Nat)) := HK8.out.cell (i := 2) (by omega)
                                              have fz := (HN8.out.row td htdK).frozen nx
                                              rw [← HGD.out] at fz
                                              have lg8 : gd < w8.heap.size := by rw [HGD.out]; exact (HN8.out.row td htdK).lt
                                              have HI9 : Hid (IV W (w8.setCell ⟨gd, nx, none⟩ (.slice A4 (ML + 1) c4)) bb w.heap.size n n5 K S nb (20 * c + 4 * q + 2 * (v + 1)) (5 * c + 2 * q + (v + 1)) F F5 (rrU st tc K sc ac T (some ⟨sb, so, none⟩) (some ⟨ab, ao, none⟩)) (up A' (td * S + nx) A4) (up cc' (td * S + nx) c4) (up M' (td * S + nx) (M' (td * S + nx) + 1)) (up L' (td * S + nx) (snoc (L' (td * S + nx)) (M' (td * S + nx)) y)) tch tqh (prD Hh Ss fb c q (v + 1))) := Lib.hid (by
                                                have := HI8.out.push (pr' := prD Hh Ss fb c q (v + 1)) (c := td) (q := nx) (c2 := c4) (A2 := A4) (x := y) htdK hnxS hyb (fun g => by rw [HYV.out g]; unfold prD; omega) (fun g h => by have h2 := (HYV.out g).1 h; have h3 := HGO.out g h2.1 h2.2.1 h2.2.2; exact ⟨h3.1, h3.2.1⟩) (by rw [← HAL.out.2.1]; exact hown) (by rw [← HAL.out.1, ← HAL.out.2.1, ← HAL.out.2.2]; exact hg4) (by rw [← HAL.out.1, ← HAL.out.2.1, ← HAL.out.2.2]; exact hat4)
                                                rw [← HAL.out.2.1, ← HGD.out] at this
                                                rw [← HAL.out.2.1]
                                                exact this.more (Nat.le_refl _) (by omega))
                                              have HSE0 := Lib.hid (And.intro e0 (And.intro e2 e1))
                                              clear hown hg4 hat4 hb4 e0 e2
                                              refine hK.out _ _ (fun _ => HSE0.out) ?_
                                              clear hK KK
                                              try simp only [Act.put, List.getElem_toArray, List.getElem_cons_zero, List.getElem_cons_succ, List.setIfInBounds_toArray, List.set_cons_zero, List.set_cons_succ]
                                              refine anyT_takeY (i := 17) (v := ?_) rfl (by decide +kernel) (by decide +kernel) (by decide +kernel) (by decide +kernel) (fun _ _ _ h => h) (Or.inl ⟨by rfl, ?_⟩) HSE0.out ?_; rotate_left 1
                                              · intro w _; go_simp; with_reducible rfl
                                              simp only [Act.put, List.getElem_toArray, List.getElem_cons_zero, List.getElem_cons_succ, List.setIfInBounds_toArray, List.set_cons_zero, List.set_cons_succ]
                                              refine anyT_one (i := 18) (by decide +kernel) rfl (fun KK hK => ?_)
                                              go_simp
                                              refine hK.out _ _ (fun h => absurd h (by decide +kernel)) ?_
                                              clear hK KK
                                              try simp only [Act.put, List.getElem_toArray, List.getElem_cons_zero, List.getElem_cons_succ, List.setIfInBounds_toArray, List.set_cons_zero, List.set_cons_succ]
                                              refine T_of_any _ _ _ _ (by decide +kernel) ?_
                                              refine wpAny_done (by decide +kernel) ?_ _
                                              go_wp2_with fail
                                              go_roundw
                                              case rel => exact ⟨v + 1, n5, F5, _, _, _, _, A9, m9, c9, by omega, by go_num, rfl, by omega, Lib.hid ⟨by rw [up_other _ _ (by omega)]; exact HL9'.out.1, by rw [up_other _ _ (by omega)]; exact HL9'.out.2.1, by rw [up_other _ _ (by omega)]; exact HL9'.out.2.2⟩, Lib.hid ⟨by rw [up_other _ _ (by omega)]; exact HL10'.out.1, by rw [up_other _ _ (by omega)]; exact HL10'.out.2.1, by rw [up_other _ _ (by omega)]; exact HL10'.out.2.2⟩, Lib.hid ⟨by rw [up_other _ _ (by omega)]; exact HL6'.out.1, by rw [up_other _ _ (by omega)]; exact HL6'.out.2.1, by rw [up_other _ _ (by omega)]; exact HL6'.out.2.2⟩, HI9, Lib.hid (by rw [up_other _ _ (by omega)]; exact HSG7.out), Lib.hid (HON7.out.other (by omega)), Lib.hid (HHE7.out.other (by omega))⟩
                                              case measure => simp [intOf]; omega
                                  · as_aux_lemma =>
                                      have vb : ((v : Int) == 0) = false := beq_eq_false_iff_ne.2 (by omega)
                                      have HV1 := Lib.hid hv1
                                      clear hv1
                                      go_wp2_with fail
                                      rw [← HRKE.out, ← HW4.out]
                                      refine (both_any HI4.out.bt.bs (by omega) (by omega) x s ⟨hxv.1, by omega⟩ ⟨hsv.1, by omega⟩).mono ?_
                                      rintro e w5 ⟨y, n5, F5, rfl, hbt, hyb, hyv⟩
                                      have HBT5 : Hid (BT w4 w5 bb w.heap.size n3 n5 K 2 F3 F5 (rrU st tc K sc ac T (some ⟨sb, so, none⟩) (some ⟨ab, ao, none⟩))) := Lib.hid (hbt.more (by omega))
                                      have HYV : Hid (∀ g, vx F5 g y = true ↔ Hh g = c ∧ Ss g = q ∧ fb g = v) := Lib.hid fun g => by
                                        rw [hyv g]
                                        show (vx F3 g x && vx F3 g s) = true ↔ _
                                        rw [HI4.out.bt.vx g hxv.2, HI4.out.bt.vx g hsv.2, Bool.and_eq_true, HXV.out g, HSS.out, (HS.out g c hcK).1, HV1.out]
                                        constructor
                                        · rintro ⟨⟨h1, h2⟩, h3⟩; exact ⟨h1, h2, by rw [HFB.out g, h1]; exact h3⟩
                                        · rintro ⟨h1, h2, h3⟩; exact ⟨⟨h1, h2⟩, by rw [HFB.out g, h1] at h3; exact h3⟩
                                      clear hbt hyv
                                      have HSG5 : Hid (∀ g c', c' < c → (vx F5 g (L (K * S) c') = true ↔ Fb' g c')) := Lib.hid fun g c' hc' => by
                                        rw [HBT5.out.vx g (HI4.out.ok (K * S) (by omega) c' (by rw [HL6.out.2.1]; exact hc')).2]; exact HSG.out g c' hc'
                                      have HON5 := Lib.hid (HON.out.ext HI4.out.ok (by omega) HBT5.out.ext)
                                      have HHE5 := Lib.hid (HHE.out.ext HI4.out.ok (by omega) HBT5.out.ext)
                                      have HI5 : Hid (IV W w5 bb w.heap.size n n5 K S nb (20 * c + 4 * q + 2 * (v + 1)) (5 * c + 2 * q + v) F F5 (rrU st tc K sc ac T (some ⟨sb, so, none⟩) (some ⟨ab, ao, none⟩)) A cc M L tch tqh (prD Hh Ss fb c q v)) := Lib.hid ((HI4.out.call HBT5.out).more (by omega) (Nat.le_refl _))
                                      have HRK5 := Lib.hid (row_bt HRK4.out HI4.out.bt.bs HBT5.out (by decide) (by decide))
                                      have hn5 := HI5.out.size
                                      clear HI4 HRK4 HBT5 HON HHE HSG
                                      by_cases hw1 : wv = 1
                                      · as_aux_lemma =>
                                          have HO9 : Hid (Own w5 nb 3 1 A9 m9 c9 m9 (fun j => .int .i64 (L (K * S + 1) j))) := Lib.hid (by
                                            have := HI5.out.fam.own (K * S + 1) (by omega)
                                            rw [HL9.out.1, HL9.out.2.1, HL9.out.2.2] at this; exact this)
                                          have hb5 : nb ≤ (w5.alloc (.cells #[.int .i64 y] 3)).heap.size := by simp; omega
                                          have k0 := HRK5.out.cell (i := 0) (by omega)
                                          have k1 := HRK5.out.cell (i := 1) (by omega)
                                          have lk5 := HRK5.out.lt
                                          change _ = some (Value.int .i64 wv) at k0
                                          change _ = some (Value.int .i64 mv) at k1
                                          go_upto_region 27 with (at_builtin; refine wpList_app _ rfl (.tmp 114) (.tmp 116) 49 rfl EIu rfl (HO9.out.alloc _) rfl (l := 1) (by omega) (Rd.one w5 (.int .i64 y) _) (fun _ _ => rfl) (by unfold maxLen; omega) (by omega) hb5 (m9 + 1) (m9 + 1) rfl rfl ?_; intro A3 c3 w6 hown2 hg2 hat2 hbl2; have HI6 := Lib.hid ((HI5.out.below ((Below.refl w5.heap.size w5).alloc (Nat.le_refl _) (.cells #[.int .i64 y] 3))).app (i := K * S + 1) (A2 := A3) (c2 := c3) (x := y) (by omega) (by omega) hyb (by rw [HL9.out.2.1]; exact hown2) (by rw [HL9.out.1, HL9.out.2.1, HL9.out.2.2]; exact hg2) (by rw [HL9.out.1, HL9.out.2.1, HL9.out.2.2]; exact hat2)); have HRK6 := Lib.hid (row_app (HRK5.out.alloc (.cells #[.int .i64 y] 3)) (HO9.out.alloc (.cells #[.int .i64 y] 3)) hg2 (by decide)); have j1 := HRK6.out.cell (i := 1) (by omega); change _ = some (Value.int .i64 mv) at j1; have lk6 := HRK6.out.lt; clear hown2 hg2 hat2 hbl2)
                                          have HP6 : ∃ (A' : Nat → Option Addr) (cc' M' : Nat → Nat) (L' : Nat → Nat → Int), Hid (A' (K * S + 1) = A3 ∧ M' (K * S + 1) = m9 + 1 ∧ cc' (K * S + 1) = c3) ∧ Hid (A' (K * S + 2) = A2 ∧ M' (K * S + 2) = q + 1 ∧ cc' (K * S + 2) = c2) ∧ Hid (A' (K * S) = A6 ∧ M' (K * S) = c ∧ cc' (K * S) = c6) ∧ Hid (IV W w6 bb w.heap.size n n5 K S nb (20 * c + 4 * q + 2 * (v + 1)) (5 * c + 2 * q + v) F F5 (rrU st tc K sc ac T (some ⟨sb, so, none⟩) (some ⟨ab, ao, none⟩)) A' cc' M' L' tch tqh (prD Hh Ss fb c q v)) ∧ Hid (∀ g c', c' < c → (vx F5 g (L' (K * S) c') = true ↔ Fb' g c')) ∧ Hid (SemL F5 M' L' (K * S + 1) (fun g => Hh g = c ∧ (Ss g < q ∨ Ss g = q ∧ fb g < v + 1) ∧ Ss g < st ∧ TR R (Ss g) (3 * fb g) = 1)) ∧ Hid (SemL F5 M' L' (K * S + 2) (fun g => Hh g = c ∧ Ss g < q + 1)) := by
                                            refine ⟨_, _, _, _, Lib.hid ?_, Lib.hid ?_, Lib.hid ?_, HI6, Lib.hid ?_, Lib.hid (HON5.out.push fun g => ?_), Lib.hid (HHE5.out.other (by omega))⟩
                                            · refine ⟨?_, ?_, ?_⟩ <;> rw [up_same]
                                              rw [HL9.out.2.1]
                                            · refine ⟨?_, ?_, ?_⟩ <;> rw [up_other _ _ (by omega)]
                                              · exact HL10.out.1
                                              · exact HL10.out.2.1
                                              · exact HL10.out.2.2
                                            · refine ⟨?_, ?_, ?_⟩ <;> rw [up_other _ _ (by omega)]
                                              · exact HL6.out.1
                                              · exact HL6.out.2.1
                                              · exact HL6.out.2.2
                                            · rw [up_other _ _ (by omega)]; exact HSG5.out
                                            · rw [HYV.out g]
                                              constructor
                                              · rintro ⟨h1, h2, h3, h4⟩
                                                by_cases h5 : Ss g < q ∨ Ss g = q ∧ fb g < v
                                                · exact .inl ⟨h1, h5, h3, h4⟩
                                                · exact .inr ⟨h1, by omega, by omega⟩
                                              · rintro (⟨h1, h2, h3, h4⟩ | ⟨h1, h2, h3⟩)
                                                · exact ⟨h1, by omega, h3, h4⟩
                                                · exact ⟨h1, by omega, by omega, by rw [(HGO.out g h1 h2 h3).2.2]; exact hw1⟩
                                          obtain ⟨A', cc', M', L', HL9', HL10', HL6', HI7, HSG7, HON7, HHE7⟩ := HP6
                                          clear HI6 HI5 HSG5 HON5 HHE5 HL9 HL10 HL6 k0 k1 hb5 HO9 j1 HRK5 lk5
                                          have j1 := HRK6.out.cell (i := 1) (by omega)
                                          change _ = some (Value.int .i64 mv) at j1
                                          go_cut [17] (fun s17 wx => s17 = .int .i64 (td : Nat) ∧ wx = w6)
                                          case first =>
                                            as_aux_lemma =>
                                              rcases HCL.out with ⟨h1, h2⟩ | ⟨h1, h2, h3⟩ | ⟨h1, h2, h3⟩
                                              · as_aux_lemma =>
                                                  subst h2
                                                  go_wp2_with fail
                                                  go_meet
                                                  case rel => exact ⟨rfl, rfl⟩
                                              · as_aux_lemma =>
                                                  have HH3 := Lib.hid h3
                                                  clear h3
                                                  go_wp2_with fail
                                                  go_meet
                                                  case rel => exact ⟨by rw [HH3.out], rfl⟩
                                              · as_aux_lemma =>
                                                  have HH3 := Lib.hid h3
                                                  clear h3
                                                  go_wp2_with fail
                                                  go_meet
                                                  case rel => exact ⟨by rw [HH3.out], rfl⟩
                                          case rest =>
                                            as_aux_lemma =>
                                              obtain ⟨hs17, hwc⟩ := hcut
                                              subst hs17
                                              have hwc2 := hwc.symm
                                              subst hwc2
                                              obtain ⟨gd, hgd⟩ : ∃ z, z = nb + 1 + td := ⟨_, rfl⟩
                                              obtain ⟨AL, hAL⟩ : ∃ z, z = A' (td * S + nx) := ⟨_, rfl⟩
                                              obtain ⟨ML, hML⟩ : ∃ z, z = M' (td * S + nx) := ⟨_, rfl⟩
                                              obtain ⟨CL, hCL⟩ : ∃ z, z = cc' (td * S + nx) := ⟨_, rfl⟩
                                              have hi28 : td * S + nx < K * S := leaf_lt htdK hnxS
                                              have g0 := HI7.out.n3.hd.cell htdK
                                              have g1 := (HI7.out.n3.row td htdK).cell hnxS
                                              rw [← hgd] at g0 g1
                                              rw [← hAL, ← hML, ← hCL] at g1
                                              have g2 := HRK6.out.cell (i := 2) (by omega)
                                              change _ = some (Value.int .i64 (nx : Nat)) at g2
                                              have lg0 := HI7.out.n3.hd.lt
                                              have lg1 : gd < w6.heap.size := by rw [hgd]; exact (HI7.out.n3.row td htdK).lt
                                              have HS0 : Hid (w6.drew.cell? ⟨nb, td, none⟩ = some (.slice (some ⟨gd, 0, none⟩) S S) ∧ w6.drew.cell? ⟨rk, 2, none⟩ = some (.int .i64 (nx : Nat)) ∧ w6.drew.cell? ⟨gd, nx, none⟩ = some (.slice AL ML CL)) := Lib.hid ⟨g0, g2, g1⟩
                                              have hML2 : ML ≤ 40 := by rw [hML]; have := HI7.out.mbd _ hi28; omega
                                              have htdI : (td : Int) < (K : Int) := by omega
                                              have hnxI : (nx : Int) < (S : Int) := by omega
                                              have HI8 := Lib.hid (HI7.out.below (((Below.refl w6.heap.size w6).drew).alloc (Nat.le_refl _) (.cells #[.int .i64 y] 3)))
                                              have HOL8 : Hid (Own (w6.drew.alloc (.cells #[.int .i64 y] 3)) nb 3 1 AL ML CL ML (fun j => .int .i64 (L' (td * S + nx) j))) := Lib.hid (by rw [hAL, hML, hCL]; exact HI8.out.fam.own _ (by omega))
                                              have HBA : Hid (Below w6.heap.size w6 (w6.drew.alloc (.cells #[.int .i64 y] 3))) := Lib.hid (((Below.refl w6.heap.size w6).drew).alloc (Nat.le_refl _) _)
                                              have hsz6 := HI7.out.size
                                              have HRK8 := Lib.hid ((show w6.drew.rowIs rk _ 3 _ from HRK6.out).alloc (.cells #[.int .i64 y] 3))
                                              have HGD := Lib.hid hgd
                                              have HAL := Lib.hid (And.intro hAL (And.intro hML hCL))
                                              clear hgd hAL hML hCL g0 g1 g2 HS
                                              go_wp2_with fail
                                              refine wp_region_any (by kernel_rfl) ?_
                                              change wpAny _ _ _ _ _ _ _ (World.drew _)
                                              refine any_of_T (S := fun W' => W'.cell? ⟨nb, td, none⟩ = some (.slice (some ⟨gd, 0, none⟩) S S) ∧ W'.cell? ⟨rk, 2, none⟩ = some (.int .i64 (nx : Nat)) ∧ W'.cell? ⟨gd, nx, none⟩ = some (.slice AL ML CL)) (c := 18) _ _ _ _ ?_
                                              refine anyT_takeY (i := 0) (v := ?_) rfl (by decide +kernel) (by decide +kernel) (by decide +kernel) (by decide +kernel) (fun _ _ _ h => h) (Or.inl ⟨by rfl, ?_⟩) HS0.out ?_; rotate_left 1
                                              · intro w _; go_simp; with_reducible rfl
                                              simp only [Act.put, List.getElem_toArray, List.getElem_cons_zero, List.getElem_cons_succ, List.setIfInBounds_toArray, List.set_cons_zero, List.set_cons_succ]
                                              refine anyT_takeY (i := 1) (v := ?_) rfl (by decide +kernel) (by decide +kernel) (by decide +kernel) (by decide +kernel) (fun _ _ _ h => h) (Or.inl ⟨by rfl, ?_⟩) HS0.out ?_; rotate_left 1
                                              · intro w _; go_simp; with_reducible rfl
                                              simp only [Act.put, List.getElem_toArray, List.getElem_cons_zero, List.getElem_cons_succ, List.setIfInBounds_toArray, List.set_cons_zero, List.set_cons_succ]
                                              refine anyT_takeY (i := 2) (v := ?_) rfl (by decide +kernel) (by decide +kernel) (by decide +kernel) (by decide +kernel) (fun _ _ _ h => h) (Or.inl ⟨by rfl, ?_⟩) HS0.out ?_; rotate_left 1
                                              · intro w _; go_simp; with_reducible rfl
                                              simp only [Act.put, List.getElem_toArray, List.getElem_cons_zero, List.getElem_cons_succ, List.setIfInBounds_toArray, List.set_cons_zero, List.set_cons_succ]
                                              refine anyT_takeL [17, 18] (i := 3) (v := ?_) rfl (by decide +kernel) (by decide +kernel) (by decide +kernel) (by decide +kernel) (by decide +kernel) (by decide +kernel) (fun _ _ _ h => h) (Or.inl ⟨by rfl, ?_⟩) HS0.out ?_; rotate_left 1
                                              · intro w hS; obtain ⟨s0, s1, s2⟩ := hS; go_simp; with_reducible rfl
                                              simp only [Act.put, List.getElem_toArray, List.getElem_cons_zero, List.getElem_cons_succ, List.setIfInBounds_toArray, List.set_cons_zero, List.set_cons_succ]
                                              refine anyT_takeY (i := 4) (v := ?_) rfl (by decide +kernel) (by decide +kernel) (by decide +kernel) (by decide +kernel) (fun _ _ _ h => h) (Or.inl ⟨by rfl, ?_⟩) HS0.out ?_; rotate_left 1
                                              · intro w _; go_simp; with_reducible rfl
                                              simp only [Act.put, List.getElem_toArray, List.getElem_cons_zero, List.getElem_cons_succ, List.setIfInBounds_toArray, List.set_cons_zero, List.set_cons_succ]
                                              refine anyT_takeL [17, 18] (i := 5) (v := ?_) rfl (by decide +kernel) (by decide +kernel) (by decide +kernel) (by decide +kernel) (by decide +kernel) (by decide +kernel) (fun _ _ _ h => h) (Or.inl ⟨by rfl, ?_⟩) HS0.out ?_; rotate_left 1
                                              · intro w hS; obtain ⟨s0, s1, s2⟩ := hS; go_simp; with_reducible rfl
                                              simp only [Act.put, List.getElem_toArray, List.getElem_cons_zero, List.getElem_cons_succ, List.setIfInBounds_toArray, List.set_cons_zero, List.set_cons_succ]
                                              refine anyT_takeY (i := 6) (v := ?_) rfl (by decide +kernel) (by decide +kernel) (by decide +kernel) (by decide +kernel) (fun _ _ _ h => h) (Or.inl ⟨by rfl, ?_⟩) HS0.out ?_; rotate_left 1
                                              · intro w _; go_simp; with_reducible rfl
                                              simp only [Act.put, List.getElem_toArray, List.getElem_cons_zero, List.getElem_cons_succ, List.setIfInBounds_toArray, List.set_cons_zero, List.set_cons_succ]
                                              refine anyT_takeY (i := 7) (v := ?_) rfl (by decide +kernel) (by decide +kernel) (by decide +kernel) (by decide +kernel) (fun _ _ _ h => h) (Or.inl ⟨by rfl, ?_⟩) HS0.out ?_; rotate_left 1
                                              · intro w _; go_simp; with_reducible rfl
                                              simp only [Act.put, List.getElem_toArray, List.getElem_cons_zero, List.getElem_cons_succ, List.setIfInBounds_toArray, List.set_cons_zero, List.set_cons_succ]
                                              refine anyT_takeY (i := 8) (v := ?_) rfl (by decide +kernel) (by decide +kernel) (by decide +kernel) (by decide +kernel) (fun _ _ _ h => h) (Or.inl ⟨by rfl, ?_⟩) HS0.out ?_; rotate_left 1
                                              · intro w _; go_simp; with_reducible rfl
                                              simp only [Act.put, List.getElem_toArray, List.getElem_cons_zero, List.getElem_cons_succ, List.setIfInBounds_toArray, List.set_cons_zero, List.set_cons_succ]
                                              refine anyT_takeL [12, 13, 16, 18] (i := 9) (v := ?_) rfl (by decide +kernel) (by decide +kernel) (by decide +kernel) (by decide +kernel) (by decide +kernel) (by decide +kernel) (fun _ _ _ h => h) (Or.inl ⟨by rfl, ?_⟩) HS0.out ?_; rotate_left 1
                                              · intro w hS; obtain ⟨s0, s1, s2⟩ := hS; go_simp; with_reducible rfl
                                              simp only [Act.put, List.getElem_toArray, List.getElem_cons_zero, List.getElem_cons_succ, List.setIfInBounds_toArray, List.set_cons_zero, List.set_cons_succ]
                                              refine anyT_takeY (i := 10) (v := ?_) rfl (by decide +kernel) (by decide +kernel) (by decide +kernel) (by decide +kernel) (fun _ _ _ h => h) (Or.inl ⟨by rfl, ?_⟩) HS0.out ?_; rotate_left 1
                                              · intro w _; go_simp; with_reducible rfl
                                              simp only [Act.put, List.getElem_toArray, List.getElem_cons_zero, List.getElem_cons_succ, List.setIfInBounds_toArray, List.set_cons_zero, List.set_cons_succ]
                                              refine anyT_takeL [12, 13, 16, 18] (i := 11) (v := ?_) rfl (by decide +kernel) (by decide +kernel) (by decide +kernel) (by decide +kernel) (by decide +kernel) (by decide +kernel) (fun _ _ _ h => h) (Or.inl ⟨by rfl, ?_⟩) HS0.out ?_; rotate_left 1
                                              · intro w hS; obtain ⟨s0, s1, s2⟩ := hS; go_simp; with_reducible rfl
                                              simp only [Act.put, List.getElem_toArray, List.getElem_cons_zero, List.getElem_cons_succ, List.setIfInBounds_toArray, List.set_cons_zero, List.set_cons_succ]
                                              refine anyT_takeY (i := 12) (v := ?_) rfl (by decide +kernel) (by decide +kernel) (by decide +kernel) (by decide +kernel) (fun _ _ _ h => h) (Or.inl ⟨by rfl, ?_⟩) HS0.out ?_; rotate_left 1
                                              · intro w _; go_simp; with_reducible rfl
                                              simp only [Act.put, List.getElem_toArray, List.getElem_cons_zero, List.getElem_cons_succ, List.setIfInBounds_toArray, List.set_cons_zero, List.set_cons_succ]
                                              refine anyT_takeL [16, 18] (i := 13) (v := ?_) rfl (by decide +kernel) (by decide +kernel) (by decide +kernel) (by decide +kernel) (by decide +kernel) (by decide +kernel) (fun _ _ _ h => h) (Or.inl ⟨by rfl, ?_⟩) HS0.out ?_; rotate_left 1
                                              · intro w hS; obtain ⟨s0, s1, s2⟩ := hS; go_simp; with_reducible rfl
                                              simp only [Act.put, List.getElem_toArray, List.getElem_cons_zero, List.getElem_cons_succ, List.setIfInBounds_toArray, List.set_cons_zero, List.set_cons_succ]
                                              refine anyT_takeY (i := 14) (v := ?_) rfl (by decide +kernel) (by decide +kernel) (by decide +kernel) (by decide +kernel) (fun _ _ _ h => h) (Or.inl ⟨by rfl, ?_⟩) HS0.out ?_; rotate_left 1
                                              · intro w _; go_simp; with_reducible rfl
                                              simp only [Act.put, List.getElem_toArray, List.getElem_cons_zero, List.getElem_cons_succ, List.setIfInBounds_toArray, List.set_cons_zero, List.set_cons_succ]
                                              refine anyT_one (i := 15) (by decide +kernel) rfl (fun KK hK => ?_)
                                              go_simp
                                              refine hK.out _ _ (fun _ => ⟨(HBA.out.cell (p := ⟨nb, td, none⟩) lg0).trans HS0.out.1, (HBA.out.cell (p := ⟨rk, 2, none⟩) lk6).trans HS0.out.2.1, (HBA.out.cell (p := ⟨gd, nx, none⟩) lg1).trans HS0.out.2.2⟩) ?_
                                              clear hK KK
                                              try simp only [Act.put, List.getElem_toArray, List.getElem_cons_zero, List.getElem_cons_succ, List.setIfInBounds_toArray, List.set_cons_zero, List.set_cons_succ]
                                              refine anyT_one (i := 16) (by decide +kernel) rfl (fun KK hK => ?_)
                                              refine step_app _ rfl (.tmp 139) (.tmp 141) 49 rfl EIu rfl HOL8.out rfl (l := 1) rfl (Rd.one _ (.int .i64 y) _) (fun _ _ => rfl) (by unfold maxLen; omega) (by omega) (by simp; omega) (ML + 1) (ML + 1) rfl rfl ?_
                                              intro A4 c4 w8 hown hg4 hat4 hb4
                                              have HN8 := Lib.hid (HI8.out.n3.app HOL8.out hg4)
                                              have HK8 := Lib.hid (row_app HRK8.out HOL8.out hg4 (by decide))
                                              have e0 : w8.cell? ⟨nb, td, none⟩ = some (.slice (some ⟨gd, 0, none⟩) S S) := by rw [HN8.out.hd.cell htdK, HGD.out]
                                              have e1 : w8.cell? ⟨gd, nx, none⟩ = some (.slice AL ML CL) := by rw [HGD.out, (HN8.out.row td htdK).cell hnxS, ← HAL.out.1, ← HAL.out.2.1, ← HAL.out.2.2]
                                              have e2 : w8.cell? ⟨rk, 2, none⟩ = some (.int .i64 (nx : Nat)) := HK8.out.cell (i := 2) (by omega)
                                              have fz := (HN8.out.row td htdK).frozen nx
                                              rw [← HGD.out] at fz
                                              have lg8 : gd < w8.heap.size := by rw [HGD.out]; exact (HN8.out.row td htdK).lt
                                              have HI9 : Hid (IV W (w8.setCell ⟨gd, nx, none⟩ (.slice A4 (ML + 1) c4)) bb w.heap.size n n5 K S nb (20 * c + 4 * q + 2 * (v + 1)) (5 * c + 2 * q + (v + 1)) F F5 (rrU st tc K sc ac T (some ⟨sb, so, none⟩) (some ⟨ab, ao, none⟩)) (up A' (td * S + nx) A4) (up cc' (td * S + nx) c4) (up M' (td * S + nx) (M' (td * S + nx) + 1)) (up L' (td * S + nx) (snoc (L' (td * S + nx)) (M' (td * S + nx)) y)) tch tqh (prD Hh Ss fb c q (v + 1))) := Lib.hid (by
                                                have := HI8.out.push (pr' := prD Hh Ss fb c q (v + 1)) (c := td) (q := nx) (c2 := c4) (A2 := A4) (x := y) htdK hnxS hyb (fun g => by rw [HYV.out g]; unfold prD; omega) (fun g h => by have h2 := (HYV.out g).1 h; have h3 := HGO.out g h2.1 h2.2.1 h2.2.2; exact ⟨h3.1, h3.2.1⟩) (by rw [← HAL.out.2.1]; exact hown) (by rw [← HAL.out.1, ← HAL.out.2.1, ← HAL.out.2.2]; exact hg4) (by rw [← HAL.out.1, ← HAL.out.2.1, ← HAL.out.2.2]; exact hat4)
                                                rw [← HAL.out.2.1, ← HGD.out] at this
                                                rw [← HAL.out.2.1]
                                                exact this.more (Nat.le_refl _) (by omega))
                                              have HSE0 := Lib.hid (And.intro e0 (And.intro e2 e1))
                                              clear hown hg4 hat4 hb4 e0 e2
                                              refine hK.out _ _ (fun _ => HSE0.out) ?_
                                              clear hK KK
                                              try simp only [Act.put, List.getElem_toArray, List.getElem_cons_zero, List.getElem_cons_succ, List.setIfInBounds_toArray, List.set_cons_zero, List.set_cons_succ]
                                              refine anyT_takeY (i := 17) (v := ?_) rfl (by decide +kernel) (by decide +kernel) (by decide +kernel) (by decide +kernel) (fun _ _ _ h => h) (Or.inl ⟨by rfl, ?_⟩) HSE0.out ?_; rotate_left 1
                                              · intro w _; go_simp; with_reducible rfl
                                              simp only [Act.put, List.getElem_toArray, List.getElem_cons_zero, List.getElem_cons_succ, List.setIfInBounds_toArray, List.set_cons_zero, List.set_cons_succ]
                                              refine anyT_one (i := 18) (by decide +kernel) rfl (fun KK hK => ?_)
                                              go_simp
                                              refine hK.out _ _ (fun h => absurd h (by decide +kernel)) ?_
                                              clear hK KK
                                              try simp only [Act.put, List.getElem_toArray, List.getElem_cons_zero, List.getElem_cons_succ, List.setIfInBounds_toArray, List.set_cons_zero, List.set_cons_succ]
                                              refine T_of_any _ _ _ _ (by decide +kernel) ?_
                                              refine wpAny_done (by decide +kernel) ?_ _
                                              go_wp2_with fail
                                              go_roundw
                                              case rel => exact ⟨v + 1, n5, F5, _, _, _, _, A3, m9 + 1, c3, by omega, by go_num, rfl, by omega, Lib.hid ⟨by rw [up_other _ _ (by omega)]; exact HL9'.out.1, by rw [up_other _ _ (by omega)]; exact HL9'.out.2.1, by rw [up_other _ _ (by omega)]; exact HL9'.out.2.2⟩, Lib.hid ⟨by rw [up_other _ _ (by omega)]; exact HL10'.out.1, by rw [up_other _ _ (by omega)]; exact HL10'.out.2.1, by rw [up_other _ _ (by omega)]; exact HL10'.out.2.2⟩, Lib.hid ⟨by rw [up_other _ _ (by omega)]; exact HL6'.out.1, by rw [up_other _ _ (by omega)]; exact HL6'.out.2.1, by rw [up_other _ _ (by omega)]; exact HL6'.out.2.2⟩, HI9, Lib.hid (by rw [up_other _ _ (by omega)]; exact HSG7.out), Lib.hid (HON7.out.other (by omega)), Lib.hid (HHE7.out.other (by omega))⟩
                                              case measure => simp [intOf]; omega
                                      · as_aux_lemma =>
                                          have wb : (wv == 1) = false := beq_eq_false_iff_ne.2 hw1
                                          have k0 := HRK5.out.cell (i := 0) (by omega)
                                          have k1 := HRK5.out.cell (i := 1) (by omega)
                                          have lk5 := HRK5.out.lt
                                          change _ = some (Value.int .i64 wv) at k0
                                          change _ = some (Value.int .i64 mv) at k1
                                          have HON7 : Hid (SemL F5 M L (K * S + 1) (fun g => Hh g = c ∧ (Ss g < q ∨ Ss g = q ∧ fb g < v + 1) ∧ Ss g < st ∧ TR R (Ss g) (3 * fb g) = 1)) := Lib.hid (HON5.out.iff fun g => by
                                            constructor
                                            · rintro ⟨h1, h2, h3, h4⟩
                                              refine ⟨h1, ?_, h3, h4⟩
                                              by_cases h5 : Ss g = q ∧ fb g = v
                                              · exfalso; rw [(HGO.out g h1 h5.1 h5.2).2.2] at h4; exact hw1 h4
                                              · omega
                                            · rintro ⟨h1, h2, h3, h4⟩; exact ⟨h1, by omega, h3, h4⟩)
                                          go_upto_region 27 with fail
                                          obtain ⟨w6, hw6⟩ : ∃ w6 : World, w6 = w5 := ⟨_, rfl⟩
                                          subst hw6
                                          obtain ⟨A', cc', M', L', hA', hcc', hM', hL'⟩ : ∃ (A' : Nat → Option Addr) (cc' M' : Nat → Nat) (L' : Nat → Nat → Int), A' = A ∧ cc' = cc ∧ M' = M ∧ L' = L := ⟨_, _, _, _, rfl, rfl, rfl, rfl⟩
                                          subst hA' hcc' hM' hL'
                                          have HL9' := HL9
                                          have HL10' := HL10
                                          have HL6' := HL6
                                          have HI7 := HI5
                                          have HSG7 := HSG5
                                          have HHE7 := HHE5
                                          have HRK6 := HRK5
                                          have lk6 := lk5
                                          clear HI5 HSG5 HON5 HHE5 HL9 HL10 HL6 k0 k1 HRK5 lk5 wb
                                          have j1 := HRK6.out.cell (i := 1) (by omega)
                                          change _ = some (Value.int .i64 mv) at j1
                                          go_cut [17] (fun s17 wx => s17 = .int .i64 (td : Nat) ∧ wx = w6)
                                          case first =>
                                            as_aux_lemma =>
                                              rcases HCL.out with ⟨h1, h2⟩ | ⟨h1, h2, h3⟩ | ⟨h1, h2, h3⟩
                                              · as_aux_lemma =>
                                                  subst h2
                                                  go_wp2_with fail
                                                  go_meet
                                                  case rel => exact ⟨rfl, rfl⟩
                                              · as_aux_lemma =>
                                                  have HH3 := Lib.hid h3
                                                  clear h3
                                                  go_wp2_with fail
                                                  go_meet
                                                  case rel => exact ⟨by rw [HH3.out], rfl⟩
                                              · as_aux_lemma =>
                                                  have HH3 := Lib.hid h3
                                                  clear h3
                                                  go_wp2_with fail
                                                  go_meet
                                                  case rel => exact ⟨by rw [HH3.out], rfl⟩
                                          case rest =>
                                            as_aux_lemma =>
                                              obtain ⟨hs17, hwc⟩ := hcut
                                              subst hs17
                                              have hwc2 := hwc.symm
                                              subst hwc2
                                              obtain ⟨gd, hgd⟩ : ∃ z, z = nb + 1 + td := ⟨_, rfl⟩
                                              obtain ⟨AL, hAL⟩ : ∃ z, z = A' (td * S + nx) := ⟨_, rfl⟩
                                              obtain ⟨ML, hML⟩ : ∃ z, z = M' (td * S + nx) := ⟨_, rfl⟩
                                              obtain ⟨CL, hCL⟩ : ∃ z, z = cc' (td * S + nx) := ⟨_, rfl⟩
                                              have hi28 : td * S + nx < K * S := leaf_lt htdK hnxS
                                              have g0 := HI7.out.n3.hd.cell htdK
                                              have g1 := (HI7.out.n3.row td htdK).cell hnxS
                                              rw [← hgd] at g0 g1
                                              rw [← hAL, ← hML, ← hCL] at g1
                                              have g2 := HRK6.out.cell (i := 2) (by omega)
                                              change _ = some (Value.int .i64 (nx : Nat)) at g2
                                              have lg0 := HI7.out.n3.hd.lt
                                              have lg1 : gd < w6.heap.size := by rw [hgd]; exact (HI7.out.n3.row td htdK).lt
                                              have HS0 : Hid (w6.drew.cell? ⟨nb, td, none⟩ = some (.slice (some ⟨gd, 0, none⟩) S S) ∧ w6.drew.cell? ⟨rk, 2, none⟩ = some (.int .i64 (nx : Nat)) ∧ w6.drew.cell? ⟨gd, nx, none⟩ = some (.slice AL ML CL)) := Lib.hid ⟨g0, g2, g1⟩
                                              have hML2 : ML ≤ 40 := by rw [hML]; have := HI7.out.mbd _ hi28; omega
                                              have htdI : (td : Int) < (K : Int) := by omega
                                              have hnxI : (nx : Int) < (S : Int) := by omega
                                              have HI8 := Lib.hid (HI7.out.below (((Below.refl w6.heap.size w6).drew).alloc (Nat.le_refl _) (.cells #[.int .i64 y] 3)))
                                              have HOL8 : Hid (Own (w6.drew.alloc (.cells #[.int .i64 y] 3)) nb 3 1 AL ML CL ML (fun j => .int .i64 (L' (td * S + nx) j))) := Lib.hid (by rw [hAL, hML, hCL]; exact HI8.out.fam.own _ (by omega))
                                              have HBA : Hid (Below w6.heap.size w6 (w6.drew.alloc (.cells #[.int .i64 y] 3))) := Lib.hid (((Below.refl w6.heap.size w6).drew).alloc (Nat.le_refl _) _)
                                              have hsz6 := HI7.out.size
                                              have HRK8 := Lib.hid ((show w6.drew.rowIs rk _ 3 _ from HRK6.out).alloc (.cells #[.int .i64 y] 3))
                                              have HGD := Lib.hid hgd
                                              have HAL := Lib.hid (And.intro hAL (And.intro hML hCL))
                                              clear hgd hAL hML hCL g0 g1 g2 HS
                                              go_wp2_with fail
                                              refine wp_region_any (by kernel_rfl) ?_
                                              change wpAny _ _ _ _ _ _ _ (World.drew _)
                                              refine any_of_T (S := fun W' => W'.cell? ⟨nb, td, none⟩ = some (.slice (some ⟨gd, 0, none⟩) S S) ∧ W'.cell? ⟨rk, 2, none⟩ = some (.int .i64 (nx : Nat)) ∧ W'.cell? ⟨gd, nx, none⟩ = some (.slice AL ML CL)) (c := 18) _ _ _ _ ?_
                                              refine anyT_takeY (i := 0) (v := ?_) rfl (by decide +kernel) (by decide +kernel) (by decide +kernel) (by decide +kernel) (fun _ _ _ h => h) (Or.inl ⟨by rfl, ?_⟩) HS0.out ?_; rotate_left 1
                                              · intro w _; go_simp; with_reducible rfl
                                              simp only [Act.put, List.getElem_toArray, List.getElem_cons_zero, List.getElem_cons_succ, List.setIfInBounds_toArray, List.set_cons_zero, List.set_cons_succ]
                                              refine anyT_takeY (i := 1) (v := ?_) rfl (by decide +kernel) (by decide +kernel) (by decide +kernel) (by decide +kernel) (fun _ _ _ h => h) (Or.inl ⟨by rfl, ?_⟩) HS0.out ?_; rotate_left 1
                                              · intro w _; go_simp; with_reducible rfl
                                              simp only [Act.put, List.getElem_toArray, List.getElem_cons_zero, List.getElem_cons_succ, List.setIfInBounds_toArray, List.set_cons_zero, List.set_cons_succ]
                                              refine anyT_takeY (i := 2) (v := ?_) rfl (by decide +kernel) (by decide +kernel) (by decide +kernel) (by decide +kernel) (fun _ _ _ h => h) (Or.inl ⟨by rfl, ?_⟩) HS0.out ?_; rotate_left 1
                                              · intro w _; go_simp; with_reducible rfl
                                              simp only [Act.put, List.getElem_toArray, List.getElem_cons_zero, List.getElem_cons_succ, List.setIfInBounds_toArray, List.set_cons_zero, List.set_cons_succ]
                                              refine anyT_takeL [17, 18] (i := 3) (v := ?_) rfl (by decide +kernel) (by decide +kernel) (by decide +kernel) (by decide +kernel) (by decide +kernel) (by decide +kernel) (fun _ _ _ h => h) (Or.inl ⟨by rfl, ?_⟩) HS0.out ?_; rotate_left 1
                                              · intro w hS; obtain ⟨s0, s1, s2⟩ := hS; go_simp; with_reducible rfl
                                              simp only [Act.put, List.getElem_toArray, List.getElem_cons_zero, List.getElem_cons_succ, List.setIfInBounds_toArray, List.set_cons_zero, List.set_cons_succ]
                                              refine anyT_takeY (i := 4) (v := ?_) rfl (by decide +kernel) (by decide +kernel) (by decide +kernel) (by decide +kernel) (fun _ _ _ h => h) (Or.inl ⟨by rfl, ?_⟩) HS0.out ?_; rotate_left 1
                                              · intro w _; go_simp; with_reducible rfl
                                              simp only [Act.put, List.getElem_toArray, List.getElem_cons_zero, List.getElem_cons_succ, List.setIfInBounds_toArray, List.set_cons_zero, List.set_cons_succ]
                                              refine anyT_takeL [17, 18] (i := 5) (v := ?_) rfl (by decide +kernel) (by decide +kernel) (by decide +kernel) (by decide +kernel) (by decide +kernel) (by decide +kernel) (fun _ _ _ h => h) (Or.inl ⟨by rfl, ?_⟩) HS0.out ?_; rotate_left 1
                                              · intro w hS; obtain ⟨s0, s1, s2⟩ := hS; go_simp; with_reducible rfl
                                              simp only [Act.put, List.getElem_toArray, List.getElem_cons_zero, List.getElem_cons_succ, List.setIfInBounds_toArray, List.set_cons_zero, List.set_cons_succ]
                                              refine anyT_takeY (i := 6) (v := ?_) rfl (by decide +kernel) (by decide +kernel) (by decide +kernel) (by decide +kernel) (fun _ _ _ h => h) (Or.inl ⟨by rfl, ?_⟩) HS0.out ?_; rotate_left 1
                                              · intro w _; go_simp; with_reducible rfl
                                              simp only [Act.put, List.getElem_toArray, List.getElem_cons_zero, List.getElem_cons_succ, List.setIfInBounds_toArray, List.set_cons_zero, List.set_cons_succ]
                                              refine anyT_takeY (i := 7) (v := ?_) rfl (by decide +kernel) (by decide +kernel) (by decide +kernel) (by decide +kernel) (fun _ _ _ h => h) (Or.inl ⟨by rfl, ?_⟩) HS0.out ?_; rotate_left 1
                                              · intro w _; go_simp; with_reducible rfl
                                              simp only [Act.put, List.getElem_toArray, List.getElem_cons_zero, List.getElem_cons_succ, List.setIfInBounds_toArray, List.set_cons_zero, List.set_cons_succ]
                                              refine anyT_takeY (i := 8) (v := ?_) rfl (by decide +kernel) (by decide +kernel) (by decide +kernel) (by decide +kernel) (fun _ _ _ h => h) (Or.inl ⟨by rfl, ?_⟩) HS0.out ?_; rotate_left 1
                                              · intro w _; go_simp; with_reducible rfl
                                              simp only [Act.put, List.getElem_toArray, List.getElem_cons_zero, List.getElem_cons_succ, List.setIfInBounds_toArray, List.set_cons_zero, List.set_cons_succ]
                                              refine anyT_takeL [12, 13, 16, 18] (i := 9) (v := ?_) rfl (by decide +kernel) (by decide +kernel) (by decide +kernel) (by decide +kernel) (by decide +kernel) (by decide +kernel) (fun _ _ _ h => h) (Or.inl ⟨by rfl, ?_⟩) HS0.out ?_; rotate_left 1
                                              · intro w hS; obtain ⟨s0, s1, s2⟩ := hS; go_simp; with_reducible rfl
                                              simp only [Act.put, List.getElem_toArray, List.getElem_cons_zero, List.getElem_cons_succ, List.setIfInBounds_toArray, List.set_cons_zero, List.set_cons_succ]
                                              refine anyT_takeY (i := 10) (v := ?_) rfl (by decide +kernel) (by decide +kernel) (by decide +kernel) (by decide +kernel) (fun _ _ _ h => h) (Or.inl ⟨by rfl, ?_⟩) HS0.out ?_; rotate_left 1
                                              · intro w _; go_simp; with_reducible rfl
                                              simp only [Act.put, List.getElem_toArray, List.getElem_cons_zero, List.getElem_cons_succ, List.setIfInBounds_toArray, List.set_cons_zero, List.set_cons_succ]
                                              refine anyT_takeL [12, 13, 16, 18] (i := 11) (v := ?_) rfl (by decide +kernel) (by decide +kernel) (by decide +kernel) (by decide +kernel) (by decide +kernel) (by decide +kernel) (fun _ _ _ h => h) (Or.inl ⟨by rfl, ?_⟩) HS0.out ?_; rotate_left 1
                                              · intro w hS; obtain ⟨s0, s1, s2⟩ := hS; go_simp; with_reducible rfl
                                              simp only [Act.put, List.getElem_toArray, List.getElem_cons_zero, List.getElem_cons_succ, List.setIfInBounds_toArray, List.set_cons_zero, List.set_cons_succ]
                                              refine anyT_takeY (i := 12) (v := ?_) rfl (by decide +kernel) (by decide +kernel) (by decide +kernel) (by decide +kernel) (fun _ _ _ h => h) (Or.inl ⟨by rfl, ?_⟩) HS0.out ?_; rotate_left 1
                                              · intro w _; go_simp; with_reducible rfl
                                              simp only [Act.put, List.getElem_toArray, List.getElem_cons_zero, List.getElem_cons_succ, List.setIfInBounds_toArray, List.set_cons_zero, List.set_cons_succ]
                                              refine anyT_takeL [16, 18] (i := 13) (v := ?_) rfl (by decide +kernel) (by decide +kernel) (by decide +kernel) (by decide +kernel) (by decide +kernel) (by decide +kernel) (fun _ _ _ h => h) (Or.inl ⟨by rfl, ?_⟩) HS0.out ?_; rotate_left 1
                                              · intro w hS; obtain ⟨s0, s1, s2⟩ := hS; go_simp; with_reducible rfl
                                              simp only [Act.put, List.getElem_toArray, List.getElem_cons_zero, List.getElem_cons_succ, List.setIfInBounds_toArray, List.set_cons_zero, List.set_cons_succ]
                                              refine anyT_takeY (i := 14) (v := ?_) rfl (by decide +kernel) (by decide +kernel) (by decide +kernel) (by decide +kernel) (fun _ _ _ h => h) (Or.inl ⟨by rfl, ?_⟩) HS0.out ?_; rotate_left 1
                                              · intro w _; go_simp; with_reducible rfl
                                              simp only [Act.put, List.getElem_toArray, List.getElem_cons_zero, List.getElem_cons_succ, List.setIfInBounds_toArray, List.set_cons_zero, List.set_cons_succ]
                                              refine anyT_one (i := 15) (by decide +kernel) rfl (fun KK hK => ?_)
                                              go_simp
                                              refine hK.out _ _ (fun _ => ⟨(HBA.out.cell (p := ⟨nb, td, none⟩) lg0).trans HS0.out.1, (HBA.out.cell (p := ⟨rk, 2, none⟩) lk6).trans HS0.out.2.1, (HBA.out.cell (p := ⟨gd, nx, none⟩) lg1).trans HS0.out.2.2⟩) ?_
                                              clear hK KK
                                              try simp only [Act.put, List.getElem_toArray, List.getElem_cons_zero, List.getElem_cons_succ, List.setIfInBounds_toArray, List.set_cons_zero, List.set_cons_succ]
                                              refine anyT_one (i := 16) (by decide +kernel) rfl (fun KK hK => ?_)
                                              refine step_app _ rfl (.tmp 139) (.tmp 141) 49 rfl EIu rfl HOL8.out rfl (l := 1) rfl (Rd.one _ (.int .i64 y) _) (fun _ _ => rfl) (by unfold maxLen; omega) (by omega) (by simp; omega) (ML + 1) (ML + 1) rfl rfl ?_
                                              intro A4 c4 w8 hown hg4 hat4 hb4
                                              have HN8 := Lib.hid (HI8.out.n3.app HOL8.out hg4)
                                              have HK8 := Lib.hid (row_app HRK8.out HOL8.out hg4 (by decide))
                                              have e0 : w8.cell? ⟨nb, td, none⟩ = some (.slice (some ⟨gd, 0, none⟩) S S) := by rw [HN8.out.hd.cell htdK, HGD.out]
                                              have e1 : w8.cell? ⟨gd, nx, none⟩ = some (.slice AL ML CL) := by rw [HGD.out, (HN8.out.row td htdK).cell hnxS, ← HAL.out.1, ← HAL.out.2.1, ← HAL.out.2.2]
                                              have e2 : w8.cell? ⟨rk, 2, none⟩ = some (.int .i64 (nx : Nat)) := HK8.out.cell (i := 2) (by omega)
                                              have fz := (HN8.out.row td htdK).frozen nx
                                              rw [← HGD.out] at fz
                                              have lg8 : gd < w8.heap.size := by rw [HGD.out]; exact (HN8.out.row td htdK).lt
                                              have HI9 : Hid (IV W (w8.setCell ⟨gd, nx, none⟩ (.slice A4 (ML + 1) c4)) bb w.heap.size n n5 K S nb (20 * c + 4 * q + 2 * (v + 1)) (5 * c + 2 * q + (v + 1)) F F5 (rrU st tc K sc ac T (some ⟨sb, so, none⟩) (some ⟨ab, ao, none⟩)) (up A' (td * S + nx) A4) (up cc' (td * S + nx) c4) (up M' (td * S + nx) (M' (td * S + nx) + 1)) (up L' (td * S + nx) (snoc (L' (td * S + nx)) (M' (td * S + nx)) y)) tch tqh (prD Hh Ss fb c q (v + 1))) := Lib.hid (by
                                                have := HI8.out.push (pr' := prD Hh Ss fb c q (v + 1)) (c := td) (q := nx) (c2 := c4) (A2 := A4) (x := y) htdK hnxS hyb (fun g => by rw [HYV.out g]; unfold prD; omega) (fun g h => by have h2 := (HYV.out g).1 h; have h3 := HGO.out g h2.1 h2.2.1 h2.2.2; exact ⟨h3.1, h3.2.1⟩) (by rw [← HAL.out.2.1]; exact hown) (by rw [← HAL.out.1, ← HAL.out.2.1, ← HAL.out.2.2]; exact hg4) (by rw [← HAL.out.1, ← HAL.out.2.1, ← HAL.out.2.2]; exact hat4)
                                                rw [← HAL.out.2.1, ← HGD.out] at this
                                                rw [← HAL.out.2.1]
                                                exact this.more (Nat.le_refl _) (by omega))
                                              have HSE0 := Lib.hid (And.intro e0 (And.intro e2 e1))
                                              clear hown hg4 hat4 hb4 e0 e2
                                              refine hK.out _ _ (fun _ => HSE0.out) ?_
                                              clear hK KK
                                              try simp only [Act.put, List.getElem_toArray, List.getElem_cons_zero, List.getElem_cons_succ, List.setIfInBounds_toArray, List.set_cons_zero, List.set_cons_succ]
                                              refine anyT_takeY (i := 17) (v := ?_) rfl (by decide +kernel) (by decide +kernel) (by decide +kernel) (by decide +kernel) (fun _ _ _ h => h) (Or.inl ⟨by rfl, ?_⟩) HSE0.out ?_; rotate_left 1
                                              · intro w _; go_simp; with_reducible rfl
                                              simp only [Act.put, List.getElem_toArray, List.getElem_cons_zero, List.getElem_cons_succ, List.setIfInBounds_toArray, List.set_cons_zero, List.set_cons_succ]
                                              refine anyT_one (i := 18) (by decide +kernel) rfl (fun KK hK => ?_)
                                              go_simp
                                              refine hK.out _ _ (fun h => absurd h (by decide +kernel)) ?_
                                              clear hK KK
                                              try simp only [Act.put, List.getElem_toArray, List.getElem_cons_zero, List.getElem_cons_succ, List.setIfInBounds_toArray, List.set_cons_zero, List.set_cons_succ]
                                              refine T_of_any _ _ _ _ (by decide +kernel) ?_
                                              refine wpAny_done (by decide +kernel) ?_ _
                                              go_wp2_with fail
                                              go_roundw
                                              case rel => exact ⟨v + 1, n5, F5, _, _, _, _, A9, m9, c9, by omega, by go_num, rfl, by omega, Lib.hid ⟨by rw [up_other _ _ (by omega)]; exact HL9'.out.1, by rw [up_other _ _ (by omega)]; exact HL9'.out.2.1, by rw [up_other _ _ (by omega)]; exact HL9'.out.2.2⟩, Lib.hid ⟨by rw [up_other _ _ (by omega)]; exact HL10'.out.1, by rw [up_other _ _ (by omega)]; exact HL10'.out.2.1, by rw [up_other _ _ (by omega)]; exact HL10'.out.2.2⟩, Lib.hid ⟨by rw [up_other _ _ (by omega)]; exact HL6'.out.1, by rw [up_other _ _ (by omega)]; exact HL6'.out.2.1, by rw [up_other _ _ (by omega)]; exact HL6'.out.2.2⟩, HI9, Lib.hid (by rw [up_other _ _ (by omega)]; exact HSG7.out), Lib.hid (HON7.out.other (by omega)), Lib.hid (HHE7.out.other (by omega))⟩
                                              case measure => simp [intOf]; omega
                                  · as_aux_lemma =>
                                      have vb : ((v : Int) == 0) = true := by rw [hv1]; rfl
                                      have HV1 := Lib.hid hv1
                                      clear hv1
                                      go_wp2_with fail
                                      rw [← HRKE.out, ← HW4.out]
                                      refine (both_any HI4.out.bt.bs (by omega) (by omega) x s ⟨hxv.1, by omega⟩ ⟨hsv.1, by omega⟩).mono ?_
                                      rintro e w5 ⟨y0, n5, F5, rfl, hbt, hyb0, hyv⟩
                                      have HBT5 : Hid (BT w4 w5 bb w.heap.size n3 n5 K 2 F3 F5 (rrU st tc K sc ac T (some ⟨sb, so, none⟩) (some ⟨ab, ao, none⟩))) := Lib.hid (hbt.more (by omega))
                                      have hyb : -1 ≤ x ∧ x < n5 := ⟨hxv.1, by have := hbt.le; omega⟩
                                      have HYV : Hid (∀ g, vx F5 g x = true ↔ Hh g = c ∧ Ss g = q ∧ fb g = v) := Lib.hid fun g => by
                                        rw [hbt.vx g (by omega), HI4.out.bt.vx g hxv.2, HXV.out g, HV1.out]
                                        have hf := HTG.out.hf g
                                        constructor
                                        · rintro ⟨h1, h2⟩
                                          have h4 : ¬ fb g = 1 := fun h5 => by
                                            rw [HFB.out g, h1, ← (HS.out g c hcK).1, ← HSS.out, vx_neg hs0] at h5
                                            cases h5
                                          exact ⟨h1, h2, by omega⟩
                                        · rintro ⟨h1, h2, h3⟩; exact ⟨h1, h2⟩
                                      clear hbt hyv hyb0
                                      have HSG5 : Hid (∀ g c', c' < c → (vx F5 g (L (K * S) c') = true ↔ Fb' g c')) := Lib.hid fun g c' hc' => by
                                        rw [HBT5.out.vx g (HI4.out.ok (K * S) (by omega) c' (by rw [HL6.out.2.1]; exact hc')).2]; exact HSG.out g c' hc'
                                      have HON5 := Lib.hid (HON.out.ext HI4.out.ok (by omega) HBT5.out.ext)
                                      have HHE5 := Lib.hid (HHE.out.ext HI4.out.ok (by omega) HBT5.out.ext)
                                      have HI5 : Hid (IV W w5 bb w.heap.size n n5 K S nb (20 * c + 4 * q + 2 * (v + 1)) (5 * c + 2 * q + v) F F5 (rrU st tc K sc ac T (some ⟨sb, so, none⟩) (some ⟨ab, ao, none⟩)) A cc M L tch tqh (prD Hh Ss fb c q v)) := Lib.hid ((HI4.out.call HBT5.out).more (by omega) (Nat.le_refl _))
                                      have HRK5 := Lib.hid (row_bt HRK4.out HI4.out.bt.bs HBT5.out (by decide) (by decide))
                                      have hn5 := HI5.out.size
                                      clear HI4 HRK4 HBT5 HON HHE HSG
                                      by_cases hw1 : wv = 1
                                      · as_aux_lemma =>
                                          have HO9 : Hid (Own w5 nb 3 1 A9 m9 c9 m9 (fun j => .int .i64 (L (K * S + 1) j))) := Lib.hid (by
                                            have := HI5.out.fam.own (K * S + 1) (by omega)
                                            rw [HL9.out.1, HL9.out.2.1, HL9.out.2.2] at this; exact this)
                                          have hb5 : nb ≤ (w5.alloc (.cells #[.int .i64 x] 3)).heap.size := by simp; omega
                                          have k0 := HRK5.out.cell (i := 0) (by omega)
                                          have k1 := HRK5.out.cell (i := 1) (by omega)
                                          have lk5 := HRK5.out.lt
                                          change _ = some (Value.int .i64 wv) at k0
                                          change _ = some (Value.int .i64 mv) at k1
                                          go_upto_region 27 with (at_builtin; refine wpList_app _ rfl (.tmp 114) (.tmp 116) 49 rfl EIu rfl (HO9.out.alloc _) rfl (l := 1) (by omega) (Rd.one w5 (.int .i64 x) _) (fun _ _ => rfl) (by unfold maxLen; omega) (by omega) hb5 (m9 + 1) (m9 + 1) rfl rfl ?_; intro A3 c3 w6 hown2 hg2 hat2 hbl2; have HI6 := Lib.hid ((HI5.out.below ((Below.refl w5.heap.size w5).alloc (Nat.le_refl _) (.cells #[.int .i64 x] 3))).app (i := K * S + 1) (A2 := A3) (c2 := c3) (x := x) (by omega) (by omega) hyb (by rw [HL9.out.2.1]; exact hown2) (by rw [HL9.out.1, HL9.out.2.1, HL9.out.2.2]; exact hg2) (by rw [HL9.out.1, HL9.out.2.1, HL9.out.2.2]; exact hat2)); have HRK6 := Lib.hid (row_app (HRK5.out.alloc (.cells #[.int .i64 x] 3)) (HO9.out.alloc (.cells #[.int .i64 x] 3)) hg2 (by decide)); have j1 := HRK6.out.cell (i := 1) (by omega); change _ = some (Value.int .i64 mv) at j1; have lk6 := HRK6.out.lt; clear hown2 hg2 hat2 hbl2)
                                          have HP6 : ∃ (A' : Nat → Option Addr) (cc' M' : Nat → Nat) (L' : Nat → Nat → Int), Hid (A' (K * S + 1) = A3 ∧ M' (K * S + 1) = m9 + 1 ∧ cc' (K * S + 1) = c3) ∧ Hid (A' (K * S + 2) = A2 ∧ M' (K * S + 2) = q + 1 ∧ cc' (K * S + 2) = c2) ∧ Hid (A' (K * S) = A6 ∧ M' (K * S) = c ∧ cc' (K * S) = c6) ∧ Hid (IV W w6 bb w.heap.size n n5 K S nb (20 * c + 4 * q + 2 * (v + 1)) (5 * c + 2 * q + v) F F5 (rrU st tc K sc ac T (some ⟨sb, so, none⟩) (some ⟨ab, ao, none⟩)) A' cc' M' L' tch tqh (prD Hh Ss fb c q v)) ∧ Hid (∀ g c', c' < c → (vx F5 g (L' (K * S) c') = true ↔ Fb' g c')) ∧ Hid (SemL F5 M' L' (K * S + 1) (fun g => Hh g = c ∧ (Ss g < q ∨ Ss g = q ∧ fb g < v + 1) ∧ Ss g < st ∧ TR R (Ss g) (3 * fb g) = 1)) ∧ Hid (SemL F5 M' L' (K * S + 2) (fun g => Hh g = c ∧ Ss g < q + 1)) := by
                                            refine ⟨_, _, _, _, Lib.hid ?_, Lib.hid ?_, Lib.hid ?_, HI6, Lib.hid ?_, Lib.hid (HON5.out.push fun g => ?_), Lib.hid (HHE5.out.other (by omega))⟩
                                            · refine ⟨?_, ?_, ?_⟩ <;> rw [up_same]
                                              rw [HL9.out.2.1]
                                            · refine ⟨?_, ?_, ?_⟩ <;> rw [up_other _ _ (by omega)]
                                              · exact HL10.out.1
                                              · exact HL10.out.2.1
                                              · exact HL10.out.2.2
                                            · refine ⟨?_, ?_, ?_⟩ <;> rw [up_other _ _ (by omega)]
                                              · exact HL6.out.1
                                              · exact HL6.out.2.1
                                              · exact HL6.out.2.2
                                            · rw [up_other _ _ (by omega)]; exact HSG5.out
                                            · rw [HYV.out g]
                                              constructor
                                              · rintro ⟨h1, h2, h3, h4⟩
                                                by_cases h5 : Ss g < q ∨ Ss g = q ∧ fb g < v
                                                · exact .inl ⟨h1, h5, h3, h4⟩
                                                · exact .inr ⟨h1, by omega, by omega⟩
                                              · rintro (⟨h1, h2, h3, h4⟩ | ⟨h1, h2, h3⟩)
                                                · exact ⟨h1, by omega, h3, h4⟩
                                                · exact ⟨h1, by omega, by omega, by rw [(HGO.out g h1 h2 h3).2.2]; exact hw1⟩
                                          obtain ⟨A', cc', M', L', HL9', HL10', HL6', HI7, HSG7, HON7, HHE7⟩ := HP6
                                          clear HI6 HI5 HSG5 HON5 HHE5 HL9 HL10 HL6 k0 k1 hb5 HO9 j1 HRK5 lk5
                                          have j1 := HRK6.out.cell (i := 1) (by omega)
                                          change _ = some (Value.int .i64 mv) at j1
                                          go_cut [17] (fun s17 wx => s17 = .int .i64 (td : Nat) ∧ wx = w6)
                                          case first =>
                                            as_aux_lemma =>
                                              rcases HCL.out with ⟨h1, h2⟩ | ⟨h1, h2, h3⟩ | ⟨h1, h2, h3⟩
                                              · as_aux_lemma =>
                                                  subst h2
                                                  go_wp2_with fail
                                                  go_meet
                                                  case rel => exact ⟨rfl, rfl⟩
                                              · as_aux_lemma =>
                                                  have HH3 := Lib.hid h3
                                                  clear h3
                                                  go_wp2_with fail
                                                  go_meet
                                                  case rel => exact ⟨by rw [HH3.out], rfl⟩
                                              · as_aux_lemma =>
                                                  have HH3 := Lib.hid h3
                                                  clear h3
                                                  go_wp2_with fail
                                                  go_meet
                                                  case rel => exact ⟨by rw [HH3.out], rfl⟩
                                          case rest =>
                                            as_aux_lemma =>
                                              obtain ⟨hs17, hwc⟩ := hcut
                                              subst hs17
                                              have hwc2 := hwc.symm
                                              subst hwc2
                                              obtain ⟨gd, hgd⟩ : ∃ z, z = nb + 1 + td := ⟨_, rfl⟩
                                              obtain ⟨AL, hAL⟩ : ∃ z, z = A' (td * S + nx) := ⟨_, rfl⟩
                                              obtain ⟨ML, hML⟩ : ∃ z, z = M' (td * S + nx) := ⟨_, rfl⟩
                                              obtain ⟨CL, hCL⟩ : ∃ z, z = cc' (td * S + nx) := ⟨_, rfl⟩
                                              have hi28 : td * S + nx < K * S := leaf_lt htdK hnxS
                                              have g0 := HI7.out.n3.hd.cell htdK
                                              have g1 := (HI7.out.n3.row td htdK).cell hnxS
                                              rw [← hgd] at g0 g1
                                              rw [← hAL, ← hML, ← hCL] at g1
                                              have g2 := HRK6.out.cell (i := 2) (by omega)
                                              change _ = some (Value.int .i64 (nx : Nat)) at g2
                                              have lg0 := HI7.out.n3.hd.lt
                                              have lg1 : gd < w6.heap.size := by rw [hgd]; exact (HI7.out.n3.row td htdK).lt
                                              have HS0 : Hid (w6.drew.cell? ⟨nb, td, none⟩ = some (.slice (some ⟨gd, 0, none⟩) S S) ∧ w6.drew.cell? ⟨rk, 2, none⟩ = some (.int .i64 (nx : Nat)) ∧ w6.drew.cell? ⟨gd, nx, none⟩ = some (.slice AL ML CL)) := Lib.hid ⟨g0, g2, g1⟩
                                              have hML2 : ML ≤ 40 := by rw [hML]; have := HI7.out.mbd _ hi28; omega
                                              have htdI : (td : Int) < (K : Int) := by omega
                                              have hnxI : (nx : Int) < (S : Int) := by omega
                                              have HI8 := Lib.hid (HI7.out.below (((Below.refl w6.heap.size w6).drew).alloc (Nat.le_refl _) (.cells #[.int .i64 x] 3)))
                                              have HOL8 : Hid (Own (w6.drew.alloc (.cells #[.int .i64 x] 3)) nb 3 1 AL ML CL ML (fun j => .int .i64 (L' (td * S + nx) j))) := Lib.hid (by rw [hAL, hML, hCL]; exact HI8.out.fam.own _ (by omega))
                                              have HBA : Hid (Below w6.heap.size w6 (w6.drew.alloc (.cells #[.int .i64 x] 3))) := Lib.hid (((Below.refl w6.heap.size w6).drew).alloc (Nat.le_refl _) _)
                                              have hsz6 := HI7.out.size
                                              have HRK8 := Lib.hid ((show w6.drew.rowIs rk _ 3 _ from HRK6.out).alloc (.cells #[.int .i64 x] 3))
                                              have HGD := Lib.hid hgd
                                              have HAL := Lib.hid (And.intro hAL (And.intro hML hCL))
                                              clear hgd hAL hML hCL g0 g1 g2 HS
                                              go_wp2_with fail
                                              refine wp_region_any (by kernel_rfl) ?_
                                              change wpAny _ _ _ _ _ _ _ (World.drew _)
                                              refine any_of_T (S := fun W' => W'.cell? ⟨nb, td, none⟩ = some (.slice (some ⟨gd, 0, none⟩) S S) ∧ W'.cell? ⟨rk, 2, none⟩ = some (.int .i64 (nx : Nat)) ∧ W'.cell? ⟨gd, nx, none⟩ = some (.slice AL ML CL)) (c := 18) _ _ _ _ ?_
                                              refine anyT_takeY (i := 0) (v := ?_) rfl (by decide +kernel) (by decide +kernel) (by decide +kernel) (by decide +kernel) (fun _ _ _ h => h) (Or.inl ⟨by rfl, ?_⟩) HS0.out ?_; rotate_left 1
                                              · intro w _; go_simp; with_reducible rfl
                                              simp only [Act.put, List.getElem_toArray, List.getElem_cons_zero, List.getElem_cons_succ, List.setIfInBounds_toArray, List.set_cons_zero, List.set_cons_succ]
                                              refine anyT_takeY (i := 1) (v := ?_) rfl (by decide +kernel) (by decide +kernel) (by decide +kernel) (by decide +kernel) (fun _ _ _ h => h) (Or.inl ⟨by rfl, ?_⟩) HS0.out ?_; rotate_left 1
                                              · intro w _; go_simp; with_reducible rfl
                                              simp only [Act.put, List.getElem_toArray, List.getElem_cons_zero, List.getElem_cons_succ, List.setIfInBounds_toArray, List.set_cons_zero, List.set_cons_succ]
                                              refine anyT_takeY (i := 2) (v := ?_) rfl (by decide +kernel) (by decide +kernel) (by decide +kernel) (by decide +kernel) (fun _ _ _ h => h) (Or.inl ⟨by rfl, ?_⟩) HS0.out ?_; rotate_left 1
                                              · intro w _; go_simp; with_reducible rfl
                                              simp only [Act.put, List.getElem_toArray, List.getElem_cons_zero, List.getElem_cons_succ, List.setIfInBounds_toArray, List.set_cons_zero, List.set_cons_succ]
                                              refine anyT_takeL [17, 18] (i := 3) (v := ?_) rfl (by decide +kernel) (by decide +kernel) (by decide +kernel) (by decide +kernel) (by decide +kernel) (by decide +kernel) (fun _ _ _ h => h) (Or.inl ⟨by rfl, ?_⟩) HS0.out ?_; rotate_left 1
                                              · intro w hS; obtain ⟨s0, s1, s2⟩ := hS; go_simp; with_reducible rfl
                                              simp only [Act.put, List.getElem_toArray, List.getElem_cons_zero, List.getElem_cons_succ, List.setIfInBounds_toArray, List.set_cons_zero, List.set_cons_succ]
                                              refine anyT_takeY (i := 4) (v := ?_) rfl (by decide +kernel) (by decide +kernel) (by decide +kernel) (by decide +kernel) (fun _ _ _ h => h) (Or.inl ⟨by rfl, ?_⟩) HS0.out ?_; rotate_left 1
                                              · intro w _; go_simp; with_reducible rfl
                                              simp only [Act.put, List.getElem_toArray, List.getElem_cons_zero, List.getElem_cons_succ, List.setIfInBounds_toArray, List.set_cons_zero, List.set_cons_succ]
                                              refine anyT_takeL [17, 18] (i := 5) (v := ?_) rfl (by decide +kernel) (by decide +kernel) (by decide +kernel) (by decide +kernel) (by decide +kernel) (by decide +kernel) (fun _ _ _ h => h) (Or.inl ⟨by rfl, ?_⟩) HS0.out ?_; rotate_left 1
                                              · intro w hS; obtain ⟨s0, s1, s2⟩ := hS; go_simp; with_reducible rfl
                                              simp only [Act.put, List.getElem_toArray, List.getElem_cons_zero, List.getElem_cons_succ, List.setIfInBounds_toArray, List.set_cons_zero, List.set_cons_succ]
                                              refine anyT_takeY (i := 6) (v := ?_) rfl (by decide +kernel) (by decide +kernel) (by decide +kernel) (by decide +kernel) (fun _ _ _ h => h) (Or.inl ⟨by rfl, ?_⟩) HS0.out ?_; rotate_left 1
                                              · intro w _; go_simp; with_reducible rfl
                                              simp only [Act.put, List.getElem_toArray, List.getElem_cons_zero, List.getElem_cons_succ, List.setIfInBounds_toArray, List.set_cons_zero, List.set_cons_succ]
                                              refine anyT_takeY (i := 7) (v := ?_) rfl (by decide +kernel) (by decide +kernel) (by decide +kernel) (by decide +kernel) (fun _ _ _ h => h) (Or.inl ⟨by rfl, ?_⟩) HS0.out ?_; rotate_left 1
                                              · intro w _; go_simp; with_reducible rfl
                                              simp only [Act.put, List.getElem_toArray, List.getElem_cons_zero, List.getElem_cons_succ, List.setIfInBounds_toArray, List.set_cons_zero, List.set_cons_succ]
                                              refine anyT_takeY (i := 8) (v := ?_) rfl (by decide +kernel) (by decide +kernel) (by decide +kernel) (by decide +kernel) (fun _ _ _ h => h) (Or.inl ⟨by rfl, ?_⟩) HS0.out ?_; rotate_left 1
                                              · intro w _; go_simp; with_reducible rfl
                                              simp only [Act.put, List.getElem_toArray, List.getElem_cons_zero, List.getElem_cons_succ, List.setIfInBounds_toArray, List.set_cons_zero, List.set_cons_succ]
                                              refine anyT_takeL [12, 13, 16, 18] (i := 9) (v := ?_) rfl (by decide +kernel) (by decide +kernel) (by decide +kernel) (by decide +kernel) (by decide +kernel) (by decide +kernel) (fun _ _ _ h => h) (Or.inl ⟨by rfl, ?_⟩) HS0.out ?_; rotate_left 1
                                              · intro w hS; obtain ⟨s0, s1, s2⟩ := hS; go_simp; with_reducible rfl
                                              simp only [Act.put, List.getElem_toArray, List.getElem_cons_zero, List.getElem_cons_succ, List.setIfInBounds_toArray, List.set_cons_zero, List.set_cons_succ]
                                              refine anyT_takeY (i := 10) (v := ?_) rfl (by decide +kernel) (by decide +kernel) (by decide +kernel) (by decide +kernel) (fun _ _ _ h => h) (Or.inl ⟨by rfl, ?_⟩) HS0.out ?_; rotate_left 1
                                              · intro w _; go_simp; with_reducible rfl
                                              simp only [Act.put, List.getElem_toArray, List.getElem_cons_zero, List.getElem_cons_succ, List.setIfInBounds_toArray, List.set_cons_zero, List.set_cons_succ]
                                              refine anyT_takeL [12, 13, 16, 18] (i := 11) (v := ?_) rfl (by decide +kernel) (by decide +kernel) (by decide +kernel) (by decide +kernel) (by decide +kernel) (by decide +kernel) (fun _ _ _ h => h) (Or.inl ⟨by rfl, ?_⟩) HS0.out ?_; rotate_left 1
                                              · intro w hS; obtain ⟨s0, s1, s2⟩ := hS; go_simp; with_reducible rfl
                                              simp only [Act.put, List.getElem_toArray, List.getElem_cons_zero, List.getElem_cons_succ, List.setIfInBounds_toArray, List.set_cons_zero, List.set_cons_succ]
                                              refine anyT_takeY (i := 12) (v := ?_) rfl (by decide +kernel) (by decide +kernel) (by decide +kernel) (by decide +kernel) (fun _ _ _ h => h) (Or.inl ⟨by rfl, ?_⟩) HS0.out ?_; rotate_left 1
                                              · intro w _; go_simp; with_reducible rfl
                                              simp only [Act.put, List.getElem_toArray, List.getElem_cons_zero, List.getElem_cons_succ, List.setIfInBounds_toArray, List.set_cons_zero, List.set_cons_succ]
                                              refine anyT_takeL [16, 18] (i := 13) (v := ?_) rfl (by decide +kernel) (by decide +kernel) (by decide +kernel) (by decide +kernel) (by decide +kernel) (by decide +kernel) (fun _ _ _ h => h) (Or.inl ⟨by rfl, ?_⟩) HS0.out ?_; rotate_left 1
                                              · intro w hS; obtain ⟨s0, s1, s2⟩ := hS; go_simp; with_reducible rfl
                                              simp only [Act.put, List.getElem_toArray, List.getElem_cons_zero, List.getElem_cons_succ, List.setIfInBounds_toArray, List.set_cons_zero, List.set_cons_succ]
                                              refine anyT_takeY (i := 14) (v := ?_) rfl (by decide +kernel) (by decide +kernel) (by decide +kernel) (by decide +kernel) (fun _ _ _ h => h) (Or.inl ⟨by rfl, ?_⟩) HS0.out ?_; rotate_left 1
                                              · intro w _; go_simp; with_reducible rfl
                                              simp only [Act.put, List.getElem_toArray, List.getElem_cons_zero, List.getElem_cons_succ, List.setIfInBounds_toArray, List.set_cons_zero, List.set_cons_succ]
                                              refine anyT_one (i := 15) (by decide +kernel) rfl (fun KK hK => ?_)
                                              go_simp
                                              refine hK.out _ _ (fun _ => ⟨(HBA.out.cell (p := ⟨nb, td, none⟩) lg0).trans HS0.out.1, (HBA.out.cell (p := ⟨rk, 2, none⟩) lk6).trans HS0.out.2.1, (HBA.out.cell (p := ⟨gd, nx, none⟩) lg1).trans HS0.out.2.2⟩) ?_
                                              clear hK KK
                                              try simp only [Act.put, List.getElem_toArray, List.getElem_cons_zero, List.getElem_cons_succ, List.setIfInBounds_toArray, List.set_cons_zero, List.set_cons_succ]
                                              refine anyT_one (i := 16) (by decide +kernel) rfl (fun KK hK => ?_)
                                              refine step_app _ rfl (.tmp 139) (.tmp 141) 49 rfl EIu rfl HOL8.out rfl (l := 1) rfl (Rd.one _ (.int .i64 x) _) (fun _ _ => rfl) (by unfold maxLen; omega) (by omega) (by simp; omega) (ML + 1) (ML + 1) rfl rfl ?_
                                              intro A4 c4 w8 hown hg4 hat4 hb4
                                              have HN8 := Lib.hid (HI8.out.n3.app HOL8.out hg4)
                                              have HK8 := Lib.hid (row_app HRK8.out HOL8.out hg4 (by decide))
                                              have e0 : w8.cell? ⟨nb, td, none⟩ = some (.slice (some ⟨gd, 0, none⟩) S S) := by rw [HN8.out.hd.cell htdK, HGD.out]
                                              have e1 : w8.cell? ⟨gd, nx, none⟩ = some (.slice AL ML CL) := by rw [HGD.out, (HN8.out.row td htdK).cell hnxS, ← HAL.out.1, ← HAL.out.2.1, ← HAL.out.2.2]
                                              have e2 : w8.cell? ⟨rk, 2, none⟩ = some (.int .i64 (nx : Nat)) := HK8.out.cell (i := 2) (by omega)
                                              have fz := (HN8.out.row td htdK).frozen nx
                                              rw [← HGD.out] at fz
                                              have lg8 : gd < w8.heap.size := by rw [HGD.out]; exact (HN8.out.row td htdK).lt
                                              have HI9 : Hid (IV W (w8.setCell ⟨gd, nx, none⟩ (.slice A4 (ML + 1) c4)) bb w.heap.size n n5 K S nb (20 * c + 4 * q + 2 * (v + 1)) (5 * c + 2 * q + (v + 1)) F F5 (rrU st tc K sc ac T (some ⟨sb, so, none⟩) (some ⟨ab, ao, none⟩)) (up A' (td * S + nx) A4) (up cc' (td * S + nx) c4) (up M' (td * S + nx) (M' (td * S + nx) + 1)) (up L' (td * S + nx) (snoc (L' (td * S + nx)) (M' (td * S + nx)) x)) tch tqh (prD Hh Ss fb c q (v + 1))) := Lib.hid (by
                                                have := HI8.out.push (pr' := prD Hh Ss fb c q (v + 1)) (c := td) (q := nx) (c2 := c4) (A2 := A4) (x := x) htdK hnxS hyb (fun g => by rw [HYV.out g]; unfold prD; omega) (fun g h => by have h2 := (HYV.out g).1 h; have h3 := HGO.out g h2.1 h2.2.1 h2.2.2; exact ⟨h3.1, h3.2.1⟩) (by rw [← HAL.out.2.1]; exact hown) (by rw [← HAL.out.1, ← HAL.out.2.1, ← HAL.out.2.2]; exact hg4) (by rw [← HAL.out.1, ← HAL.out.2.1, ← HAL.out.2.2]; exact hat4)
                                                rw [← HAL.out.2.1, ← HGD.out] at this
                                                rw [← HAL.out.2.1]
                                                exact this.more (Nat.le_refl _) (by omega))
                                              have HSE0 := Lib.hid (And.intro e0 (And.intro e2 e1))
                                              clear hown hg4 hat4 hb4 e0 e2
                                              refine hK.out _ _ (fun _ => HSE0.out) ?_
                                              clear hK KK
                                              try simp only [Act.put, List.getElem_toArray, List.getElem_cons_zero, List.getElem_cons_succ, List.setIfInBounds_toArray, List.set_cons_zero, List.set_cons_succ]
                                              refine anyT_takeY (i := 17) (v := ?_) rfl (by decide +kernel) (by decide +kernel) (by decide +kernel) (by decide +kernel) (fun _ _ _ h => h) (Or.inl ⟨by rfl, ?_⟩) HSE0.out ?_; rotate_left 1
                                              · intro w _; go_simp; with_reducible rfl
                                              simp only [Act.put, List.getElem_toArray, List.getElem_cons_zero, List.getElem_cons_succ, List.setIfInBounds_toArray, List.set_cons_zero, List.set_cons_succ]
                                              refine anyT_one (i := 18) (by decide +kernel) rfl (fun KK hK => ?_)
                                              go_simp
                                              refine hK.out _ _ (fun h => absurd h (by decide +kernel)) ?_
                                              clear hK KK
                                              try simp only [Act.put, List.getElem_toArray, List.getElem_cons_zero, List.getElem_cons_succ, List.setIfInBounds_toArray, List.set_cons_zero, List.set_cons_succ]
                                              refine T_of_any _ _ _ _ (by decide +kernel) ?_
                                              refine wpAny_done (by decide +kernel) ?_ _
                                              go_wp2_with fail
                                              go_roundw
                                              case rel => exact ⟨v + 1, n5, F5, _, _, _, _, A3, m9 + 1, c3, by omega, by go_num, rfl, by omega, Lib.hid ⟨by rw [up_other _ _ (by omega)]; exact HL9'.out.1, by rw [up_other _ _ (by omega)]; exact HL9'.out.2.1, by rw [up_other _ _ (by omega)]; exact HL9'.out.2.2⟩, Lib.hid ⟨by rw [up_other _ _ (by omega)]; exact HL10'.out.1, by rw [up_other _ _ (by omega)]; exact HL10'.out.2.1, by rw [up_other _ _ (by omega)]; exact HL10'.out.2.2⟩, Lib.hid ⟨by rw [up_other _ _ (by omega)]; exact HL6'.out.1, by rw [up_other _ _ (by omega)]; exact HL6'.out.2.1, by rw [up_other _ _ (by omega)]; exact HL6'.out.2.2⟩, HI9, Lib.hid (by rw [up_other _ _ (by omega)]; exact HSG7.out), Lib.hid (HON7.out.other (by omega)), Lib.hid (HHE7.out.other (by omega))⟩
                                              case measure => simp [intOf]; omega
                                      · as_aux_lemma =>
                                          have wb : (wv == 1) = false := beq_eq_false_iff_ne.2 hw1
                                          have k0 := HRK5.out.cell (i := 0) (by omega)
                                          have k1 := HRK5.out.cell (i := 1) (by omega)
                                          have lk5 := HRK5.out.lt
                                          change _ = some (Value.int .i64 wv) at k0
                                          change _ = some (Value.int .i64 mv) at k1
                                          have HON7 : Hid (SemL F5 M L (K * S + 1) (fun g => Hh g = c ∧ (Ss g < q ∨ Ss g = q ∧ fb g < v + 1) ∧ Ss g < st ∧ TR R (Ss g) (3 * fb g) = 1)) := Lib.hid (HON5.out.iff fun g => by
                                            constructor
                                            · rintro ⟨h1, h2, h3, h4⟩
                                              refine ⟨h1, ?_, h3, h4⟩
                                              by_cases h5 : Ss g = q ∧ fb g = v
                                              · exfalso; rw [(HGO.out g h1 h5.1 h5.2).2.2] at h4; exact hw1 h4
                                              · omega
                                            · rintro ⟨h1, h2, h3, h4⟩; exact ⟨h1, by omega, h3, h4⟩)
                                          go_upto_region 27 with fail
                                          obtain ⟨w6, hw6⟩ : ∃ w6 : World, w6 = w5 := ⟨_, rfl⟩
                                          subst hw6
                                          obtain ⟨A', cc', M', L', hA', hcc', hM', hL'⟩ : ∃ (A' : Nat → Option Addr) (cc' M' : Nat → Nat) (L' : Nat → Nat → Int), A' = A ∧ cc' = cc ∧ M' = M ∧ L' = L := ⟨_, _, _, _, rfl, rfl, rfl, rfl⟩
                                          subst hA' hcc' hM' hL'
                                          have HL9' := HL9
                                          have HL10' := HL10
                                          have HL6' := HL6
                                          have HI7 := HI5
                                          have HSG7 := HSG5
                                          have HHE7 := HHE5
                                          have HRK6 := HRK5
                                          have lk6 := lk5
                                          clear HI5 HSG5 HON5 HHE5 HL9 HL10 HL6 k0 k1 HRK5 lk5 wb
                                          have j1 := HRK6.out.cell (i := 1) (by omega)
                                          change _ = some (Value.int .i64 mv) at j1
                                          go_cut [17] (fun s17 wx => s17 = .int .i64 (td : Nat) ∧ wx = w6)
                                          case first =>
                                            as_aux_lemma =>
                                              rcases HCL.out with ⟨h1, h2⟩ | ⟨h1, h2, h3⟩ | ⟨h1, h2, h3⟩
                                              · as_aux_lemma =>
                                                  subst h2
                                                  go_wp2_with fail
                                                  go_meet
                                                  case rel => exact ⟨rfl, rfl⟩
                                              · as_aux_lemma =>
                                                  have HH3 := Lib.hid h3
                                                  clear h3
                                                  go_wp2_with fail
                                                  go_meet
                                                  case rel => exact ⟨by rw [HH3.out], rfl⟩
                                              · as_aux_lemma =>
                                                  have HH3 := Lib.hid h3
                                                  clear h3
                                                  go_wp2_with fail
                                                  go_meet
                                                  case rel => exact ⟨by rw [HH3.out], rfl⟩
                                          case rest =>
                                            as_aux_lemma =>
                                              obtain ⟨hs17, hwc⟩ := hcut
                                              subst hs17
                                              have hwc2 := hwc.symm
                                              subst hwc2
                                              obtain ⟨gd, hgd⟩ : ∃ z, z = nb + 1 + td := ⟨_, rfl⟩
                                              obtain ⟨AL, hAL⟩ : ∃ z, z = A' (td * S + nx) := ⟨_, rfl⟩
                                              obtain ⟨ML, hML⟩ : ∃ z, z = M' (td * S + nx) := ⟨_, rfl⟩
                                              obtain ⟨CL, hCL⟩ : ∃ z, z = cc' (td * S + nx) := ⟨_, rfl⟩
                                              have hi28 : td * S + nx < K * S := leaf_lt htdK hnxS
                                              have g0 := HI7.out.n3.hd.cell htdK
                                              have g1 := (HI7.out.n3.row td htdK).cell hnxS
                                              rw [← hgd] at g0 g1
                                              rw [← hAL, ← hML, ← hCL] at g1
                                              have g2 := HRK6.out.cell (i := 2) (by omega)
                                              change _ = some (Value.int .i64 (nx : Nat)) at g2
                                              have lg0 := HI7.out.n3.hd.lt
                                              have lg1 : gd < w6.heap.size := by rw [hgd]; exact (HI7.out.n3.row td htdK).lt
                                              have HS0 : Hid (w6.drew.cell? ⟨nb, td, none⟩ = some (.slice (some ⟨gd, 0, none⟩) S S) ∧ w6.drew.cell? ⟨rk, 2, none⟩ = some (.int .i64 (nx : Nat)) ∧ w6.drew.cell? ⟨gd, nx, none⟩ = some (.slice AL ML CL)) := Lib.hid ⟨g0, g2, g1⟩
                                              have hML2 : ML ≤ 40 := by rw [hML]; have := HI7.out.mbd _ hi28; omega
                                              have htdI : (td : Int) < (K : Int) := by omega
                                              have hnxI : (nx : Int) < (S : Int) := by omega
                                              have HI8 := Lib.hid (HI7.out.below (((Below.refl w6.heap.size w6).drew).alloc (Nat.le_refl _) (.cells #[.int .i64 x] 3)))
                                              have HOL8 : Hid (Own (w6.drew.alloc (.cells #[.int .i64 x] 3)) nb 3 1 AL ML CL ML (fun j => .int .i64 (L' (td * S + nx) j))) := Lib.hid (by rw [hAL, hML, hCL]; exact HI8.out.fam.own _ (by omega))
                                              have HBA : Hid (Below w6.heap.size w6 (w6.drew.alloc (.cells #[.int .i64 x] 3))) := Lib.hid (((Below.refl w6.heap.size w6).drew).alloc (Nat.le_refl _) _)
                                              have hsz6 := HI7.out.size
                                              have HRK8 := Lib.hid ((show w6.drew.rowIs rk _ 3 _ from HRK6.out).alloc (.cells #[.int .i64 x] 3))
                                              have HGD := Lib.hid hgd
                                              have HAL := Lib.hid (And.intro hAL (And.intro hML hCL))
                                              clear hgd hAL hML hCL g0 g1 g2 HS
                                              go_wp2_with fail
                                              refine wp_region_any (by kernel_rfl) ?_
                                              change wpAny _ _ _ _ _ _ _ (World.drew _)
                                              refine any_of_T (S := fun W' => W'.cell? ⟨nb, td, none⟩ = some (.slice (some ⟨gd, 0, none⟩) S S) ∧ W'.cell? ⟨rk, 2, none⟩ = some (.int .i64 (nx : Nat)) ∧ W'.cell? ⟨gd, nx, none⟩ = some (.slice AL ML CL)) (c := 18) _ _ _ _ ?_
                                              refine anyT_takeY (i := 0) (v := ?_) rfl (by decide +kernel) (by decide +kernel) (by decide +kernel) (by decide +kernel) (fun _ _ _ h => h) (Or.inl ⟨by rfl, ?_⟩) HS0.out ?_; rotate_left 1
                                              · intro w _; go_simp; with_reducible rfl
                                              simp only [Act.put, List.getElem_toArray, List.getElem_cons_zero, List.getElem_cons_succ, List.setIfInBounds_toArray, List.set_cons_zero, List.set_cons_succ]
                                              refine anyT_takeY (i := 1) (v := ?_) rfl (by decide +kernel) (by decide +kernel) (by decide +kernel) (by decide +kernel) (fun _ _ _ h => h) (Or.inl ⟨by rfl, ?_⟩) HS0.out ?_; rotate_left 1
                                              · intro w _; go_simp; with_reducible rfl
                                              simp only [Act.put, List.getElem_toArray, List.getElem_cons_zero, List.getElem_cons_succ, List.setIfInBounds_toArray, List.set_cons_zero, List.set_cons_succ]
                                              refine anyT_takeY (i := 2) (v := ?_) rfl (by decide +kernel) (by decide +kernel) (by decide +kernel) (by decide +kernel) (fun _ _ _ h => h) (Or.inl ⟨by rfl, ?_⟩) HS0.out ?_; rotate_left 1
                                              · intro w _; go_simp; with_reducible rfl
                                              simp only [Act.put, List.getElem_toArray, List.getElem_cons_zero, List.getElem_cons_succ, List.setIfInBounds_toArray, List.set_cons_zero, List.set_cons_succ]
                                              refine anyT_takeL [17, 18] (i := 3) (v := ?_) rfl (by decide +kernel) (by decide +kernel) (by decide +kernel) (by decide +kernel) (by decide +kernel) (by decide +kernel) (fun _ _ _ h => h) (Or.inl ⟨by rfl, ?_⟩) HS0.out ?_; rotate_left 1
                                              · intro w hS; obtain ⟨s0, s1, s2⟩ := hS; go_simp; with_reducible rfl
                                              simp only [Act.put, List.getElem_toArray, List.getElem_cons_zero, List.getElem_cons_succ, List.setIfInBounds_toArray, List.set_cons_zero, List.set_cons_succ]
                                              refine anyT_takeY (i := 4) (v := ?_) rfl (by decide +kernel) (by decide +kernel) (by decide +kernel) (by decide +kernel) (fun _ _ _ h => h) (Or.inl ⟨by rfl, ?_⟩) HS0.out ?_; rotate_left 1
                                              · intro w _; go_simp; with_reducible rfl
                                              simp only [Act.put, List.getElem_toArray, List.getElem_cons_zero, List.getElem_cons_succ, List.setIfInBounds_toArray, List.set_cons_zero, List.set_cons_succ]
                                              refine anyT_takeL [17, 18] (i := 5) (v := ?_) rfl (by decide +kernel) (by decide +kernel) (by decide +kernel) (by decide +kernel) (by decide +kernel) (by decide +kernel) (fun _ _ _ h => h) (Or.inl ⟨by rfl, ?_⟩) HS0.out ?_; rotate_left 1
                                              · intro w hS; obtain ⟨s0, s1, s2⟩ := hS; go_simp; with_reducible rfl
                                              simp only [Act.put, List.getElem_toArray, List.getElem_cons_zero, List.getElem_cons_succ, List.setIfInBounds_toArray, List.set_cons_zero, List.set_cons_succ]
                                              refine anyT_takeY (i := 6) (v := ?_) rfl (by decide +kernel) (by decide +kernel) (by decide +kernel) (by decide +kernel) (fun _ _ _ h => h) (Or.inl ⟨by rfl, ?_⟩) HS0.out ?_; rotate_left 1
                                              · intro w _; go_simp; with_reducible rfl
                                              simp only [Act.put, List.getElem_toArray, List.getElem_cons_zero, List.getElem_cons_succ, List.setIfInBounds_toArray, List.set_cons_zero, List.set_cons_succ]
                                              refine anyT_takeY (i := 7) (v := ?_) rfl (by decide +kernel) (by decide +kernel) (by decide +kernel) (by decide +kernel) (fun _ _ _ h => h) (Or.inl ⟨by rfl, ?_⟩) HS0.out ?_; rotate_left 1
                                              · intro w _; go_simp; with_reducible rfl
                                              simp only [Act.put, List.getElem_toArray, List.getElem_cons_zero, List.getElem_cons_succ, List.setIfInBounds_toArray, List.set_cons_zero, List.set_cons_succ]
                                              refine anyT_takeY (i := 8) (v := ?_) rfl (by decide +kernel) (by decide +kernel) (by decide +kernel) (by decide +kernel) (fun _ _ _ h => h) (Or.inl ⟨by rfl, ?_⟩) HS0.out ?_; rotate_left 1
                                              · intro w _; go_simp; with_reducible rfl
                                              simp only [Act.put, List.getElem_toArray, List.getElem_cons_zero, List.getElem_cons_succ, List.setIfInBounds_toArray, List.set_cons_zero, List.set_cons_succ]
                                              refine anyT_takeL [12, 13, 16, 18] (i := 9) (v := ?_) rfl (by decide +kernel) (by decide +kernel) (by decide +kernel) (by decide +kernel) (by decide +kernel) (by decide +kernel) (fun _ _ _ h => h) (Or.inl ⟨by rfl, ?_⟩) HS0.out ?_; rotate_left 1
                                              · intro w hS; obtain ⟨s0, s1, s2⟩ := hS; go_simp; with_reducible rfl
                                              simp only [Act.put, List.getElem_toArray, List.getElem_cons_zero, List.getElem_cons_succ, List.setIfInBounds_toArray, List.set_cons_zero, List.set_cons_succ]
                                              refine anyT_takeY (i := 10) (v := ?_) rfl (by decide +kernel) (by decide +kernel) (by decide +kernel) (by decide +kernel) (fun _ _ _ h => h) (Or.inl ⟨by rfl, ?_⟩) HS0.out ?_; rotate_left 1
                                              · intro w _; go_simp; with_reducible rfl
                                              simp only [Act.put, List.getElem_toArray, List.getElem_cons_zero, List.getElem_cons_succ, List.setIfInBounds_toArray, List.set_cons_zero, List.set_cons_succ]
                                              refine anyT_takeL [12, 13, 16, 18] (i := 11) (v := ?_) rfl (by decide +kernel) (by decide +kernel) (by decide +kernel) (by decide +kernel) (by decide +kernel) (by decide +kernel) (fun _ _ _ h => h) (Or.inl ⟨by rfl, ?_⟩) HS0.out ?_; rotate_left 1
                                              · intro w hS; obtain ⟨s0, s1, s2⟩ := hS; go_simp; with_reducible rfl
                                              simp only [Act.put, List.getElem_toArray, List.getElem_cons_zero, List.getElem_cons_succ, List.setIfInBounds_toArray, List.set_cons_zero, List.set_cons_succ]
                                              refine anyT_takeY (i := 12) (v := ?_) rfl (by decide +kernel) (by decide +kernel) (by decide +kernel) (by decide +kernel) (fun _ _ _ h => h) (Or.inl ⟨by rfl, ?_⟩) HS0.out ?_; rotate_left 1
                                              · intro w _; go_simp; with_reducible rfl
                                              simp only [Act.put, List.getElem_toArray, List.getElem_cons_zero, List.getElem_cons_succ, List.setIfInBounds_toArray, List.set_cons_zero, List.set_cons_succ]
                                              refine anyT_takeL [16, 18] (i := 13) (v := ?_) rfl (by decide +kernel) (by decide +kernel) (by decide +kernel) (by decide +kernel) (by decide +kernel) (by decide +kernel) (fun _ _ _ h => h) (Or.inl ⟨by rfl, ?_⟩) HS0.out ?_; rotate_left 1
                                              · intro w hS; obtain ⟨s0, s1, s2⟩ := hS; go_simp; with_reducible rfl
                                              simp only [Act.put, List.getElem_toArray, List.getElem_cons_zero, List.getElem_cons_succ, List.setIfInBounds_toArray, List.set_cons_zero, List.set_cons_succ]
                                              refine anyT_takeY (i := 14) (v := ?_) rfl (by decide +kernel) (by decide +kernel) (by decide +kernel) (by decide +kernel) (fun _ _ _ h => h) (Or.inl ⟨by rfl, ?_⟩) HS0.out ?_; rotate_left 1
                                              · intro w _; go_simp; with_reducible rfl
                                              simp only [Act.put, List.getElem_toArray, List.getElem_cons_zero, List.getElem_cons_succ, List.setIfInBounds_toArray, List.set_cons_zero, List.set_cons_succ]
                                              refine anyT_one (i := 15) (by decide +kernel) rfl (fun KK hK => ?_)
                                              go_simp
                                              refine hK.out _ _ (fun _ => ⟨(HBA.out.cell (p := ⟨nb, td, none⟩) lg0).trans HS0.out.1, (HBA.out.cell (p := ⟨rk, 2, none⟩) lk6).trans HS0.out.2.1, (HBA.out.cell (p := ⟨gd, nx, none⟩) lg1).trans HS0.out.2.2⟩) ?_
                                              clear hK KK
                                              try simp only [Act.put, List.getElem_toArray, List.getElem_cons_zero, List.getElem_cons_succ, List.setIfInBounds_toArray, List.set_cons_zero, List.set_cons_succ]
                                              refine anyT_one (i := 16) (by decide +kernel) rfl (fun KK hK => ?_)
                                              refine step_app _ rfl (.tmp 139) (.tmp 141) 49 rfl EIu rfl HOL8.out rfl (l := 1) rfl (Rd.one _ (.int .i64 x) _) (fun _ _ => rfl) (by unfold maxLen; omega) (by omega) (by simp; omega) (ML + 1) (ML + 1) rfl rfl ?_
                                              intro A4 c4 w8 hown hg4 hat4 hb4
                                              have HN8 := Lib.hid (HI8.out.n3.app HOL8.out hg4)
                                              have HK8 := Lib.hid (row_app HRK8.out HOL8.out hg4 (by decide))
                                              have e0 : w8.cell? ⟨nb, td, none⟩ = some (.slice (some ⟨gd, 0, none⟩) S S) := by rw [HN8.out.hd.cell htdK, HGD.out]
                                              have e1 : w8.cell? ⟨gd, nx, none⟩ = some (.slice AL ML CL) := by rw [HGD.out, (HN8.out.row td htdK).cell hnxS, ← HAL.out.1, ← HAL.out.2.1, ← HAL.out.2.2]
                                              have e2 : w8.cell? ⟨rk, 2, none⟩ = some (.int .i64 (nx : Nat)) := HK8.out.cell (i := 2) (by omega)
                                              have fz := (HN8.out.row td htdK).frozen nx
                                              rw [← HGD.out] at fz
                                              have lg8 : gd < w8.heap.size := by rw [HGD.out]; exact (HN8.out.row td htdK).lt
                                              have HI9 : Hid (IV W (w8.setCell ⟨gd, nx, none⟩ (.slice A4 (ML + 1) c4)) bb w.heap.size n n5 K S nb (20 * c + 4 * q + 2 * (v + 1)) (5 * c + 2 * q + (v + 1)) F F5 (rrU st tc K sc ac T (some ⟨sb, so, none⟩) (some ⟨ab, ao, none⟩)) (up A' (td * S + nx) A4) (up cc' (td * S + nx) c4) (up M' (td * S + nx) (M' (td * S + nx) + 1)) (up L' (td * S + nx) (snoc (L' (td * S + nx)) (M' (td * S + nx)) x)) tch tqh (prD Hh Ss fb c q (v + 1))) := Lib.hid (by
                                                have := HI8.out.push (pr' := prD Hh Ss fb c q (v + 1)) (c := td) (q := nx) (c2 := c4) (A2 := A4) (x := x) htdK hnxS hyb (fun g => by rw [HYV.out g]; unfold prD; omega) (fun g h => by have h2 := (HYV.out g).1 h; have h3 := HGO.out g h2.1 h2.2.1 h2.2.2; exact ⟨h3.1, h3.2.1⟩) (by rw [← HAL.out.2.1]; exact hown) (by rw [← HAL.out.1, ← HAL.out.2.1, ← HAL.out.2.2]; exact hg4) (by rw [← HAL.out.1, ← HAL.out.2.1, ← HAL.out.2.2]; exact hat4)
                                                rw [← HAL.out.2.1, ← HGD.out] at this
                                                rw [← HAL.out.2.1]
                                                exact this.more (Nat.le_refl _) (by omega))
                                              have HSE0 := Lib.hid (And.intro e0 (And.intro e2 e1))
                                              clear hown hg4 hat4 hb4 e0 e2
                                              refine hK.out _ _ (fun _ => HSE0.out) ?_
                                              clear hK KK
                                              try simp only [Act.put, List.getElem_toArray, List.getElem_cons_zero, List.getElem_cons_succ, List.setIfInBounds_toArray, List.set_cons_zero, List.set_cons_succ]
                                              refine anyT_takeY (i := 17) (v := ?_) rfl (by decide +kernel) (by decide +kernel) (by decide +kernel) (by decide +kernel) (fun _ _ _ h => h) (Or.inl ⟨by rfl, ?_⟩) HSE0.out ?_; rotate_left 1
                                              · intro w _; go_simp; with_reducible rfl
                                              simp only [Act.put, List.getElem_toArray, List.getElem_cons_zero, List.getElem_cons_succ, List.setIfInBounds_toArray, List.set_cons_zero, List.set_cons_succ]
                                              refine anyT_one (i := 18) (by decide +kernel) rfl (fun KK hK => ?_)
                                              go_simp
                                              refine hK.out _ _ (fun h => absurd h (by decide +kernel)) ?_
                                              clear hK KK
                                              try simp only [Act.put, List.getElem_toArray, List.getElem_cons_zero, List.getElem_cons_succ, List.setIfInBounds_toArray, List.set_cons_zero, List.set_cons_succ]
                                              refine T_of_any _ _ _ _ (by decide +kernel) ?_
                                              refine wpAny_done (by decide +kernel) ?_ _
                                              go_wp2_with fail
                                              go_roundw
                                              case rel => exact ⟨v + 1, n5, F5, _, _, _, _, A9, m9, c9, by omega, by go_num, rfl, by omega, Lib.hid ⟨by rw [up_other _ _ (by omega)]; exact HL9'.out.1, by rw [up_other _ _ (by omega)]; exact HL9'.out.2.1, by rw [up_other _ _ (by omega)]; exact HL9'.out.2.2⟩, Lib.hid ⟨by rw [up_other _ _ (by omega)]; exact HL10'.out.1, by rw [up_other _ _ (by omega)]; exact HL10'.out.2.1, by rw [up_other _ _ (by omega)]; exact HL10'.out.2.2⟩, Lib.hid ⟨by rw [up_other _ _ (by omega)]; exact HL6'.out.1, by rw [up_other _ _ (by omega)]; exact HL6'.out.2.1, by rw [up_other _ _ (by omega)]; exact HL6'.out.2.2⟩, HI9, Lib.hid (by rw [up_other _ _ (by omega)]; exact HSG7.out), Lib.hid (HON7.out.other (by omega)), Lib.hid (HHE7.out.other (by omega))⟩
                                              case measure => simp [intOf]; omega
                                  · as_aux_lemma =>
                                      have vb : ((v : Int) == 0) = true := by rw [hv1]; rfl
                                      have HV1 := Lib.hid hv1
                                      clear hv1
                                      go_wp2_with fail
                                      rw [← HRKE.out, ← HW4.out]
                                      refine (put_b HI4.out.bt.bs (by omega) (by omega) 2 s 0 (by omega) (by omega) (by omega) (by omega) (by omega)).mono ?_
                                      rintro e w41 ⟨i4, n4, F4, rfl, hbt4, hi4, hv4⟩
                                      have HBT4 := Lib.hid hbt4
                                      have HV4 : Hid (∀ g, val F4 g i4 = !(vx F3 g s)) := Lib.hid fun g => (hv4 g).2.1 rfl
                                      have hn45 : n3 ≤ n4 ∧ n4 ≤ n3 + 1 := ⟨hbt4.le, hbt4.le2⟩
                                      clear hbt4 hv4
                                      go_wp2_with fail
                                      refine (both_any HBT4.out.bs (by omega) (by omega) x (i4 : Nat) ⟨hxv.1, by omega⟩ (by omega)).mono ?_
                                      rintro e w5 ⟨y, n5, F5, rfl, hbt, hyb, hyv⟩
                                      have HBT5 : Hid (BT w4 w5 bb w.heap.size n3 n5 K 2 F3 F5 (rrU st tc K sc ac T (some ⟨sb, so, none⟩) (some ⟨ab, ao, none⟩))) := Lib.hid (HBT4.out.trans hbt)
                                      have HYV : Hid (∀ g, vx F5 g y = true ↔ Hh g = c ∧ Ss g = q ∧ fb g = v) := Lib.hid fun g => by
                                        rw [hyv g]
                                        show (vx F4 g x && vx F4 g (i4 : Nat)) = true ↔ _
                                        rw [vx_nat, HV4.out g, HBT4.out.vx g (by omega), HI4.out.bt.vx g hxv.2, HI4.out.bt.vx g hsv.2, Bool.and_eq_true, HXV.out g, HV1.out, Bool.not_eq_true', ← Bool.not_eq_true, HSS.out, (HS.out g c hcK).1]
                                        have hf := HTG.out.hf g
                                        constructor
                                        · rintro ⟨⟨h1, h2⟩, h3⟩; exact ⟨h1, h2, by
                                            have h4 : ¬ fb g = 1 := fun h5 => h3 (by rw [HFB.out g, h1] at h5; exact h5)
                                            omega⟩
                                        · rintro ⟨h1, h2, h3⟩; exact ⟨⟨h1, h2⟩, fun h5 => by
                                            have h4 : fb g = 1 := by rw [HFB.out g, h1]; exact h5
                                            omega⟩
                                      clear hbt hyv hn45
                                      have HSG5 : Hid (∀ g c', c' < c → (vx F5 g (L (K * S) c') = true ↔ Fb' g c')) := Lib.hid fun g c' hc' => by
                                        rw [HBT5.out.vx g (HI4.out.ok (K * S) (by omega) c' (by rw [HL6.out.2.1]; exact hc')).2]; exact HSG.out g c' hc'
                                      have HON5 := Lib.hid (HON.out.ext HI4.out.ok (by omega) HBT5.out.ext)
                                      have HHE5 := Lib.hid (HHE.out.ext HI4.out.ok (by omega) HBT5.out.ext)
                                      have HI5 : Hid (IV W w5 bb w.heap.size n n5 K S nb (20 * c + 4 * q + 2 * (v + 1)) (5 * c + 2 * q + v) F F5 (rrU st tc K sc ac T (some ⟨sb, so, none⟩) (some ⟨ab, ao, none⟩)) A cc M L tch tqh (prD Hh Ss fb c q v)) := Lib.hid ((HI4.out.call HBT5.out).more (by omega) (Nat.le_refl _))
                                      have HRK5 := Lib.hid (row_bt HRK4.out HI4.out.bt.bs HBT5.out (by decide) (by decide))
                                      have hn5 := HI5.out.size
                                      clear HI4 HRK4 HBT5 HON HHE HSG
                                      by_cases hw1 : wv = 1
                                      · as_aux_lemma =>
                                          have HO9 : Hid (Own w5 nb 3 1 A9 m9 c9 m9 (fun j => .int .i64 (L (K * S + 1) j))) := Lib.hid (by
                                            have := HI5.out.fam.own (K * S + 1) (by omega)
                                            rw [HL9.out.1, HL9.out.2.1, HL9.out.2.2] at this; exact this)
                                          have hb5 : nb ≤ (w5.alloc (.cells #[.int .i64 y] 3)).heap.size := by simp; omega
                                          have k0 := HRK5.out.cell (i := 0) (by omega)
                                          have k1 := HRK5.out.cell (i := 1) (by omega)
                                          have lk5 := HRK5.out.lt
                                          change _ = some (Value.int .i64 wv) at k0
                                          change _ = some (Value.int .i64 mv) at k1
                                          go_upto_region 27 with (at_builtin; refine wpList_app _ rfl (.tmp 114) (.tmp 116) 49 rfl EIu rfl (HO9.out.alloc _) rfl (l := 1) (by omega) (Rd.one w5 (.int .i64 y) _) (fun _ _ => rfl) (by unfold maxLen; omega) (by omega) hb5 (m9 + 1) (m9 + 1) rfl rfl ?_; intro A3 c3 w6 hown2 hg2 hat2 hbl2; have HI6 := Lib.hid ((HI5.out.below ((Below.refl w5.heap.size w5).alloc (Nat.le_refl _) (.cells #[.int .i64 y] 3))).app (i := K * S + 1) (A2 := A3) (c2 := c3) (x := y) (by omega) (by omega) hyb (by rw [HL9.out.2.1]; exact hown2) (by rw [HL9.out.1, HL9.out.2.1, HL9.out.2.2]; exact hg2) (by rw [HL9.out.1, HL9.out.2.1, HL9.out.2.2]; exact hat2)); have HRK6 := Lib.hid (row_app (HRK5.out.alloc (.cells #[.int .i64 y] 3)) (HO9.out.alloc (.cells #[.int .i64 y] 3)) hg2 (by decide)); have j1 := HRK6.out.cell (i := 1) (by omega); change _ = some (Value.int .i64 mv) at j1; have lk6 := HRK6.out.lt; clear hown2 hg2 hat2 hbl2)
                                          have HP6 : ∃ (A' : Nat → Option Addr) (cc' M' : Nat → Nat) (L' : Nat → Nat → Int), Hid (A' (K * S + 1) = A3 ∧ M' (K * S + 1) = m9 + 1 ∧ cc' (K * S + 1) = c3) ∧ Hid (A' (K * S + 2) = A2 ∧ M' (K * S + 2) = q + 1 ∧ cc' (K * S + 2) = c2) ∧ Hid (A' (K * S) = A6 ∧ M' (K * S) = c ∧ cc' (K * S) = c6) ∧ Hid (IV W w6 bb w.heap.size n n5 K S nb (20 * c + 4 * q + 2 * (v + 1)) (5 * c + 2 * q + v) F F5 (rrU st tc K sc ac T (some ⟨sb, so, none⟩) (some ⟨ab, ao, none⟩)) A' cc' M' L' tch tqh (prD Hh Ss fb c q v)) ∧ Hid (∀ g c', c' < c → (vx F5 g (L' (K * S) c') = true ↔ Fb' g c')) ∧ Hid (SemL F5 M' L' (K * S + 1) (fun g => Hh g = c ∧ (Ss g < q ∨ Ss g = q ∧ fb g < v + 1) ∧ Ss g < st ∧ TR R (Ss g) (3 * fb g) = 1)) ∧ Hid (SemL F5 M' L' (K * S + 2) (fun g => Hh g = c ∧ Ss g < q + 1)) := by
                                            refine ⟨_, _, _, _, Lib.hid ?_, Lib.hid ?_, Lib.hid ?_, HI6, Lib.hid ?_, Lib.hid (HON5.out.push fun g => ?_), Lib.hid (HHE5.out.other (by omega))⟩
                                            · refine ⟨?_, ?_, ?_⟩ <;> rw [up_same]
                                              rw [HL9.out.2.1]
                                            · refine ⟨?_, ?_, ?_⟩ <;> rw [up_other _ _ (by omega)]
                                              · exact HL10.out.1
                                              · exact HL10.out.2.1
                                              · exact HL10.out.2.2
                                            · refine ⟨?_, ?_, ?_⟩ <;> rw [up_other _ _ (by omega)]
                                              · exact HL6.out.1
                                              · exact HL6.out.2.1
                                              · exact HL6.out.2.2
                                            · rw [up_other _ _ (by omega)]; exact HSG5.out
                                            · rw [HYV.out g]
                                              constructor
                                              · rintro ⟨h1, h2, h3, h4⟩
                                                by_cases h5 : Ss g < q ∨ Ss g = q ∧ fb g < v
                                                · exact .inl ⟨h1, h5, h3, h4⟩
                                                · exact .inr ⟨h1, by omega, by omega⟩
                                              · rintro (⟨h1, h2, h3, h4⟩ | ⟨h1, h2, h3⟩)
                                                · exact ⟨h1, by omega, h3, h4⟩
                                                · exact ⟨h1, by omega, by omega, by rw [(HGO.out g h1 h2 h3).2.2]; exact hw1⟩
                                          obtain ⟨A', cc', M', L', HL9', HL10', HL6', HI7, HSG7, HON7, HHE7⟩ := HP6
                                          clear HI6 HI5 HSG5 HON5 HHE5 HL9 HL10 HL6 k0 k1 hb5 HO9 j1 HRK5 lk5
                                          have j1 := HRK6.out.cell (i := 1) (by omega)
                                          change _ = some (Value.int .i64 mv) at j1
                                          go_cut [17] (fun s17 wx => s17 = .int .i64 (td : Nat) ∧ wx = w6)
                                          case first =>
                                            as_aux_lemma =>
                                              rcases HCL.out with ⟨h1, h2⟩ | ⟨h1, h2, h3⟩ | ⟨h1, h2, h3⟩
                                              · as_aux_lemma =>
                                                  subst h2
                                                  go_wp2_with fail
                                                  go_meet
                                                  case rel => exact ⟨rfl, rfl⟩
                                              · as_aux_lemma =>
                                                  have HH3 := Lib.hid h3
                                                  clear h3
                                                  go_wp2_with fail
                                                  go_meet
                                                  case rel => exact ⟨by rw [HH3.out], rfl⟩
                                              · as_aux_lemma =>
                                                  have HH3 := Lib.hid h3
                                                  clear h3
                                                  go_wp2_with fail
                                                  go_meet
                                                  case rel => exact ⟨by rw [HH3.out], rfl⟩
                                          case rest =>
                                            as_aux_lemma =>
                                              obtain ⟨hs17, hwc⟩ := hcut
                                              subst hs17
                                              have hwc2 := hwc.symm
                                              subst hwc2
                                              obtain ⟨gd, hgd⟩ : ∃ z, z = nb + 1 + td := ⟨_, rfl⟩
                                              obtain ⟨AL, hAL⟩ : ∃ z, z = A' (td * S + nx) := ⟨_, rfl⟩
                                              obtain ⟨ML, hML⟩ : ∃ z, z = M' (td * S + nx) := ⟨_, rfl⟩
                                              obtain ⟨CL, hCL⟩ : ∃ z, z = cc' (td * S + nx) := ⟨_, rfl⟩
                                              have hi28 : td * S + nx < K * S := leaf_lt htdK hnxS
                                              have g0 := HI7.out.n3.hd.cell htdK
                                              have g1 := (HI7.out.n3.row td htdK).cell hnxS
                                              rw [← hgd] at g0 g1
                                              rw [← hAL, ← hML, ← hCL] at g1
                                              have g2 := HRK6.out.cell (i := 2) (by omega)
                                              change _ = some (Value.int .i64 (nx : Nat)) at g2
                                              have lg0 := HI7.out.n3.hd.lt
                                              have lg1 : gd < w6.heap.size := by rw [hgd]; exact (HI7.out.n3.row td htdK).lt
                                              have HS0 : Hid (w6.drew.cell? ⟨nb, td, none⟩ = some (.slice (some ⟨gd, 0, none⟩) S S) ∧ w6.drew.cell? ⟨rk, 2, none⟩ = some (.int .i64 (nx : Nat)) ∧ w6.drew.cell? ⟨gd, nx, none⟩ = some (.slice AL ML CL)) := Lib.hid ⟨g0, g2, g1⟩
                                              have hML2 : ML ≤ 40 := by rw [hML]; have := HI7.out.mbd _ hi28; omega
                                              have htdI : (td : Int) < (K : Int) := by omega
                                              have hnxI : (nx : Int) < (S : Int) := by omega
                                              have HI8 := Lib.hid (HI7.out.below (((Below.refl w6.heap.size w6).drew).alloc (Nat.le_refl _) (.cells #[.int .i64 y] 3)))
                                              have HOL8 : Hid (Own (w6.drew.alloc (.cells #[.int .i64 y] 3)) nb 3 1 AL ML CL ML (fun j => .int .i64 (L' (td * S + nx) j))) := Lib.hid (by rw [hAL, hML, hCL]; exact HI8.out.fam.own _ (by omega))
                                              have HBA : Hid (Below w6.heap.size w6 (w6.drew.alloc (.cells #[.int .i64 y] 3))) := Lib.hid (((Below.refl w6.heap.size w6).drew).alloc (Nat.le_refl _) _)
                                              have hsz6 := HI7.out.size
                                              have HRK8 := Lib.hid ((show w6.drew.rowIs rk _ 3 _ from HRK6.out).alloc (.cells #[.int .i64 y] 3))
                                              have HGD := Lib.hid hgd
                                              have HAL := Lib.hid (And.intro hAL (And.intro hML hCL))
                                              clear hgd hAL hML hCL g0 g1 g2 HS
                                              go_wp2_with fail
                                              refine wp_region_any (by kernel_rfl) ?_
                                              change wpAny _ _ _ _ _ _ _ (World.drew _)
                                              refine any_of_T (S := fun W' => W'.cell? ⟨nb, td, none⟩ = some (.slice (some ⟨gd, 0, none⟩) S S) ∧ W'.cell? ⟨rk, 2, none⟩ = some (.int .i64 (nx : Nat)) ∧ W'.cell? ⟨gd, nx, none⟩ = some (.slice AL ML CL)) (c := 18) _ _ _ _ ?_
                                              refine anyT_takeY (i := 0) (v := ?_) rfl (by decide +kernel) (by decide +kernel) (by decide +kernel) (by decide +kernel) (fun _ _ _ h => h) (Or.inl ⟨by rfl, ?_⟩) HS0.out ?_; rotate_left 1
                                              · intro w _; go_simp; with_reducible rfl
                                              simp only [Act.put, List.getElem_toArray, List.getElem_cons_zero, List.getElem_cons_succ, List.setIfInBounds_toArray, List.set_cons_zero, List.set_cons_succ]
                                              refine anyT_takeY (i := 1) (v := ?_) rfl (by decide +kernel) (by decide +kernel) (by decide +kernel) (by decide +kernel) (fun _ _ _ h => h) (Or.inl ⟨by rfl, ?_⟩) HS0.out ?_; rotate_left 1
                                              · intro w _; go_simp; with_reducible rfl
                                              simp only [Act.put, List.getElem_toArray, List.getElem_cons_zero, List.getElem_cons_succ, List.setIfInBounds_toArray, List.set_cons_zero, List.set_cons_succ]
                                              refine anyT_takeY (i := 2) (v := ?_) rfl (by decide +kernel) (by decide +kernel) (by decide +kernel) (by decide +kernel) (fun _ _ _ h => h) (Or.inl ⟨by rfl, ?_⟩) HS0.out ?_; rotate_left 1
                                              · intro w _; go_simp; with_reducible rfl
                                              simp only [Act.put, List.getElem_toArray, List.getElem_cons_zero, List.getElem_cons_succ, List.setIfInBounds_toArray, List.set_cons_zero, List.set_cons_succ]
                                              refine anyT_takeL [17, 18] (i := 3) (v := ?_) rfl (by decide +kernel) (by decide +kernel) (by decide +kernel) (by decide +kernel) (by decide +kernel) (by decide +kernel) (fun _ _ _ h => h) (Or.inl ⟨by rfl, ?_⟩) HS0.out ?_; rotate_left 1
                                              · intro w hS; obtain ⟨s0, s1, s2⟩ := hS; go_simp; with_reducible rfl
                                              simp only [Act.put, List.getElem_toArray, List.getElem_cons_zero, List.getElem_cons_succ, List.setIfInBounds_toArray, List.set_cons_zero, List.set_cons_succ]
                                              refine anyT_takeY (i := 4) (v := ?_) rfl (by decide +kernel) (by decide +kernel) (by decide +kernel) (by decide +kernel) (fun _ _ _ h => h) (Or.inl ⟨by rfl, ?_⟩) HS0.out ?_; rotate_left 1
                                              · intro w _; go_simp; with_reducible rfl
                                              simp only [Act.put, List.getElem_toArray, List.getElem_cons_zero, List.getElem_cons_succ, List.setIfInBounds_toArray, List.set_cons_zero, List.set_cons_succ]
                                              refine anyT_takeL [17, 18] (i := 5) (v := ?_) rfl (by decide +kernel) (by decide +kernel) (by decide +kernel) (by decide +kernel) (by decide +kernel) (by decide +kernel) (fun _ _ _ h => h) (Or.inl ⟨by rfl, ?_⟩) HS0.out ?_; rotate_left 1
                                              · intro w hS; obtain ⟨s0, s1, s2⟩ := hS; go_simp; with_reducible rfl
                                              simp only [Act.put, List.getElem_toArray, List.getElem_cons_zero, List.getElem_cons_succ, List.setIfInBounds_toArray, List.set_cons_zero, List.set_cons_succ]
                                              refine anyT_takeY (i := 6) (v := ?_) rfl (by decide +kernel) (by decide +kernel) (by decide +kernel) (by decide +kernel) (fun _ _ _ h => h) (Or.inl ⟨by rfl, ?_⟩) HS0.out ?_; rotate_left 1
                                              · intro w _; go_simp; with_reducible rfl
                                              simp only [Act.put, List.getElem_toArray, List.getElem_cons_zero, List.getElem_cons_succ, List.setIfInBounds_toArray, List.set_cons_zero, List.set_cons_succ]
                                              refine anyT_takeY (i := 7) (v := ?_) rfl (by decide +kernel) (by decide +kernel) (by decide +kernel) (by decide +kernel) (fun _ _ _ h => h) (Or.inl ⟨by rfl, ?_⟩) HS0.out ?_; rotate_left 1
                                              · intro w _; go_simp; with_reducible rfl
                                              simp only [Act.put, List.getElem_toArray, List.getElem_cons_zero, List.getElem_cons_succ, List.setIfInBounds_toArray, List.set_cons_zero, List.set_cons_succ]
                                              refine anyT_takeY (i := 8) (v := ?_) rfl (by decide +kernel) (by decide +kernel) (by decide +kernel) (by decide +kernel) (fun _ _ _ h => h) (Or.inl ⟨by rfl, ?_⟩) HS0.out ?_; rotate_left 1
                                              · intro w _; go_simp; with_reducible rfl
                                              simp only [Act.put, List.getElem_toArray, List.getElem_cons_zero, List.getElem_cons_succ, List.setIfInBounds_toArray, List.set_cons_zero, List.set_cons_succ]
                                              refine anyT_takeL [12, 13, 16, 18] (i := 9) (v := ?_) rfl (by decide +kernel) (by decide +kernel) (by decide +kernel) (by decide +kernel) (by decide +kernel) (by decide +kernel) (fun _ _ _ h => h) (Or.inl ⟨by rfl, ?_⟩) HS0.out ?_; rotate_left 1
                                              · intro w hS; obtain ⟨s0, s1, s2⟩ := hS; go_simp; with_reducible rfl
                                              simp only [Act.put, List.getElem_toArray, List.getElem_cons_zero, List.getElem_cons_succ, List.setIfInBounds_toArray, List.set_cons_zero, List.set_cons_succ]
                                              refine anyT_takeY (i := 10) (v := ?_) rfl (by decide +kernel) (by decide +kernel) (by decide +kernel) (by decide +kernel) (fun _ _ _ h => h) (Or.inl ⟨by rfl, ?_⟩) HS0.out ?_; rotate_left 1
                                              · intro w _; go_simp; with_reducible rfl
                                              simp only [Act.put, List.getElem_toArray, List.getElem_cons_zero, List.getElem_cons_succ, List.setIfInBounds_toArray, List.set_cons_zero, List.set_cons_succ]
                                              refine anyT_takeL [12, 13, 16, 18] (i := 11) (v := ?_) rfl (by decide +kernel) (by decide +kernel) (by decide +kernel) (by decide +kernel) (by decide +kernel) (by decide +kernel) (fun _ _ _ h => h) (Or.inl ⟨by rfl, ?_⟩) HS0.out ?_; rotate_left 1
                                              · intro w hS; obtain ⟨s0, s1, s2⟩ := hS; go_simp; with_reducible rfl
                                              simp only [Act.put, List.getElem_toArray, List.getElem_cons_zero, List.getElem_cons_succ, List.setIfInBounds_toArray, List.set_cons_zero, List.set_cons_succ]
                                              refine anyT_takeY (i := 12) (v := ?_) rfl (by decide +kernel) (by decide +kernel) (by decide +kernel) (by decide +kernel) (fun _ _ _ h => h) (Or.inl ⟨by rfl, ?_⟩) HS0.out ?_; rotate_left 1
                                              · intro w _; go_simp; with_reducible rfl
                                              simp only [Act.put, List.getElem_toArray, List.getElem_cons_zero, List.getElem_cons_succ, List.setIfInBounds_toArray, List.set_cons_zero, List.set_cons_succ]
                                              refine anyT_takeL [16, 18] (i := 13) (v := ?_) rfl (by decide +kernel) (by decide +kernel) (by decide +kernel) (by decide +kernel) (by decide +kernel) (by decide +kernel) (fun _ _ _ h => h) (Or.inl ⟨by rfl, ?_⟩) HS0.out ?_; rotate_left 1
                                              · intro w hS; obtain ⟨s0, s1, s2⟩ := hS; go_simp; with_reducible rfl
                                              simp only [Act.put, List.getElem_toArray, List.getElem_cons_zero, List.getElem_cons_succ, List.setIfInBounds_toArray, List.set_cons_zero, List.set_cons_succ]
                                              refine anyT_takeY (i := 14) (v := ?_) rfl (by decide +kernel) (by decide +kernel) (by decide +kernel) (by decide +kernel) (fun _ _ _ h => h) (Or.inl ⟨by rfl, ?_⟩) HS0.out ?_; rotate_left 1
                                              · intro w _; go_simp; with_reducible rfl
                                              simp only [Act.put, List.getElem_toArray, List.getElem_cons_zero, List.getElem_cons_succ, List.setIfInBounds_toArray, List.set_cons_zero, List.set_cons_succ]
                                              refine anyT_one (i := 15) (by decide +kernel) rfl (fun KK hK => ?_)
                                              go_simp
                                              refine hK.out _ _ (fun _ => ⟨(HBA.out.cell (p := ⟨nb, td, none⟩) lg0).trans HS0.out.1, (HBA.out.cell (p := ⟨rk, 2, none⟩) lk6).trans HS0.out.2.1, (HBA.out.cell (p := ⟨gd, nx, none⟩) lg1).trans HS0.out.2.2⟩) ?_
                                              clear hK KK
                                              try simp only [Act.put, List.getElem_toArray, List.getElem_cons_zero, List.getElem_cons_succ, List.setIfInBounds_toArray, List.set_cons_zero, List.set_cons_succ]
                                              refine anyT_one (i := 16) (by decide +kernel) rfl (fun KK hK => ?_)
                                              refine step_app _ rfl (.tmp 139) (.tmp 141) 49 rfl EIu rfl HOL8.out rfl (l := 1) rfl (Rd.one _ (.int .i64 y) _) (fun _ _ => rfl) (by unfold maxLen; omega) (by omega) (by simp; omega) (ML + 1) (ML + 1) rfl rfl ?_
                                              intro A4 c4 w8 hown hg4 hat4 hb4
                                              have HN8 := Lib.hid (HI8.out.n3.app HOL8.out hg4)
                                              have HK8 := Lib.hid (row_app HRK8.out HOL8.out hg4 (by decide))
                                              have e0 : w8.cell? ⟨nb, td, none⟩ = some (.slice (some ⟨gd, 0, none⟩) S S) := by rw [HN8.out.hd.cell htdK, HGD.out]
                                              have e1 : w8.cell? ⟨gd, nx, none⟩ = some (.slice AL ML CL) := by rw [HGD.out, (HN8.out.row td htdK).cell hnxS, ← HAL.out.1, ← HAL.out.2.1, ← HAL.out.2.2]
                                              have e2 : w8.cell? ⟨rk, 2, none⟩ = some (.int .i64 (nx : Nat)) := HK8.out.cell (i := 2) (by omega)
                                              have fz := (HN8.out.row td htdK).frozen nx
                                              rw [← HGD.out] at fz
                                              have lg8 : gd < w8.heap.size := by rw [HGD.out]; exact (HN8.out.row td htdK).lt
                                              have HI9 : Hid (IV W (w8.setCell ⟨gd, nx, none⟩ (.slice A4 (ML + 1) c4)) bb w.heap.size n n5 K S nb (20 * c + 4 * q + 2 * (v + 1)) (5 * c + 2 * q + (v + 1)) F F5 (rrU st tc K sc ac T (some ⟨sb, so, none⟩) (some ⟨ab, ao, none⟩)) (up A' (td * S + nx) A4) (up cc' (td * S + nx) c4) (up M' (td * S + nx) (M' (td * S + nx) + 1)) (up L' (td * S + nx) (snoc (L' (td * S + nx)) (M' (td * S + nx)) y)) tch tqh (prD Hh Ss fb c q (v + 1))) := Lib.hid (by
                                                have := HI8.out.push (pr' := prD Hh Ss fb c q (v + 1)) (c := td) (q := nx) (c2 := c4) (A2 := A4) (x := y) htdK hnxS hyb (fun g => by rw [HYV.out g]; unfold prD; omega) (fun g h => by have h2 := (HYV.out g).1 h; have h3 := HGO.out g h2.1 h2.2.1 h2.2.2; exact ⟨h3.1, h3.2.1⟩) (by rw [← HAL.out.2.1]; exact hown) (by rw [← HAL.out.1, ← HAL.out.2.1, ← HAL.out.2.2]; exact hg4) (by rw [← HAL.out.1, ← HAL.out.2.1, ← HAL.out.2.2]; exact hat4)
                                                rw [← HAL.out.2.1, ← HGD.out] at this
                                                rw [← HAL.out.2.1]
                                                exact this.more (Nat.le_refl _) (by omega))
                                              have HSE0 := Lib.hid (And.intro e0 (And.intro e2 e1))
                                              clear hown hg4 hat4 hb4 e0 e2
                                              refine hK.out _ _ (fun _ => HSE0.out) ?_
                                              clear hK KK
                                              try simp only [Act.put, List.getElem_toArray, List.getElem_cons_zero, List.getElem_cons_succ, List.setIfInBounds_toArray, List.set_cons_zero, List.set_cons_succ]
                                              refine anyT_takeY (i := 17) (v := ?_) rfl (by decide +kernel) (by decide +kernel) (by decide +kernel) (by decide +kernel) (fun _ _ _ h => h) (Or.inl ⟨by rfl, ?_⟩) HSE0.out ?_; rotate_left 1
                                              · intro w _; go_simp; with_reducible rfl
                                              simp only [Act.put, List.getElem_toArray, List.getElem_cons_zero, List.getElem_cons_succ, List.setIfInBounds_toArray, List.set_cons_zero, List.set_cons_succ]
                                              refine anyT_one (i := 18) (by decide +kernel) rfl (fun KK hK => ?_)
                                              go_simp
                                              refine hK.out _ _ (fun h => absurd h (by decide +kernel)) ?_
                                              clear hK KK
                                              try simp only [Act.put, List.getElem_toArray, List.getElem_cons_zero, List.getElem_cons_succ, List.setIfInBounds_toArray, List.set_cons_zero, List.set_cons_succ]
                                              refine T_of_any _ _ _ _ (by decide +kernel) ?_
                                              refine wpAny_done (by decide +kernel) ?_ _
                                              go_wp2_with fail
                                              go_roundw
                                              case rel => exact ⟨v + 1, n5, F5, _, _, _, _, A3, m9 + 1, c3, by omega, by go_num, rfl, by omega, Lib.hid ⟨by rw [up_other _ _ (by omega)]; exact HL9'.out.1, by rw [up_other _ _ (by omega)]; exact HL9'.out.2.1, by rw [up_other _ _ (by omega)]; exact HL9'.out.2.2⟩, Lib.hid ⟨by rw [up_other _ _ (by omega)]; exact HL10'.out.1, by rw [up_other _ _ (by omega)]; exact HL10'.out.2.1, by rw [up_other _ _ (by omega)]; exact HL10'.out.2.2⟩, Lib.hid ⟨by rw [up_other _ _ (by omega)]; exact HL6'.out.1, by rw [up_other _ _ (by omega)]; exact HL6'.out.2.1, by rw [up_other _ _ (by omega)]; exact HL6'.out.2.2⟩, HI9, Lib.hid (by rw [up_other _ _ (by omega)]; exact HSG7.out), Lib.hid (HON7.out.other (by omega)), Lib.hid (HHE7.out.other (by omega))⟩
                                              case measure => simp [intOf]; omega
                                      · as_aux_lemma =>
                                          have wb : (wv == 1) = false := beq_eq_false_iff_ne.2 hw1
                                          have k0 := HRK5.out.cell (i := 0) (by omega)
                                          have k1 := HRK5.out.cell (i := 1) (by omega)
                                          have lk5 := HRK5.out.lt
                                          change _ = some (Value.int .i64 wv) at k0
                                          change _ = some (Value.int .i64 mv) at k1
                                          have HON7 : Hid (SemL F5 M L (K * S + 1) (fun g => Hh g = c ∧ (Ss g < q ∨ Ss g = q ∧ fb g < v + 1) ∧ Ss g < st ∧ TR R (Ss g) (3 * fb g) = 1)) := Lib.hid (HON5.out.iff fun g => by
                                            constructor
                                            · rintro ⟨h1, h2, h3, h4⟩
                                              refine ⟨h1, ?_, h3, h4⟩
                                              by_cases h5 : Ss g = q ∧ fb g = v
                                              · exfalso; rw [(HGO.out g h1 h5.1 h5.2).2.2] at h4; exact hw1 h4
                                              · omega
                                            · rintro ⟨h1, h2, h3, h4⟩; exact ⟨h1, by omega, h3, h4⟩)
                                          go_upto_region 27 with fail
                                          obtain ⟨w6, hw6⟩ : ∃ w6 : World, w6 = w5 := ⟨_, rfl⟩
                                          subst hw6
                                          obtain ⟨A', cc', M', L', hA', hcc', hM', hL'⟩ : ∃ (A' : Nat → Option Addr) (cc' M' : Nat → Nat) (L' : Nat → Nat → Int), A' = A ∧ cc' = cc ∧ M' = M ∧ L' = L := ⟨_, _, _, _, rfl, rfl, rfl, rfl⟩
                                          subst hA' hcc' hM' hL'
                                          have HL9' := HL9
                                          have HL10' := HL10
                                          have HL6' := HL6
                                          have HI7 := HI5
                                          have HSG7 := HSG5
                                          have HHE7 := HHE5
                                          have HRK6 := HRK5
                                          have lk6 := lk5
                                          clear HI5 HSG5 HON5 HHE5 HL9 HL10 HL6 k0 k1 HRK5 lk5 wb
                                          have j1 := HRK6.out.cell (i := 1) (by omega)
                                          change _ = some (Value.int .i64 mv) at j1
                                          go_cut [17] (fun s17 wx => s17 = .int .i64 (td : Nat) ∧ wx = w6)
                                          case first =>
                                            as_aux_lemma =>
                                              rcases HCL.out with ⟨h1, h2⟩ | ⟨h1, h2, h3⟩ | ⟨h1, h2, h3⟩
                                              · as_aux_lemma =>
                                                  subst h2
                                                  go_wp2_with fail
                                                  go_meet
                                                  case rel => exact ⟨rfl, rfl⟩
                                              · as_aux_lemma =>
                                                  have HH3 := Lib.hid h3
                                                  clear h3
                                                  go_wp2_with fail
                                                  go_meet
                                                  case rel => exact ⟨by rw [HH3.out], rfl⟩
                                              · as_aux_lemma =>
                                                  have HH3 := Lib.hid h3
                                                  clear h3
                                                  go_wp2_with fail
                                                  go_meet
                                                  case rel => exact ⟨by rw [HH3.out], rfl⟩
                                          case rest =>
                                            as_aux_lemma =>
                                              obtain ⟨hs17, hwc⟩ := hcut
                                              subst hs17
                                              have hwc2 := hwc.symm
                                              subst hwc2
                                              obtain ⟨gd, hgd⟩ : ∃ z, z = nb + 1 + td := ⟨_, rfl⟩
                                              obtain ⟨AL, hAL⟩ : ∃ z, z = A' (td * S + nx) := ⟨_, rfl⟩
                                              obtain ⟨ML, hML⟩ : ∃ z, z = M' (td * S + nx) := ⟨_, rfl⟩
                                              obtain ⟨CL, hCL⟩ : ∃ z, z = cc' (td * S + nx) := ⟨_, rfl⟩
                                              have hi28 : td * S + nx < K * S := leaf_lt htdK hnxS
                                              have g0 := HI7.out.n3.hd.cell htdK
                                              have g1 := (HI7.out.n3.row td htdK).cell hnxS
                                              rw [← hgd] at g0 g1
                                              rw [← hAL, ← hML, ← hCL] at g1
                                              have g2 := HRK6.out.cell (i := 2) (by omega)
                                              change _ = some (Value.int .i64 (nx : Nat)) at g2
                                              have lg0 := HI7.out.n3.hd.lt
                                              have lg1 : gd < w6.heap.size := by rw [hgd]; exact (HI7.out.n3.row td htdK).lt
                                              have HS0 : Hid (w6.drew.cell? ⟨nb, td, none⟩ = some (.slice (some ⟨gd, 0, none⟩) S S) ∧ w6.drew.cell? ⟨rk, 2, none⟩ = some (.int .i64 (nx : Nat)) ∧ w6.drew.cell? ⟨gd, nx, none⟩ = some (.slice AL ML CL)) := Lib.hid ⟨g0, g2, g1⟩
                                              have hML2 : ML ≤ 40 := by rw [hML]; have := HI7.out.mbd _ hi28; omega
                                              have htdI : (td : Int) < (K : Int) := by omega
                                              have hnxI : (nx : Int) < (S : Int) := by omega
                                              have HI8 := Lib.hid (HI7.out.below (((Below.refl w6.heap.size w6).drew).alloc (Nat.le_refl _) (.cells #[.int .i64 y] 3)))
                                              have HOL8 : Hid (Own (w6.drew.alloc (.cells #[.int .i64 y] 3)) nb 3 1 AL ML CL ML (fun j => .int .i64 (L' (td * S + nx) j))) := Lib.hid (by rw [hAL, hML, hCL]; exact HI8.out.fam.own _ (by omega))
                                              have HBA : Hid (Below w6.heap.size w6 (w6.drew.alloc (.cells #[.int .i64 y] 3))) := Lib.hid (((Below.refl w6.heap.size w6).drew).alloc (Nat.le_refl _) _)
                                              have hsz6 := HI7.out.size
                                              have HRK8 := Lib.hid ((show w6.drew.rowIs rk _ 3 _ from HRK6.out).alloc (.cells #[.int .i64 y] 3))
                                              have HGD := Lib.hid hgd
                                              have HAL := Lib.hid (And.intro hAL (And.intro hML hCL))
                                              clear hgd hAL hML hCL g0 g1 g2 HS
                                              go_wp2_with fail
                                              refine wp_region_any (by kernel_rfl) ?_
                                              change wpAny _ _ _ _ _ _ _ (World.drew _)
                                              refine any_of_T (S := fun W' => W'.cell? ⟨nb, td, none⟩ = some (.slice (some ⟨gd, 0, none⟩) S S) ∧ W'.cell? ⟨rk, 2, none⟩ = some (.int .i64 (nx : Nat)) ∧ W'.cell? ⟨gd, nx, none⟩ = some (.slice AL ML CL)) (c := 18) _ _ _ _ ?_
                                              refine anyT_takeY (i := 0) (v := ?_) rfl (by decide +kernel) (by decide +kernel) (by decide +kernel) (by decide +kernel) (fun _ _ _ h => h) (Or.inl ⟨by rfl, ?_⟩) HS0.out ?_; rotate_left 1
                                              · intro w _; go_simp; with_reducible rfl
                                              simp only [Act.put, List.getElem_toArray, List.getElem_cons_zero, List.getElem_cons_succ, List.setIfInBounds_toArray, List.set_cons_zero, List.set_cons_succ]
                                              refine anyT_takeY (i := 1) (v := ?_) rfl (by decide +kernel) (by decide +kernel) (by decide +kernel) (by decide +kernel) (fun _ _ _ h => h) (Or.inl ⟨by rfl, ?_⟩) HS0.out ?_; rotate_left 1
                                              · intro w _; go_simp; with_reducible rfl
                                              simp only [Act.put, List.getElem_toArray, List.getElem_cons_zero, List.getElem_cons_succ, List.setIfInBounds_toArray, List.set_cons_zero, List.set_cons_succ]
                                              refine anyT_takeY (i := 2) (v := ?_) rfl (by decide +kernel) (by decide +kernel) (by decide +kernel) (by decide +kernel) (fun _ _ _ h => h) (Or.inl ⟨by rfl, ?_⟩) HS0.out ?_; rotate_left 1
                                              · intro w _; go_simp; with_reducible rfl
                                              simp only [Act.put, List.getElem_toArray, List.getElem_cons_zero, List.getElem_cons_succ, List.setIfInBounds_toArray, List.set_cons_zero, List.set_cons_succ]
                                              refine anyT_takeL [17, 18] (i := 3) (v := ?_) rfl (by decide +kernel) (by decide +kernel) (by decide +kernel) (by decide +kernel) (by decide +kernel) (by decide +kernel) (fun _ _ _ h => h) (Or.inl ⟨by rfl, ?_⟩) HS0.out ?_; rotate_left 1
                                              · intro w hS; obtain ⟨s0, s1, s2⟩ := hS; go_simp; with_reducible rfl
                                              simp only [Act.put, List.getElem_toArray, List.getElem_cons_zero, List.getElem_cons_succ, List.setIfInBounds_toArray, List.set_cons_zero, List.set_cons_succ]
                                              refine anyT_takeY (i := 4) (v := ?_) rfl (by decide +kernel) (by decide +kernel) (by decide +kernel) (by decide +kernel) (fun _ _ _ h => h) (Or.inl ⟨by rfl, ?_⟩) HS0.out ?_; rotate_left 1
                                              · intro w _; go_simp; with_reducible rfl
                                              simp only [Act.put, List.getElem_toArray, List.getElem_cons_zero, List.getElem_cons_succ, List.setIfInBounds_toArray, List.set_cons_zero, List.set_cons_succ]
                                              refine anyT_takeL [17, 18] (i := 5) (v := ?_) rfl (by decide +kernel) (by decide +kernel) (by decide +kernel) (by decide +kernel) (by decide +kernel) (by decide +kernel) (fun _ _ _ h => h) (Or.inl ⟨by rfl, ?_⟩) HS0.out ?_; rotate_left 1
                                              · intro w hS; obtain ⟨s0, s1, s2⟩ := hS; go_simp; with_reducible rfl
                                              simp only [Act.put, List.getElem_toArray, List.getElem_cons_zero, List.getElem_cons_succ, List.setIfInBounds_toArray, List.set_cons_zero, List.set_cons_succ]
                                              refine anyT_takeY (i := 6) (v := ?_) rfl (by decide +kernel) (by decide +kernel) (by decide +kernel) (by decide +kernel) (fun _ _ _ h => h) (Or.inl ⟨by rfl, ?_⟩) HS0.out ?_; rotate_left 1
                                              · intro w _; go_simp; with_reducible rfl
                                              simp only [Act.put, List.getElem_toArray, List.getElem_cons_zero, List.getElem_cons_succ, List.setIfInBounds_toArray, List.set_cons_zero, List.set_cons_succ]
                                              refine anyT_takeY (i := 7) (v := ?_) rfl (by decide +kernel) (by decide +kernel) (by decide +kernel) (by decide +kernel) (fun _ _ _ h => h) (Or.inl ⟨by rfl, ?_⟩) HS0.out ?_; rotate_left 1
                                              · intro w _; go_simp; with_reducible rfl
                                              simp only [Act.put, List.getElem_toArray, List.getElem_cons_zero, List.getElem_cons_succ, List.setIfInBounds_toArray, List.set_cons_zero, List.set_cons_succ]
                                              refine anyT_takeY (i := 8) (v := ?_) rfl (by decide +kernel) (by decide +kernel) (by decide +kernel) (by decide +kernel) (fun _ _ _ h => h) (Or.inl ⟨by rfl, ?_⟩) HS0.out ?_; rotate_left 1
                                              · intro w _; go_simp; with_reducible rfl
                                              simp only [Act.put, List.getElem_toArray, List.getElem_cons_zero, List.getElem_cons_succ, List.setIfInBounds_toArray, List.set_cons_zero, List.set_cons_succ]
                                              refine anyT_takeL [12, 13, 16, 18] (i := 9) (v := ?_) rfl (by decide +kernel) (by decide +kernel) (by decide +kernel) (by decide +kernel) (by decide +kernel) (by decide +kernel) (fun _ _ _ h => h) (Or.inl ⟨by rfl, ?_⟩) HS0.out ?_; rotate_left 1
                                              · intro w hS; obtain ⟨s0, s1, s2⟩ := hS; go_simp; with_reducible rfl
                                              simp only [Act.put, List.getElem_toArray, List.getElem_cons_zero, List.getElem_cons_succ, List.setIfInBounds_toArray, List.set_cons_zero, List.set_cons_succ]
                                              refine anyT_takeY (i := 10) (v := ?_) rfl (by decide +kernel) (by decide +kernel) (by decide +kernel) (by decide +kernel) (fun _ _ _ h => h) (Or.inl ⟨by rfl, ?_⟩) HS0.out ?_; rotate_left 1
                                              · intro w _; go_simp; with_reducible rfl
                                              simp only [Act.put, List.getElem_toArray, List.getElem_cons_zero, List.getElem_cons_succ, List.setIfInBounds_toArray, List.set_cons_zero, List.set_cons_succ]
                                              refine anyT_takeL [12, 13, 16, 18] (i := 11) (v := ?_) rfl (by decide +kernel) (by decide +kernel) (by decide +kernel) (by decide +kernel) (by decide +kernel) (by decide +kernel) (fun _ _ _ h => h) (Or.inl ⟨by rfl, ?_⟩) HS0.out ?_; rotate_left 1
                                              · intro w hS; obtain ⟨s0, s1, s2⟩ := hS; go_simp; with_reducible rfl
                                              simp only [Act.put, List.getElem_toArray, List.getElem_cons_zero, List.getElem_cons_succ, List.setIfInBounds_toArray, List.set_cons_zero, List.set_cons_succ]
                                              refine anyT_takeY (i := 12) (v := ?_) rfl (by decide +kernel) (by decide +kernel) (by decide +kernel) (by decide +kernel) (fun _ _ _ h => h) (Or.inl ⟨by rfl, ?_⟩) HS0.out ?_; rotate_left 1
                                              · intro w _; go_simp; with_reducible rfl
                                              simp only [Act.put, List.getElem_toArray, List.getElem_cons_zero, List.getElem_cons_succ, List.setIfInBounds_toArray, List.set_cons_zero, List.set_cons_succ]
                                              refine anyT_takeL [16, 18] (i := 13) (v := ?_) rfl (by decide +kernel) (by decide +kernel) (by decide +kernel) (by decide +kernel) (by decide +kernel) (by decide +kernel) (fun _ _ _ h => h) (Or.inl ⟨by rfl, ?_⟩) HS0.out ?_; rotate_left 1
                                              · intro w hS; obtain ⟨s0, s1, s2⟩ := hS; go_simp; with_reducible rfl
                                              simp only [Act.put, List.getElem_toArray, List.getElem_cons_zero, List.getElem_cons_succ, List.setIfInBounds_toArray, List.set_cons_zero, List.set_cons_succ]
                                              refine anyT_takeY (i := 14) (v := ?_) rfl (by decide +kernel) (by decide +kernel) (by decide +kernel) (by decide +kernel) (fun _ _ _ h => h) (Or.inl ⟨by rfl, ?_⟩) HS0.out ?_; rotate_left 1
                                              · intro w _; go_simp; with_reducible rfl
                                              simp only [Act.put, List.getElem_toArray, List.getElem_cons_zero, List.getElem_cons_succ, List.setIfInBounds_toArray, List.set_cons_zero, List.set_cons_succ]
                                              refine anyT_one (i := 15) (by decide +kernel) rfl (fun KK hK => ?_)
                                              go_simp
                                              refine hK.out _ _ (fun _ => ⟨(HBA.out.cell (p := ⟨nb, td, none⟩) lg0).trans HS0.out.1, (HBA.out.cell (p := ⟨rk, 2, none⟩) lk6).trans HS0.out.2.1, (HBA.out.cell (p := ⟨gd, nx, none⟩) lg1).trans HS0.out.2.2⟩) ?_
                                              clear hK KK
                                              try simp only [Act.put, List.getElem_toArray, List.getElem_cons_zero, List.getElem_cons_succ, List.setIfInBounds_toArray, List.set_cons_zero, List.set_cons_succ]
                                              refine anyT_one (i := 16) (by decide +kernel) rfl (fun KK hK => ?_)
                                              refine step_app _ rfl (.tmp 139) (.tmp 141) 49 rfl EIu rfl HOL8.out rfl (l := 1) rfl (Rd.one _ (.int .i64 y) _) (fun _ _ => rfl) (by unfold maxLen; omega) (by omega) (by simp; omega) (ML + 1) (ML + 1) rfl rfl ?_
                                              intro A4 c4 w8 hown hg4 hat4 hb4
                                              have HN8 := Lib.hid (HI8.out.n3.app HOL8.out hg4)
                                              have HK8 := Lib.hid (row_app HRK8.out HOL8.out hg4 (by decide))
                                              have e0 : w8.cell? ⟨nb, td, none⟩ = some (.slice (some ⟨gd, 0, none⟩) S S) := by rw [HN8.out.hd.cell htdK, HGD.out]
                                              have e1 : w8.cell? ⟨gd, nx, none⟩ = some (.slice AL ML CL) := by rw [HGD.out, (HN8.out.row td htdK).cell hnxS, ← HAL.out.1, ← HAL.out.2.1, ← HAL.out.2.2]
                                              have e2 : w8.cell? ⟨rk, 2, none⟩ = some (.int .i64 (nx : Nat)) := HK8.out.cell (i := 2) (by omega)
                                              have fz := (HN8.out.row td htdK).frozen nx
                                              rw [← HGD.out] at fz
                                              have lg8 : gd < w8.heap.size := by rw [HGD.out]; exact (HN8.out.row td htdK).lt
                                              have HI9 : Hid (IV W (w8.setCell ⟨gd, nx, none⟩ (.slice A4 (ML + 1) c4)) bb w.heap.size n n5 K S nb (20 * c + 4 * q + 2 * (v + 1)) (5 * c + 2 * q + (v + 1)) F F5 (rrU st tc K sc ac T (some ⟨sb, so, none⟩) (some ⟨ab, ao, none⟩)) (up A' (td * S + nx) A4) (up cc' (td * S + nx) c4) (up M' (td * S + nx) (M' (td * S + nx) + 1)) (up L' (td * S + nx) (snoc (L' (td * S + nx)) (M' (td * S + nx)) y)) tch tqh (prD Hh Ss fb c q (v + 1))) := Lib.hid (by
                                                have := HI8.out.push (pr' := prD Hh Ss fb c q (v + 1)) (c := td) (q := nx) (c2 := c4) (A2 := A4) (x := y) htdK hnxS hyb (fun g => by rw [HYV.out g]; unfold prD; omega) (fun g h => by have h2 := (HYV.out g).1 h; have h3 := HGO.out g h2.1 h2.2.1 h2.2.2; exact ⟨h3.1, h3.2.1⟩) (by rw [← HAL.out.2.1]; exact hown) (by rw [← HAL.out.1, ← HAL.out.2.1, ← HAL.out.2.2]; exact hg4) (by rw [← HAL.out.1, ← HAL.out.2.1, ← HAL.out.2.2]; exact hat4)
                                                rw [← HAL.out.2.1, ← HGD.out] at this
                                                rw [← HAL.out.2.1]
                                                exact this.more (Nat.le_refl _) (by omega))
                                              have HSE0 := Lib.hid (And.intro e0 (And.intro e2 e1))
                                              clear hown hg4 hat4 hb4 e0 e2
                                              refine hK.out _ _ (fun _ => HSE0.out) ?_
                                              clear hK KK
                                              try simp only [Act.put, List.getElem_toArray, List.getElem_cons_zero, List.getElem_cons_succ, List.setIfInBounds_toArray, List.set_cons_zero, List.set_cons_succ]
                                              refine anyT_takeY (i := 17) (v := ?_) rfl (by decide +kernel) (by decide +kernel) (by decide +kernel) (by decide +kernel) (fun _ _ _ h => h) (Or.inl ⟨by rfl, ?_⟩) HSE0.out ?_; rotate_left 1
                                              · intro w _; go_simp; with_reducible rfl
                                              simp only [Act.put, List.getElem_toArray, List.getElem_cons_zero, List.getElem_cons_succ, List.setIfInBounds_toArray, List.set_cons_zero, List.set_cons_succ]
                                              refine anyT_one (i := 18) (by decide +kernel) rfl (fun KK hK => ?_)
                                              go_simp
                                              refine hK.out _ _ (fun h => absurd h (by decide +kernel)) ?_
                                              clear hK KK
                                              try simp only [Act.put, List.getElem_toArray, List.getElem_cons_zero, List.getElem_cons_succ, List.setIfInBounds_toArray, List.set_cons_zero, List.set_cons_succ]
                                              refine T_of_any _ _ _ _ (by decide +kernel) ?_
                                              refine wpAny_done (by decide +kernel) ?_ _
                                              go_wp2_with fail
                                              go_roundw
                                              case rel => exact ⟨v + 1, n5, F5, _, _, _, _, A9, m9, c9, by omega, by go_num, rfl, by omega, Lib.hid ⟨by rw [up_other _ _ (by omega)]; exact HL9'.out.1, by rw [up_other _ _ (by omega)]; exact HL9'.out.2.1, by rw [up_other _ _ (by omega)]; exact HL9'.out.2.2⟩, Lib.hid ⟨by rw [up_other _ _ (by omega)]; exact HL10'.out.1, by rw [up_other _ _ (by omega)]; exact HL10'.out.2.1, by rw [up_other _ _ (by omega)]; exact HL10'.out.2.2⟩, Lib.hid ⟨by rw [up_other _ _ (by omega)]; exact HL6'.out.1, by rw [up_other _ _ (by omega)]; exact HL6'.out.2.1, by rw [up_other _ _ (by omega)]; exact HL6'.out.2.2⟩, HI9, Lib.hid (by rw [up_other _ _ (by omega)]; exact HSG7.out), Lib.hid (HON7.out.other (by omega)), Lib.hid (HHE7.out.other (by omega))⟩
                                              case measure => simp [intOf]; omega
                              · as_aux_lemma =>
                                  have hve : v = 2 := by omega
                                  have hvI : ¬ (v : Int) < 2 := by omega
                                  have HIq : Hid (IV W wd bb w.heap.size n n3 K S nb (20 * c + 4 * (q + 1)) (5 * c + 2 * (q + 1)) F F3 (rrU st tc K sc ac T (some ⟨sb, so, none⟩) (some ⟨ab, ao, none⟩)) A cc M L tch tqh (prD Hh Ss fb c (q + 1) 0)) := Lib.hid ((HI.out.more (by omega) (by omega)).iff fun g => by have := HTG.out.hf g; unfold prD; omega)
                                  have HONq : Hid (SemL F3 M L (K * S + 1) (fun g => Hh g = c ∧ Ss g < q + 1 ∧ Ss g < st ∧ TR R (Ss g) (3 * fb g) = 1)) := Lib.hid (HON.out.iff fun g => by
                                    have := HTG.out.hf g
                                    constructor
                                    · rintro ⟨h1, h2, h3, h4⟩; exact ⟨h1, by omega, h3, h4⟩
                                    · rintro ⟨h1, h2, h3, h4⟩; exact ⟨h1, by omega, h3, h4⟩)
                                  have hm92 : m9 ≤ 2 * (q + 1) := by omega
                                  clear hve HI HON
                                  go_wp2_with fail
                                  go_roundw
                                  case rel => exact ⟨q + 1, n3, F3, A, cc, M, L, A9, m9, c9, A2, c2, by omega, by go_num, rfl, hm92, rfl, HL9, HL10, HL6, HIq, HSG, HONq, HHE⟩
                                  case measure => simp [intOf]; omega
                      · as_aux_lemma =>
                          have hqe : q = st := by omega
                          have hqI : ¬ (q : Int) < (st : Int) := by omega
                          have HIq : Hid (IV W wq bb w.heap.size n n2 K S nb (20 * c + 8) (5 * c + 4) F F2 (rrU st tc K sc ac T (some ⟨sb, so, none⟩) (some ⟨ab, ao, none⟩)) A cc M L tch tqh (prD Hh Ss fb c st 0)) := Lib.hid (by have h := HI.out.more (cnt' := 20 * c + 8) (mb' := 5 * c + 4) (by omega) (by omega); rw [hqe] at h; exact h)
                          have HONq : Hid (SemL F2 M L (K * S + 1) (fun g => Hh g = c ∧ Ss g < st ∧ TR R (Ss g) (3 * fb g) = 1)) := Lib.hid (HON.out.iff fun g => by
                            constructor
                            · rintro ⟨h1, h2, h3⟩; exact ⟨h1, by omega, h2, h3⟩
                            · rintro ⟨h1, h2, h3, h4⟩; exact ⟨h1, h3, h4⟩)
                          have HHEq : Hid (SemL F2 M L (K * S + 2) (fun g => Hh g = c ∧ Ss g < st)) := Lib.hid (by rw [← hqe]; exact HHE.out)
                          have hm9q : m9 ≤ 4 := by omega
                          have hq2 : q ≤ 2 := by omega
                          clear hqe HI HON HHE hm9
                          go_wp2_with fail
                          obtain ⟨gd, hgd⟩ : ∃ z, z = nb + 1 + c := ⟨_, rfl⟩
                          obtain ⟨AL, hAL⟩ : ∃ z, z = A (c * S + st) := ⟨_, rfl⟩
                          obtain ⟨ML, hML⟩ : ∃ z, z = M (c * S + st) := ⟨_, rfl⟩
                          obtain ⟨CL, hCL⟩ : ∃ z, z = cc (c * S + st) := ⟨_, rfl⟩
                          have hstS : st < S := by have := HSE.out; omega
                          have hi31 : c * S + st < K * S := leaf_lt hcK hstS
                          have g0 := HIq.out.n3.hd.cell hcK
                          have g1 := (HIq.out.n3.row c hcK).cell hstS
                          rw [← hgd] at g0 g1
                          rw [← hAL, ← hML, ← hCL] at g1
                          have g2 := HIq.out.bt.bs.cell (j := 6) (by omega) (by omega)
                          change _ = some (Value.slice (some ⟨ab, ao, none⟩) K ac) at g2
                          obtain ⟨_, _, e1, lab, g3⟩ := (HIq.out.bt.own HU.out.bs HU.out.at_ rowI_G rowI_B).rd.at_ hcK
                          injection e1 with e1; injection e1 with e1 e2; subst e1 e2
                          rw [HRA.out, ← HRC.out] at g3
                          obtain ⟨_, _, e1, lrb, g4⟩ := (HIq.out.bt.own HU.out.bs HRWc.out intG intB).rd.at_ (show st < st + 1 by omega)
                          rw [HRA.out] at e1
                          injection e1 with e1; injection e1 with e1 e2; subst e1 e2
                          obtain ⟨z0, hz0⟩ : ∃ z, z = At c st := ⟨_, rfl⟩
                          rw [← hz0] at g4
                          have hzv : -1 ≤ z0 ∧ z0 < n := by rw [hz0]; exact HU.out.av c hcK st (Nat.le_refl _)
                          have HZV : Hid (∀ g, vx F2 g z0 = true ↔ Hh g = c ∧ Ss g = st) := Lib.hid fun g => by rw [HIq.out.bt.vx g hzv.2, hz0]; exact (HS.out g c hcK).2 st (Nat.le_refl _)
                          have lg0 := HIq.out.n3.hd.lt
                          have lg1 : gd < wq.heap.size := by rw [hgd]; exact (HIq.out.n3.row c hcK).lt
                          have lbb := HIq.out.bt.bs.lt.1
                          have HS0 : Hid (wq.drew.cell? ⟨nb, c, none⟩ = some (.slice (some ⟨gd, 0, none⟩) S S) ∧ wq.drew.cell? ⟨gd, st, none⟩ = some (.slice AL ML CL) ∧ wq.drew.cell? ⟨bb, 6, none⟩ = some (.slice (some ⟨ab, ao, none⟩) K ac) ∧ wq.drew.cell? ⟨ab, ao + c, none⟩ = some (.slice (some ⟨rb, ro, none⟩) (st + 1) rc) ∧ wq.drew.cell? ⟨rb, ro + st, none⟩ = some (.int .i64 z0)) := Lib.hid ⟨g0, g1, g2, g3, g4⟩
                          have hsz6 := HIq.out.size
                          have hML2 : ML ≤ 40 := by rw [hML]; have := HIq.out.mbd _ hi31; omega
                          have hstSI : (st : Int) < (S : Int) := by omega
                          have hst1I : (st : Int) < (st : Int) + 1 := by omega
                          have HI8 := Lib.hid (HIq.out.below (((Below.refl wq.heap.size wq).drew).alloc (Nat.le_refl _) (.cells #[.int .i64 z0] 3)))
                          have HOL8 : Hid (Own (wq.drew.alloc (.cells #[.int .i64 z0] 3)) nb 3 1 AL ML CL ML (fun j => .int .i64 (L (c * S + st) j))) := Lib.hid (by rw [hAL, hML, hCL]; exact HI8.out.fam.own _ (by omega))
                          have HBA : Hid (Below wq.heap.size wq (wq.drew.alloc (.cells #[.int .i64 z0] 3))) := Lib.hid (((Below.refl wq.heap.size wq).drew).alloc (Nat.le_refl _) _)
                          have HGD := Lib.hid hgd
                          have HAL := Lib.hid (And.intro hAL (And.intro hML hCL))
                          have HZ0 := Lib.hid hz0
                          clear hgd hAL hML hCL g0 g1 g2 g3 g4 hz0
                          refine wp_region_any (by kernel_rfl) ?_
                          change wpAny _ _ _ _ _ _ _ (World.drew _)
                          refine any_of_T (S := fun W' => W'.cell? ⟨nb, c, none⟩ = some (.slice (some ⟨gd, 0, none⟩) S S) ∧ W'.cell? ⟨gd, st, none⟩ = some (.slice AL ML CL) ∧ W'.cell? ⟨bb, 6, none⟩ = some (.slice (some ⟨ab, ao, none⟩) K ac) ∧ W'.cell? ⟨ab, ao + c, none⟩ = some (.slice (some ⟨rb, ro, none⟩) (st + 1) rc) ∧ W'.cell? ⟨rb, ro + st, none⟩ = some (.int .i64 z0)) (c := 25) _ _ _ _ ?_
                          refine anyT_takeY (i := 0) (v := ?_) rfl (by decide +kernel) (by decide +kernel) (by decide +kernel) (by decide +kernel) (fun _ _ _ h => h) (Or.inl ⟨by rfl, ?_⟩) HS0.out ?_; rotate_left 1
                          · intro w _; go_simp; with_reducible rfl
                          simp only [Act.put, List.getElem_toArray, List.getElem_cons_zero, List.getElem_cons_succ, List.setIfInBounds_toArray, List.set_cons_zero, List.set_cons_succ]
                          refine anyT_takeY (i := 1) (v := ?_) rfl (by decide +kernel) (by decide +kernel) (by decide +kernel) (by decide +kernel) (fun _ _ _ h => h) (Or.inl ⟨by rfl, ?_⟩) HS0.out ?_; rotate_left 1
                          · intro w _; go_simp; with_reducible rfl
                          simp only [Act.put, List.getElem_toArray, List.getElem_cons_zero, List.getElem_cons_succ, List.setIfInBounds_toArray, List.set_cons_zero, List.set_cons_succ]
                          refine anyT_takeY (i := 2) (v := ?_) rfl (by decide +kernel) (by decide +kernel) (by decide +kernel) (by decide +kernel) (fun _ _ _ h => h) (Or.inl ⟨by rfl, ?_⟩) HS0.out ?_; rotate_left 1
                          · intro w _; go_simp; with_reducible rfl
                          simp only [Act.put, List.getElem_toArray, List.getElem_cons_zero, List.getElem_cons_succ, List.setIfInBounds_toArray, List.set_cons_zero, List.set_cons_succ]
                          refine anyT_takeL [24, 25] (i := 3) (v := ?_) rfl (by decide +kernel) (by decide +kernel) (by decide +kernel) (by decide +kernel) (by decide +kernel) (by decide +kernel) (fun _ _ _ h => h) (Or.inl ⟨by rfl, ?_⟩) HS0.out ?_; rotate_left 1
                          · intro w hS; obtain ⟨s0, s1, s2, s3, s4⟩ := hS; go_simp; with_reducible rfl
                          simp only [Act.put, List.getElem_toArray, List.getElem_cons_zero, List.getElem_cons_succ, List.setIfInBounds_toArray, List.set_cons_zero, List.set_cons_succ]
                          refine anyT_takeY (i := 4) (v := ?_) rfl (by decide +kernel) (by decide +kernel) (by decide +kernel) (by decide +kernel) (fun _ _ _ h => h) (Or.inl ⟨by rfl, ?_⟩) HS0.out ?_; rotate_left 1
                          · intro w _; go_simp; with_reducible rfl
                          simp only [Act.put, List.getElem_toArray, List.getElem_cons_zero, List.getElem_cons_succ, List.setIfInBounds_toArray, List.set_cons_zero, List.set_cons_succ]
                          refine anyT_takeY (i := 5) (v := ?_) rfl (by decide +kernel) (by decide +kernel) (by decide +kernel) (by decide +kernel) (fun _ _ _ h => h) (Or.inl ⟨by rfl, ?_⟩) HS0.out ?_; rotate_left 1
                          · intro w _; go_simp; with_reducible rfl
                          simp only [Act.put, List.getElem_toArray, List.getElem_cons_zero, List.getElem_cons_succ, List.setIfInBounds_toArray, List.set_cons_zero, List.set_cons_succ]
                          refine anyT_takeY (i := 6) (v := ?_) rfl (by decide +kernel) (by decide +kernel) (by decide +kernel) (by decide +kernel) (fun _ _ _ h => h) (Or.inl ⟨by rfl, ?_⟩) HS0.out ?_; rotate_left 1
                          · intro w _; go_simp; with_reducible rfl
                          simp only [Act.put, List.getElem_toArray, List.getElem_cons_zero, List.getElem_cons_succ, List.setIfInBounds_toArray, List.set_cons_zero, List.set_cons_succ]
                          refine anyT_takeY (i := 7) (v := ?_) rfl (by decide +kernel) (by decide +kernel) (by decide +kernel) (by decide +kernel) (fun _ _ _ h => h) (Or.inl ⟨by rfl, ?_⟩) HS0.out ?_; rotate_left 1
                          · intro w _; go_simp; with_reducible rfl
                          simp only [Act.put, List.getElem_toArray, List.getElem_cons_zero, List.getElem_cons_succ, List.setIfInBounds_toArray, List.set_cons_zero, List.set_cons_succ]
                          refine anyT_takeL [10, 11, 23, 25] (i := 8) (v := ?_) rfl (by decide +kernel) (by decide +kernel) (by decide +kernel) (by decide +kernel) (by decide +kernel) (by decide +kernel) (fun _ _ _ h => h) (Or.inl ⟨by rfl, ?_⟩) HS0.out ?_; rotate_left 1
                          · intro w hS; obtain ⟨s0, s1, s2, s3, s4⟩ := hS; go_simp; with_reducible rfl
                          simp only [Act.put, List.getElem_toArray, List.getElem_cons_zero, List.getElem_cons_succ, List.setIfInBounds_toArray, List.set_cons_zero, List.set_cons_succ]
                          refine anyT_takeY (i := 9) (v := ?_) rfl (by decide +kernel) (by decide +kernel) (by decide +kernel) (by decide +kernel) (fun _ _ _ h => h) (Or.inl ⟨by rfl, ?_⟩) HS0.out ?_; rotate_left 1
                          · intro w _; go_simp; with_reducible rfl
                          simp only [Act.put, List.getElem_toArray, List.getElem_cons_zero, List.getElem_cons_succ, List.setIfInBounds_toArray, List.set_cons_zero, List.set_cons_succ]
                          refine anyT_takeY (i := 10) (v := ?_) rfl (by decide +kernel) (by decide +kernel) (by decide +kernel) (by decide +kernel) (fun _ _ _ h => h) (Or.inl ⟨by rfl, ?_⟩) HS0.out ?_; rotate_left 1
                          · intro w _; go_simp; with_reducible rfl
                          simp only [Act.put, List.getElem_toArray, List.getElem_cons_zero, List.getElem_cons_succ, List.setIfInBounds_toArray, List.set_cons_zero, List.set_cons_succ]
                          refine anyT_takeL [23, 25] (i := 11) (v := ?_) rfl (by decide +kernel) (by decide +kernel) (by decide +kernel) (by decide +kernel) (by decide +kernel) (by decide +kernel) (fun _ _ _ h => h) (Or.inl ⟨by rfl, ?_⟩) HS0.out ?_; rotate_left 1
                          · intro w hS; obtain ⟨s0, s1, s2, s3, s4⟩ := hS; go_simp; with_reducible rfl
                          simp only [Act.put, List.getElem_toArray, List.getElem_cons_zero, List.getElem_cons_succ, List.setIfInBounds_toArray, List.set_cons_zero, List.set_cons_succ]
                          refine anyT_takeY (i := 12) (v := ?_) rfl (by decide +kernel) (by decide +kernel) (by decide +kernel) (by decide +kernel) (fun _ _ _ h => h) (Or.inl ⟨by rfl, ?_⟩) HS0.out ?_; rotate_left 1
                          · intro w _; go_simp; with_reducible rfl
                          simp only [Act.put, List.getElem_toArray, List.getElem_cons_zero, List.getElem_cons_succ, List.setIfInBounds_toArray, List.set_cons_zero, List.set_cons_succ]
                          refine anyT_takeY (i := 13) (v := ?_) rfl (by decide +kernel) (by decide +kernel) (by decide +kernel) (by decide +kernel) (fun _ _ _ h => h) (Or.inl ⟨by rfl, ?_⟩) HS0.out ?_; rotate_left 1
                          · intro w _; go_simp; with_reducible rfl
                          simp only [Act.put, List.getElem_toArray, List.getElem_cons_zero, List.getElem_cons_succ, List.setIfInBounds_toArray, List.set_cons_zero, List.set_cons_succ]
                          refine anyT_takeY (i := 14) (v := ?_) rfl (by decide +kernel) (by decide +kernel) (by decide +kernel) (by decide +kernel) (fun _ _ _ h => h) (Or.inl ⟨by rfl, ?_⟩) HS0.out ?_; rotate_left 1
                          · intro w _; go_simp; with_reducible rfl
                          simp only [Act.put, List.getElem_toArray, List.getElem_cons_zero, List.getElem_cons_succ, List.setIfInBounds_toArray, List.set_cons_zero, List.set_cons_succ]
                          refine anyT_takeL [17, 18, 20, 21, 22, 23, 25] (i := 15) (v := ?_) rfl (by decide +kernel) (by decide +kernel) (by decide +kernel) (by decide +kernel) (by decide +kernel) (by decide +kernel) (fun _ _ _ h => h) (Or.inl ⟨by rfl, ?_⟩) HS0.out ?_; rotate_left 1
                          · intro w hS; obtain ⟨s0, s1, s2, s3, s4⟩ := hS; go_simp; with_reducible rfl
                          simp only [Act.put, List.getElem_toArray, List.getElem_cons_zero, List.getElem_cons_succ, List.setIfInBounds_toArray, List.set_cons_zero, List.set_cons_succ]
                          refine anyT_takeY (i := 16) (v := ?_) rfl (by decide +kernel) (by decide +kernel) (by decide +kernel) (by decide +kernel) (fun _ _ _ h => h) (Or.inl ⟨by rfl, ?_⟩) HS0.out ?_; rotate_left 1
                          · intro w _; go_simp; with_reducible rfl
                          simp only [Act.put, List.getElem_toArray, List.getElem_cons_zero, List.getElem_cons_succ, List.setIfInBounds_toArray, List.set_cons_zero, List.set_cons_succ]
                          refine anyT_takeY (i := 17) (v := ?_) rfl (by decide +kernel) (by decide +kernel) (by decide +kernel) (by decide +kernel) (fun _ _ _ h => h) (Or.inl ⟨by rfl, ?_⟩) HS0.out ?_; rotate_left 1
                          · intro w _; go_simp; with_reducible rfl
                          simp only [Act.put, List.getElem_toArray, List.getElem_cons_zero, List.getElem_cons_succ, List.setIfInBounds_toArray, List.set_cons_zero, List.set_cons_succ]
                          refine anyT_takeL [20, 21, 22, 23, 25] (i := 18) (v := ?_) rfl (by decide +kernel) (by decide +kernel) (by decide +kernel) (by decide +kernel) (by decide +kernel) (by decide +kernel) (fun _ _ _ h => h) (Or.inl ⟨by rfl, ?_⟩) HS0.out ?_; rotate_left 1
                          · intro w hS; obtain ⟨s0, s1, s2, s3, s4⟩ := hS; go_simp; with_reducible rfl
                          simp only [Act.put, List.getElem_toArray, List.getElem_cons_zero, List.getElem_cons_succ, List.setIfInBounds_toArray, List.set_cons_zero, List.set_cons_succ]
                          refine anyT_takeY (i := 19) (v := ?_) rfl (by decide +kernel) (by decide +kernel) (by decide +kernel) (by decide +kernel) (fun _ _ _ h => h) (Or.inl ⟨by rfl, ?_⟩) HS0.out ?_; rotate_left 1
                          · intro w _; go_simp; with_reducible rfl
                          simp only [Act.put, List.getElem_toArray, List.getElem_cons_zero, List.getElem_cons_succ, List.setIfInBounds_toArray, List.set_cons_zero, List.set_cons_succ]
                          refine anyT_takeY (i := 20) (v := ?_) rfl (by decide +kernel) (by decide +kernel) (by decide +kernel) (by decide +kernel) (fun _ _ _ h => h) (Or.inl ⟨by rfl, ?_⟩) HS0.out ?_; rotate_left 1
                          · intro w _; go_simp; with_reducible rfl
                          simp only [Act.put, List.getElem_toArray, List.getElem_cons_zero, List.getElem_cons_succ, List.setIfInBounds_toArray, List.set_cons_zero, List.set_cons_succ]
                          refine anyT_takeL [22, 23, 25] (i := 21) (v := ?_) rfl (by decide +kernel) (by decide +kernel) (by decide +kernel) (by decide +kernel) (by decide +kernel) (by decide +kernel) (fun _ _ _ h => h) (Or.inl ⟨by rfl, ?_⟩) HS0.out ?_; rotate_left 1
                          · intro w hS; obtain ⟨s0, s1, s2, s3, s4⟩ := hS; go_simp; with_reducible rfl
                          simp only [Act.put, List.getElem_toArray, List.getElem_cons_zero, List.getElem_cons_succ, List.setIfInBounds_toArray, List.set_cons_zero, List.set_cons_succ]
                          refine anyT_one (i := 22) (by decide +kernel) rfl (fun KK hK => ?_)
                          go_simp
                          refine hK.out _ _ (fun _ => ⟨(HBA.out.cell (p := ⟨nb, c, none⟩) lg0).trans HS0.out.1, (HBA.out.cell (p := ⟨gd, st, none⟩) lg1).trans HS0.out.2.1, (HBA.out.cell (p := ⟨bb, 6, none⟩) lbb).trans HS0.out.2.2.1, (HBA.out.cell (p := ⟨ab, ao + c, none⟩) lab).trans HS0.out.2.2.2.1, (HBA.out.cell (p := ⟨rb, ro + st, none⟩) lrb).trans HS0.out.2.2.2.2⟩) ?_
                          clear hK KK
                          try simp only [Act.put, List.getElem_toArray, List.getElem_cons_zero, List.getElem_cons_succ, List.setIfInBounds_toArray, List.set_cons_zero, List.set_cons_succ]
                          refine anyT_one (i := 23) (by decide +kernel) rfl (fun KK hK => ?_)
                          refine step_app _ rfl (.tmp 157) (.tmp 168) 49 rfl EIu rfl HOL8.out rfl (l := 1) rfl (Rd.one _ (.int .i64 z0) _) (fun _ _ => rfl) (by unfold maxLen; omega) (by omega) (by simp; omega) (ML + 1) (ML + 1) rfl rfl ?_
                          intro A4 c4 w8 hown hg4 hat4 hb4
                          have HI8b := (HI8.out.turn (show c * S + st < K * S + 3 by omega) (by rw [← HAL.out.1, ← HAL.out.2.1, ← HAL.out.2.2]; exact hg4))
                          have e0 : w8.cell? ⟨nb, c, none⟩ = some (.slice (some ⟨gd, 0, none⟩) S S) := by rw [HI8b.2.hd.cell hcK, HGD.out]
                          have e1 : w8.cell? ⟨gd, st, none⟩ = some (.slice AL ML CL) := by rw [HGD.out, (HI8b.2.row c hcK).cell hstS, ← HAL.out.1, ← HAL.out.2.1, ← HAL.out.2.2]
                          have e2 := HI8b.1.bs.cell (j := 6) (by omega) (by omega)
                          change _ = some (Value.slice (some ⟨ab, ao, none⟩) K ac) at e2
                          obtain ⟨_, _, e9, _, e3⟩ := (HI8b.1.own HU.out.bs HU.out.at_ rowI_G rowI_B).rd.at_ hcK
                          injection e9 with e9; injection e9 with e9 e10; subst e9 e10
                          rw [HRA.out, ← HRC.out] at e3
                          obtain ⟨_, _, e9, _, e4⟩ := (HI8b.1.own HU.out.bs HRWc.out intG intB).rd.at_ (show st < st + 1 by omega)
                          rw [HRA.out] at e9
                          injection e9 with e9; injection e9 with e9 e10; subst e9 e10
                          have fz := (HI8b.2.row c hcK).frozen st
                          rw [← HGD.out] at fz
                          have lg8 : gd < w8.heap.size := by rw [HGD.out]; exact (HI8b.2.row c hcK).lt
                          have HI9 : Hid (IV W (w8.setCell ⟨gd, st, none⟩ (.slice A4 (ML + 1) c4)) bb w.heap.size n n2 K S nb (20 * c + 8) (5 * c + 5) F F2 (rrU st tc K sc ac T (some ⟨sb, so, none⟩) (some ⟨ab, ao, none⟩)) (up A (c * S + st) A4) (up cc (c * S + st) c4) (up M (c * S + st) (M (c * S + st) + 1)) (up L (c * S + st) (snoc (L (c * S + st)) (M (c * S + st)) z0)) tch tqh (prD Hh Ss fb (c + 1) 0 0)) := Lib.hid (by
                            have := HI8.out.push (pr' := prD Hh Ss fb (c + 1) 0 0) (c := c) (q := st) (c2 := c4) (A2 := A4) (x := z0) hcK hstS ⟨hzv.1, by omega⟩ (fun g => by rw [HZV.out g]; have := HTG.out.hs g; unfold prD; omega) (fun g h => by have h2 := (HZV.out g).1 h; have h3 := HTG.out.stop g h2.2; omega) (by rw [← HAL.out.2.1]; exact hown) (by rw [← HAL.out.1, ← HAL.out.2.1, ← HAL.out.2.2]; exact hg4) (by rw [← HAL.out.1, ← HAL.out.2.1, ← HAL.out.2.2]; exact hat4)
                            rw [← HAL.out.2.1, ← HGD.out] at this
                            rw [← HAL.out.2.1]
                            exact this)
                          have HSE0 : Hid (w8.cell? ⟨nb, c, none⟩ = some (.slice (some ⟨gd, 0, none⟩) S S) ∧ w8.cell? ⟨gd, st, none⟩ = some (.slice AL ML CL) ∧ w8.cell? ⟨bb, 6, none⟩ = some (.slice (some ⟨ab, ao, none⟩) K ac) ∧ w8.cell? ⟨ab, ao + c, none⟩ = some (.slice (some ⟨rb, ro, none⟩) (st + 1) rc) ∧ w8.cell? ⟨rb, ro + st, none⟩ = some (.int .i64 z0)) := Lib.hid ⟨e0, e1, e2, e3, by rw [e4]; exact congrArg (fun z => some (Value.int .i64 z)) HZ0.out.symm⟩
                          clear hown hg4 hat4 hb4 e0 e2 e3 e4 HI8b
                          refine hK.out _ _ (fun _ => HSE0.out) ?_
                          clear hK KK
                          try simp only [Act.put, List.getElem_toArray, List.getElem_cons_zero, List.getElem_cons_succ, List.setIfInBounds_toArray, List.set_cons_zero, List.set_cons_succ]
                          refine anyT_takeY (i := 24) (v := ?_) rfl (by decide +kernel) (by decide +kernel) (by decide +kernel) (by decide +kernel) (fun _ _ _ h => h) (Or.inl ⟨by rfl, ?_⟩) HSE0.out ?_; rotate_left 1
                          · intro w _; go_simp; with_reducible rfl
                          simp only [Act.put, List.getElem_toArray, List.getElem_cons_zero, List.getElem_cons_succ, List.setIfInBounds_toArray, List.set_cons_zero, List.set_cons_succ]
                          refine anyT_one (i := 25) (by decide +kernel) rfl (fun KK hK => ?_)
                          go_simp
                          refine hK.out _ _ (fun h => absurd h (by decide +kernel)) ?_
                          clear hK KK
                          try simp only [Act.put, List.getElem_toArray, List.getElem_cons_zero, List.getElem_cons_succ, List.setIfInBounds_toArray, List.set_cons_zero, List.set_cons_succ]
                          refine T_of_any _ _ _ _ (by decide +kernel) ?_
                          refine wpAny_done (by decide +kernel) ?_ _
                          obtain ⟨w9, hw9⟩ : ∃ w9, w9 = w8.setCell ⟨gd, st, none⟩ (.slice A4 (ML + 1) c4) := ⟨_, rfl⟩
                          rw [← hw9] at HI9
                          rw [← hw9]
                          clear hw9 fz lg8 e1 HSE0
                          have HP9 : ∃ (A' : Nat → Option Addr) (cc' M' : Nat → Nat) (L' : Nat → Nat → Int), Hid (A' (K * S + 1) = A9 ∧ M' (K * S + 1) = m9 ∧ cc' (K * S + 1) = c9) ∧ Hid (A' (K * S + 2) = A10 ∧ M' (K * S + 2) = q ∧ cc' (K * S + 2) = c10) ∧ Hid (A' (K * S) = A6 ∧ M' (K * S) = c ∧ cc' (K * S) = c6) ∧ Hid (IV W w9 bb w.heap.size n n2 K S nb (20 * c + 8) (5 * c + 5) F F2 (rrU st tc K sc ac T (some ⟨sb, so, none⟩) (some ⟨ab, ao, none⟩)) A' cc' M' L' tch tqh (prD Hh Ss fb (c + 1) 0 0)) ∧ Hid (∀ g c', c' < c → (vx F2 g (L' (K * S) c') = true ↔ Fb' g c')) ∧ Hid (SemL F2 M' L' (K * S + 1) (fun g => Hh g = c ∧ Ss g < st ∧ TR R (Ss g) (3 * fb g) = 1)) ∧ Hid (SemL F2 M' L' (K * S + 2) (fun g => Hh g = c ∧ Ss g < st)) :=
                            ⟨_, _, _, _, Lib.hid ⟨by rw [up_other _ _ (by omega)]; exact HL9.out.1, by rw [up_other _ _ (by omega)]; exact HL9.out.2.1, by rw [up_other _ _ (by omega)]; exact HL9.out.2.2⟩, Lib.hid ⟨by rw [up_other _ _ (by omega)]; exact HL10.out.1, by rw [up_other _ _ (by omega)]; exact HL10.out.2.1, by rw [up_other _ _ (by omega)]; exact HL10.out.2.2⟩, Lib.hid ⟨by rw [up_other _ _ (by omega)]; exact HL6.out.1, by rw [up_other _ _ (by omega)]; exact HL6.out.2.1, by rw [up_other _ _ (by omega)]; exact HL6.out.2.2⟩, HI9, Lib.hid (by rw [up_other _ _ (by omega)]; exact HSG.out), Lib.hid (HONq.out.other (by omega)), Lib.hid (HHEq.out.other (by omega))⟩
                          clear HI9 HIq HSG HONq HHEq HL9 HL10 HL6 HS0 HI8 HOL8 HBA HAL lg0 lg1 lab lrb
                          obtain ⟨A', cc', M', L', HL9, HL10, HL6, HI, HSG, HON, HHE⟩ := HP9
                          go_wp2_with fail
                          have HOH : Hid (Own w9 nb 3 1 A10 q c10 q (fun j => .int .i64 (L' (K * S + 2) j))) := Lib.hid (by
                            have := HI.out.fam.own (K * S + 2) (by omega)
                            rw [HL10.out.1, HL10.out.2.1, HL10.out.2.2] at this; exact this)
                          have hsz9 := HI.out.size
                          refine (some_any HI.out.bt.bs (by omega) (by omega) A10 q c10 nb (L' (K * S + 2)) HOH.out (by omega) (fun j hj => HI.out.ok (K * S + 2) (by omega) j (by rw [HL10.out.2.1]; exact hj))).mono ?_
                          rintro e w10 ⟨y1, n10, F10, rfl, hbt1, hy1, hv1⟩
                          have HI10 := Lib.hid (HI.out.call hbt1)
                          have HY1 : Hid (∀ g, vx F10 g y1 = true ↔ Hh g = c ∧ Ss g < st) := Lib.hid fun g => by
                            have := HHE.out g
                            rw [HL10.out.2.1] at this
                            rw [hv1 g]; exact this
                          have HON10 := Lib.hid (HON.out.ext HI.out.ok (by omega) hbt1.ext)
                          have HSG10 : Hid (∀ g c', c' < c → (vx F10 g (L' (K * S) c') = true ↔ Fb' g c')) := Lib.hid fun g c' hc' => by
                            rw [hbt1.vx g (HI.out.ok (K * S) (by omega) c' (by rw [HL6.out.2.1]; exact hc')).2]; exact HSG.out g c' hc'
                          have hsz10 := HI10.out.size
                          clear hbt1 hv1 HI HON HSG HHE HOH HL10
                          go_wp2_with fail
                          refine (keep_any HI10.out.bt.bs (by omega) (by omega) s y1 ⟨hsv.1, by omega⟩ hy1).mono ?_
                          rintro e w11 ⟨y2, n11, F11, rfl, hbt2, hy2, hv2⟩
                          have HI11 := Lib.hid (HI10.out.call hbt2)
                          have HY2 : Hid (∀ g, vx F11 g y2 = true ↔ Fb g c ∧ ¬ (Hh g = c ∧ Ss g < st)) := Lib.hid fun g => by
                            rw [hv2 g]
                            show (vx F10 g s && !(vx F10 g y1)) = true ↔ _
                            rw [Bool.and_eq_true, Bool.not_eq_true', ← Bool.not_eq_true, HY1.out g, HI10.out.bt.vx g hsv.2, HSS.out, (HS.out g c hcK).1]
                          have HON11 := Lib.hid (HON10.out.ext HI10.out.ok (by omega) hbt2.ext)
                          have HSG11 : Hid (∀ g c', c' < c → (vx F11 g (L' (K * S) c') = true ↔ Fb' g c')) := Lib.hid fun g c' hc' => by
                            rw [hbt2.vx g (HI10.out.ok (K * S) (by omega) c' (by rw [HL6.out.2.1]; exact hc')).2]; exact HSG10.out g c' hc'
                          have hsz11 := HI11.out.size
                          have HO9 : Hid (Own w11 nb 3 1 A9 m9 c9 m9 (fun j => .int .i64 (L' (K * S + 1) j))) := Lib.hid (by
                            have := HI11.out.fam.own (K * S + 1) (by omega)
                            rw [HL9.out.1, HL9.out.2.1, HL9.out.2.2] at this; exact this)
                          have hb11 : nb ≤ (w11.alloc (.cells #[.int .i64 y2] 3)).heap.size := by simp; omega
                          clear hbt2 hv2 HI10 HON10 HSG10 HY1
                          go_wp2_with (at_builtin; refine wpList_app _ rfl (.tmp 173) (.tmp 180) 49 rfl EIu rfl (HO9.out.alloc _) rfl (l := 1) (by omega) (Rd.one w11 (.int .i64 y2) _) (fun _ _ => rfl) (by unfold maxLen; omega) (by omega) hb11 (m9 + 1) (m9 + 1) rfl rfl ?_; intro A3 c3 w12 hown2 hg2 hat2 hbl2; have HI12 := Lib.hid ((HI11.out.below ((Below.refl w11.heap.size w11).alloc (Nat.le_refl _) (.cells #[.int .i64 y2] 3))).app (i := K * S + 1) (A2 := A3) (c2 := c3) (x := y2) (by omega) (by omega) hy2 (by rw [HL9.out.2.1]; exact hown2) (by rw [HL9.out.1, HL9.out.2.1, HL9.out.2.2]; exact hg2) (by rw [HL9.out.1, HL9.out.2.1, HL9.out.2.2]; exact hat2)); clear hown2 hg2 hat2 hbl2)
                          have HP12 : ∃ (A' : Nat → Option Addr) (cc' M' : Nat → Nat) (L' : Nat → Nat → Int), Hid (A' (K * S + 1) = A3 ∧ M' (K * S + 1) = m9 + 1 ∧ cc' (K * S + 1) = c3) ∧ Hid (A' (K * S) = A6 ∧ M' (K * S) = c ∧ cc' (K * S) = c6) ∧ Hid (IV W w12 bb w.heap.size n n11 K S nb (20 * c + 12) (5 * c + 5) F F11 (rrU st tc K sc ac T (some ⟨sb, so, none⟩) (some ⟨ab, ao, none⟩)) A' cc' M' L' tch tqh (prD Hh Ss fb (c + 1) 0 0)) ∧ Hid (∀ g c', c' < c → (vx F11 g (L' (K * S) c') = true ↔ Fb' g c')) ∧ Hid (SemL F11 M' L' (K * S + 1) (fun g => Fb' g c)) := by
                            refine ⟨_, _, _, _, Lib.hid ⟨by rw [up_same], by rw [up_same, HL9.out.2.1], by rw [up_same]⟩, Lib.hid ⟨by rw [up_other _ _ (by omega)]; exact HL6.out.1, by rw [up_other _ _ (by omega)]; exact HL6.out.2.1, by rw [up_other _ _ (by omega)]; exact HL6.out.2.2⟩, Lib.hid (HI12.out.more (by omega) (Nat.le_refl _)), Lib.hid (by rw [up_other _ _ (by omega)]; exact HSG11.out), Lib.hid (HON11.out.push fun g => ?_)⟩
                            rw [HY2.out g, HF'.out g c hcK]
                            constructor
                            · rintro (h1 | ⟨h1, h2⟩)
                              · exact .inl h1
                              · exact .inr ⟨h2, h1⟩
                            · rintro (h1 | ⟨h1, h2⟩)
                              · exact .inl h1
                              · exact .inr ⟨h2, h1⟩
                          clear HI12 HI11 HON11 HSG11 HY2 HL9 HL6 HO9 hb11
                          obtain ⟨A12, cc12, M12, L12, HL9, HL6, HI12, HSG12, HON12⟩ := HP12
                          have HO3 : Hid (Own w12 nb 3 1 A3 (m9 + 1) c3 (m9 + 1) (fun j => .int .i64 (L12 (K * S + 1) j))) := Lib.hid (by
                            have := HI12.out.fam.own (K * S + 1) (by omega)
                            rw [HL9.out.1, HL9.out.2.1, HL9.out.2.2] at this; exact this)
                          have hsz12 := HI12.out.size
                          refine (some_any HI12.out.bt.bs (by omega) (by omega) A3 (m9 + 1) c3 nb (L12 (K * S + 1)) HO3.out (by omega) (fun j hj => HI12.out.ok (K * S + 1) (by omega) j (by rw [HL9.out.2.1]; exact hj))).mono ?_
                          rintro e w13 ⟨y3, n13, F13, rfl, hbt3, hy3, hv3⟩
                          have HI13 := Lib.hid (HI12.out.call hbt3)
                          have HY3 : Hid (∀ g, vx F13 g y3 = true ↔ Fb' g c) := Lib.hid fun g => by
                            have := HON12.out g
                            rw [HL9.out.2.1] at this
                            rw [hv3 g]; exact this
                          have HSG13 : Hid (∀ g c', c' < c → (vx F13 g (L12 (K * S) c') = true ↔ Fb' g c')) := Lib.hid fun g c' hc' => by
                            rw [hbt3.vx g (HI12.out.ok (K * S) (by omega) c' (by rw [HL6.out.2.1]; exact hc')).2]; exact HSG12.out g c' hc'
                          have hsz13 := HI13.out.size
                          have HO6 : Hid (Own w13 nb 3 1 A6 c c6 c (fun j => .int .i64 (L12 (K * S) j))) := Lib.hid (by
                            have := HI13.out.fam.own (K * S) (by omega)
                            rw [HL6.out.1, HL6.out.2.1, HL6.out.2.2] at this; exact this)
                          have hb13 : nb ≤ (w13.alloc (.cells #[.int .i64 y3] 3)).heap.size := by simp; omega
                          clear hbt3 hv3 HI12 HSG12 HON12 HO3
                          go_wp2_with (at_builtin; refine wpList_app _ rfl (.tmp 171) (.tmp 183) 49 rfl EIu rfl (HO6.out.alloc _) rfl (l := 1) (by omega) (Rd.one w13 (.int .i64 y3) _) (fun _ _ => rfl) (by unfold maxLen; omega) (by omega) hb13 (c + 1) (c + 1) rfl rfl ?_; intro A5 c5 w14 hown2 hg2 hat2 hbl2; have HI14 := Lib.hid ((HI13.out.below ((Below.refl w13.heap.size w13).alloc (Nat.le_refl _) (.cells #[.int .i64 y3] 3))).app (i := K * S) (A2 := A5) (c2 := c5) (x := y3) (by omega) (Nat.le_refl _) hy3 (by rw [HL6.out.2.1]; exact hown2) (by rw [HL6.out.1, HL6.out.2.1, HL6.out.2.2]; exact hg2) (by rw [HL6.out.1, HL6.out.2.1, HL6.out.2.2]; exact hat2)); clear hown2 hg2 hat2 hbl2)
                          go_roundw
                          case rel => exact ⟨c + 1, n13, F13, _, _, _, _, A5, c5, by omega, by go_num, rfl, Lib.hid ⟨by rw [up_same], by rw [up_same, HL6.out.2.1], by rw [up_same]⟩, Lib.hid (HI14.out.more (by omega) (by omega)), Lib.hid fun g c' hc' => by
                            rw [up_same]
                            unfold snoc
                            rw [HL6.out.2.1]
                            by_cases e : c' < c
                            · rw [if_pos e]; exact HSG13.out g c' e
                            · obtain rfl : c' = c := by omega
                              rw [if_neg e]; exact HY3.out g⟩
                          case measure => simp [intOf]; omega
              · as_aux_lemma =>
                  have hcI : ¬ (c : Int) < (K : Int) := by omega
                  have hce : c = K := by omega
                  have HIK : Hid (IV W wp bb w.heap.size n n1 K S nb (20 * K) (5 * K) F F1 (rrU st tc K sc ac T (some ⟨sb, so, none⟩) (some ⟨ab, ao, none⟩)) A cc M L tch tqh (prD Hh Ss fb K 0 0)) := Lib.hid (by have h := HI.out; rw [hce] at h; exact h)
                  have HSGK : Hid (∀ g c', c' < K → (vx F1 g (L (K * S) c') = true ↔ Fb' g c')) := Lib.hid fun g c' h => HSG.out g c' (by omega)
                  have HSO : Hid (Own wp nb 3 1 A6 c c6 c (fun j => .int .i64 (L (K * S) j))) := Lib.hid (by
                    have := HI.out.fam.own (K * S) (by omega)
                    rw [HL6.out.1, HL6.out.2.1, HL6.out.2.2] at this; exact this)
                  have HSVK : Hid (∀ c', c' < K → -1 ≤ L (K * S) c' ∧ L (K * S) c' < n1) := Lib.hid fun c' h => HI.out.ok (K * S) (by omega) c' (by rw [HL6.out.2.1]; omega)
                  have hszK := HIK.out.size
                  have hmk := make50 K (by omega)
                  obtain ⟨ab2, hab2⟩ : ∃ b, b = wp.heap.size := ⟨_, rfl⟩
                  obtain ⟨w5, hw5⟩ : ∃ W', W' = wp.alloc (.cells (madeCells #[.slice none 0 0] K) 49) := ⟨_, rfl⟩
                  have hrm := World.rowIs_made wp (.slice none 0 0) K 49
                  rw [← hw5, ← hab2] at hrm
                  have hb5 : Below wp.heap.size wp w5 := by rw [hw5]; exact (Below.refl _ _).alloc (Nat.le_refl _) _
                  have hsz5 : w5.heap.size = ab2 + 1 := by rw [hw5, hab2]; simp
                  have HB5 : Hid (BT wp w5 bb w.heap.size n1 n1 K (75 * 0) F1 F1 (rrU st tc K sc ac T (some ⟨sb, so, none⟩) (some ⟨ab, ao, none⟩))) := Lib.hid ((BT.refl HIK.out.bt.bs).below hb5 (by omega))
                  have HR5 : Hid (w5.rowIs ab2 49 K (fun c' => .slice none 0 0)) := Lib.hid hrm
                  have HW5 := Lib.hid hw5
                  have HAB := Lib.hid hab2
                  have hnab : nb ≤ ab2 := by rw [hab2]; exact hszK.1
                  have HSEM1 : Hid (∀ g c' q', c' < K → q' < S → (orV F1 g (L (c' * S + q')) (M (c' * S + q')) = true ↔ c' = tch g ∧ q' = tqh g)) := Lib.hid fun g c' q' h1 h2 => by
                    rw [HIK.out.sem g c' q' h1 h2]
                    have := HTG.out.hK g
                    unfold prD
                    constructor
                    · rintro ⟨_, h⟩; exact h
                    · intro h; exact ⟨.inl this, h⟩
                  clear hrm hw5 hab2 hb5 HI HSG HL6
                  go_wp2_with fail
                  rw [← HAB.out, ← HW5.out]
                  clear hmk
                  go_loopw [190] (fun s190 wr => ∃ (c2 n2 : Nat) (F2 : Nat → Int) (A2 : Nat → Option Addr) (cc2 M2 : Nat → Nat) (L2 : Nat → Nat → Int), c2 ≤ K ∧ s190 = .int .i64 (c2 : Nat) ∧ Hid (BT wp wr bb w.heap.size n1 n2 K (75 * c2) F1 F2 (rrU st tc K sc ac T (some ⟨sb, so, none⟩) (some ⟨ab, ao, none⟩))) ∧ Hid (Fam wr ab2 K A2 cc2 M2 L2) ∧ Hid (wr.rowIs ab2 49 K (fun c' => .slice (A2 c') (M2 c') (cc2 c'))) ∧ Hid (∀ c', c' < K → M2 c' = if c' < c2 then S else 0) ∧ Hid (RefOk n2 K M2 L2) ∧ Hid (∀ g c' q', c' < c2 → q' < S → (vx F2 g (L2 c' q') = true ↔ c' = tch g ∧ q' = tqh g))) (fun s190 _ => K - (intOf s190).toNat)
                  case atStart => exact ⟨0, n1, F1, fun _ => none, fun _ => 0, fun _ => 0, fun _ _ => 0, by omega, rfl, HB5, Lib.hid (Fam.nil _ _ _ _), HR5, Lib.hid fun c' _ => rfl, Lib.hid fun i _ j hj => absurd hj (Nat.not_lt_zero _), Lib.hid fun g c' q' h => absurd h (Nat.not_lt_zero _)⟩
                  case round =>
                    as_aux_lemma =>
                      clear HB5 HR5 hsz5
                      obtain ⟨wa, hwa⟩ : ∃ wa : World, wa = wr := ⟨_, rfl⟩
                      subst hwa
                      obtain ⟨c2, n2, F2, A2, cc2, M2, L2, hc2, rfl, HB, HFA, HRA2, HMM, HOKR, HSM⟩ := hrel
                      by_cases hcK2 : c2 < K
                      · as_aux_lemma =>
                          have hc2I : (c2 : Int) < (K : Int) := by omega
                          go_wp2_with fail
                          go_loopw [195] (fun s195 wr => ∃ (q n2 : Nat) (F2 : Nat → Int) (A2 : Nat → Option Addr) (cc2 M2 : Nat → Nat) (L2 : Nat → Nat → Int), q ≤ S ∧ s195 = .int .i64 (q : Nat) ∧ Hid (BT wp wr bb w.heap.size n1 n2 K (75 * c2 + 25 * q) F1 F2 (rrU st tc K sc ac T (some ⟨sb, so, none⟩) (some ⟨ab, ao, none⟩))) ∧ Hid (Fam wr ab2 K A2 cc2 M2 L2) ∧ Hid (wr.rowIs ab2 49 K (fun c' => .slice (A2 c') (M2 c') (cc2 c'))) ∧ Hid (∀ c', c' < K → M2 c' = if c' < c2 then S else if c' = c2 then q else 0) ∧ Hid (RefOk n2 K M2 L2) ∧ Hid (∀ g c' q', (c' < c2 ∧ q' < S) ∨ (c' = c2 ∧ q' < q) → (vx F2 g (L2 c' q') = true ↔ c' = tch g ∧ q' = tqh g))) (fun s195 _ => S - (intOf s195).toNat)
                          case atStart => exact ⟨0, n2, F2, A2, cc2, M2, L2, by omega, rfl, HB, HFA, HRA2, Lib.hid fun c' h => by rw [HMM.out c' h]; split; rfl; split <;> rfl, HOKR, Lib.hid fun g c' q' h => by
                      rcases h with h | h
                      · exact HSM.out g c' q' h.1 h.2
                      · as_aux_lemma =>
                          exact absurd h.2 (by omega)⟩
                          case round =>
                            as_aux_lemma =>
                              clear HB HFA HRA2 HMM HOKR HSM
                              obtain ⟨wb, hwb⟩ : ∃ wb : World, wb = wr := ⟨_, rfl⟩
                              subst hwb
                              obtain ⟨q, n2, F2, A2, cc2, M2, L2, hq, rfl, HB, HFA, HRA2, HMM, HOKR, HSM⟩ := hrel
                              by_cases hqS : q < S
                              · as_aux_lemma =>
                                  have hqI : (q : Int) < (S : Int) := by omega
                                  go_wp2_with fail
                                  obtain ⟨gd, hgd⟩ : ∃ z, z = nb + 1 + c2 := ⟨_, rfl⟩
                                  obtain ⟨AL, hAL⟩ : ∃ z, z = A2 c2 := ⟨_, rfl⟩
                                  obtain ⟨CL, hCL⟩ : ∃ z, z = cc2 c2 := ⟨_, rfl⟩
                                  obtain ⟨AF, hAF⟩ : ∃ z, z = A (c2 * S + q) := ⟨_, rfl⟩
                                  obtain ⟨MF, hMF⟩ : ∃ z, z = M (c2 * S + q) := ⟨_, rfl⟩
                                  obtain ⟨CF, hCF⟩ : ∃ z, z = cc (c2 * S + q) := ⟨_, rfl⟩
                                  have hMq : M2 c2 = q := by rw [HMM.out c2 hcK2, if_neg (by omega), if_pos rfl]
                                  have hi41 : c2 * S + q < K * S := leaf_lt hcK2 hqS
                                  have HN3b := Lib.hid (HIK.out.n3.bt HIK.out.bt.bs HB.out)
                                  have g0 := HRA2.out.cell hcK2
                                  have g1 := HN3b.out.hd.cell hcK2
                                  have g2 := (HN3b.out.row c2 hcK2).cell hqS
                                  rw [← hgd] at g1 g2
                                  rw [hMq, ← hAL, ← hCL] at g0
                                  rw [← hAF, ← hMF, ← hCF] at g2
                                  have HS0 : Hid (wb.drew.cell? ⟨ab2, c2, none⟩ = some (.slice AL q CL) ∧ wb.drew.cell? ⟨nb, c2, none⟩ = some (.slice (some ⟨gd, 0, none⟩) S S) ∧ wb.drew.cell? ⟨gd, q, none⟩ = some (.slice AF MF CF)) := Lib.hid ⟨g0, g1, g2⟩
                                  have hMF2 : MF ≤ 25 := by rw [hMF]; have := HIK.out.mbd _ hi41; omega
                                  have hn12 := And.intro HB.out.le HB.out.le2
                                  have HLF : Hid (Own wb nb 3 1 AF MF CF MF (fun j => .int .i64 (L (c2 * S + q) j))) := Lib.hid (by rw [hAF, hMF, hCF]; exact HB.out.own HIK.out.bt.bs (HIK.out.fam.own _ (by omega)) intG intB)
                                  have HBd : Hid (BT wp wb.drew bb w.heap.size n1 n2 K (75 * c2 + 25 * q) F1 F2 (rrU st tc K sc ac T (some ⟨sb, so, none⟩) (some ⟨ab, ao, none⟩))) := Lib.hid (HB.out.below (Below.refl wb.heap.size wb).drew (by have := HB.out.bel.size; omega))
                                  have HGD := Lib.hid hgd
                                  have HA1 := Lib.hid (And.intro hAL hCL)
                                  have HA2 := Lib.hid (And.intro hAF (And.intro hMF hCF))
                                  have HMq := Lib.hid hMq
                                  clear hgd hAL hCL hAF hMF hCF g0 g1 g2 hMq
                                  refine wp_region_any (by kernel_rfl) ?_
                                  change wpAny _ _ _ _ _ _ _ (World.drew _)
                                  refine any_of_T (S := fun W' => W'.cell? ⟨ab2, c2, none⟩ = some (.slice AL q CL) ∧ W'.cell? ⟨nb, c2, none⟩ = some (.slice (some ⟨gd, 0, none⟩) S S) ∧ W'.cell? ⟨gd, q, none⟩ = some (.slice AF MF CF)) (c := 18) _ _ _ _ ?_
                                  refine anyT_takeY (i := 0) (v := ?_) rfl (by decide +kernel) (by decide +kernel) (by decide +kernel) (by decide +kernel) (fun _ _ _ h => h) (Or.inl ⟨by rfl, ?_⟩) HS0.out ?_; rotate_left 1
                                  · intro w _; go_simp; with_reducible rfl
                                  simp only [Act.put, List.getElem_toArray, List.getElem_cons_zero, List.getElem_cons_succ, List.setIfInBounds_toArray, List.set_cons_zero, List.set_cons_succ]
                                  refine anyT_takeY (i := 1) (v := ?_) rfl (by decide +kernel) (by decide +kernel) (by decide +kernel) (by decide +kernel) (fun _ _ _ h => h) (Or.inl ⟨by rfl, ?_⟩) HS0.out ?_; rotate_left 1
                                  · intro w _; go_simp; with_reducible rfl
                                  simp only [Act.put, List.getElem_toArray, List.getElem_cons_zero, List.getElem_cons_succ, List.setIfInBounds_toArray, List.set_cons_zero, List.set_cons_succ]
                                  refine anyT_takeY (i := 2) (v := ?_) rfl (by decide +kernel) (by decide +kernel) (by decide +kernel) (by decide +kernel) (fun _ _ _ h => h) (Or.inl ⟨by rfl, ?_⟩) HS0.out ?_; rotate_left 1
                                  · intro w _; go_simp; with_reducible rfl
                                  simp only [Act.put, List.getElem_toArray, List.getElem_cons_zero, List.getElem_cons_succ, List.setIfInBounds_toArray, List.set_cons_zero, List.set_cons_succ]
                                  refine anyT_takeY (i := 3) (v := ?_) rfl (by decide +kernel) (by decide +kernel) (by decide +kernel) (by decide +kernel) (fun _ _ _ h => h) (Or.inl ⟨by rfl, ?_⟩) HS0.out ?_; rotate_left 1
                                  · intro w _; go_simp; with_reducible rfl
                                  simp only [Act.put, List.getElem_toArray, List.getElem_cons_zero, List.getElem_cons_succ, List.setIfInBounds_toArray, List.set_cons_zero, List.set_cons_succ]
                                  refine anyT_takeY (i := 4) (v := ?_) rfl (by decide +kernel) (by decide +kernel) (by decide +kernel) (by decide +kernel) (fun _ _ _ h => h) (Or.inl ⟨by rfl, ?_⟩) HS0.out ?_; rotate_left 1
                                  · intro w _; go_simp; with_reducible rfl
                                  simp only [Act.put, List.getElem_toArray, List.getElem_cons_zero, List.getElem_cons_succ, List.setIfInBounds_toArray, List.set_cons_zero, List.set_cons_succ]
                                  refine anyT_takeL [16, 18] (i := 5) (v := ?_) rfl (by decide +kernel) (by decide +kernel) (by decide +kernel) (by decide +kernel) (by decide +kernel) (by decide +kernel) (fun _ _ _ h => h) (Or.inl ⟨by rfl, ?_⟩) HS0.out ?_; rotate_left 1
                                  · intro w hS; obtain ⟨s0, s1, s2⟩ := hS; go_simp; with_reducible rfl
                                  simp only [Act.put, List.getElem_toArray, List.getElem_cons_zero, List.getElem_cons_succ, List.setIfInBounds_toArray, List.set_cons_zero, List.set_cons_succ]
                                  refine anyT_takeY (i := 6) (v := ?_) rfl (by decide +kernel) (by decide +kernel) (by decide +kernel) (by decide +kernel) (fun _ _ _ h => h) (Or.inl ⟨by rfl, ?_⟩) HS0.out ?_; rotate_left 1
                                  · intro w _; go_simp; with_reducible rfl
                                  simp only [Act.put, List.getElem_toArray, List.getElem_cons_zero, List.getElem_cons_succ, List.setIfInBounds_toArray, List.set_cons_zero, List.set_cons_succ]
                                  refine anyT_takeY (i := 7) (v := ?_) rfl (by decide +kernel) (by decide +kernel) (by decide +kernel) (by decide +kernel) (fun _ _ _ h => h) (Or.inl ⟨by rfl, ?_⟩) HS0.out ?_; rotate_left 1
                                  · intro w _; go_simp; with_reducible rfl
                                  simp only [Act.put, List.getElem_toArray, List.getElem_cons_zero, List.getElem_cons_succ, List.setIfInBounds_toArray, List.set_cons_zero, List.set_cons_succ]
                                  refine anyT_takeY (i := 8) (v := ?_) rfl (by decide +kernel) (by decide +kernel) (by decide +kernel) (by decide +kernel) (fun _ _ _ h => h) (Or.inl ⟨by rfl, ?_⟩) HS0.out ?_; rotate_left 1
                                  · intro w _; go_simp; with_reducible rfl
                                  simp only [Act.put, List.getElem_toArray, List.getElem_cons_zero, List.getElem_cons_succ, List.setIfInBounds_toArray, List.set_cons_zero, List.set_cons_succ]
                                  refine anyT_takeY (i := 9) (v := ?_) rfl (by decide +kernel) (by decide +kernel) (by decide +kernel) (by decide +kernel) (fun _ _ _ h => h) (Or.inl ⟨by rfl, ?_⟩) HS0.out ?_; rotate_left 1
                                  · intro w _; go_simp; with_reducible rfl
                                  simp only [Act.put, List.getElem_toArray, List.getElem_cons_zero, List.getElem_cons_succ, List.setIfInBounds_toArray, List.set_cons_zero, List.set_cons_succ]
                                  refine anyT_takeL [12, 13, 14, 15, 16, 18] (i := 10) (v := ?_) rfl (by decide +kernel) (by decide +kernel) (by decide +kernel) (by decide +kernel) (by decide +kernel) (by decide +kernel) (fun _ _ _ h => h) (Or.inl ⟨by rfl, ?_⟩) HS0.out ?_; rotate_left 1
                                  · intro w hS; obtain ⟨s0, s1, s2⟩ := hS; go_simp; with_reducible rfl
                                  simp only [Act.put, List.getElem_toArray, List.getElem_cons_zero, List.getElem_cons_succ, List.setIfInBounds_toArray, List.set_cons_zero, List.set_cons_succ]
                                  refine anyT_takeY (i := 11) (v := ?_) rfl (by decide +kernel) (by decide +kernel) (by decide +kernel) (by decide +kernel) (fun _ _ _ h => h) (Or.inl ⟨by rfl, ?_⟩) HS0.out ?_; rotate_left 1
                                  · intro w _; go_simp; with_reducible rfl
                                  simp only [Act.put, List.getElem_toArray, List.getElem_cons_zero, List.getElem_cons_succ, List.setIfInBounds_toArray, List.set_cons_zero, List.set_cons_succ]
                                  refine anyT_takeY (i := 12) (v := ?_) rfl (by decide +kernel) (by decide +kernel) (by decide +kernel) (by decide +kernel) (fun _ _ _ h => h) (Or.inl ⟨by rfl, ?_⟩) HS0.out ?_; rotate_left 1
                                  · intro w _; go_simp; with_reducible rfl
                                  simp only [Act.put, List.getElem_toArray, List.getElem_cons_zero, List.getElem_cons_succ, List.setIfInBounds_toArray, List.set_cons_zero, List.set_cons_succ]
                                  refine anyT_takeL [14, 15, 16, 18] (i := 13) (v := ?_) rfl (by decide +kernel) (by decide +kernel) (by decide +kernel) (by decide +kernel) (by decide +kernel) (by decide +kernel) (fun _ _ _ h => h) (Or.inl ⟨by rfl, ?_⟩) HS0.out ?_; rotate_left 1
                                  · intro w hS; obtain ⟨s0, s1, s2⟩ := hS; go_simp; with_reducible rfl
                                  simp only [Act.put, List.getElem_toArray, List.getElem_cons_zero, List.getElem_cons_succ, List.setIfInBounds_toArray, List.set_cons_zero, List.set_cons_succ]
                                  refine anyT_one (i := 14) (by decide +kernel) rfl (fun KK hK => ?_)
                                  go_simp
                                  go_at_call 18
                                  refine (some_any HBd.out.bs (by omega) (by omega) AF MF CF nb (L (c2 * S + q)) HLF.out.drew (by omega) (fun j hj => by have := HIK.out.ok (c2 * S + q) (by omega) j (by rw [← HA2.out.2.1]; exact hj); omega)).mono ?_
                                  rintro e wc ⟨y, n3, F3, rfl, hbt, hyb, hyv⟩
                                  have HBc := Lib.hid (HBd.out.trans hbt)
                                  have HFc := Lib.hid ((HFA.out.below (Below.refl wb.heap.size wb).drew).bt HBd.out.bs hbt)
                                  have HRc := Lib.hid (row_bt (show wb.drew.rowIs ab2 _ K _ from HRA2.out) HBd.out.bs hbt rowI_G rowI_B)
                                  have HN3c := Lib.hid (HIK.out.n3.bt HIK.out.bt.bs HBc.out)
                                  have HYV : Hid (∀ g, vx F3 g y = true ↔ c2 = tch g ∧ q = tqh g) := Lib.hid fun g => by
                                    rw [hyv g]
                                    show orV F2 g (L (c2 * S + q)) MF = true ↔ _
                                    rw [HA2.out.2.1, orV_ext HB.out.ext fun j hj => (HIK.out.ok (c2 * S + q) (by omega) j hj).2]
                                    exact HSEM1.out g c2 q hcK2 hqS
                                  have HEXT : Hid (∀ g i j, i < K → j < M2 i → vx F3 g (L2 i j) = vx F2 g (L2 i j)) := Lib.hid fun g i j hi hj => hbt.vx g (HOKR.out i hi j hj).2
                                  have hn23 := And.intro hbt.le hbt.le2
                                  have HSc : Hid (wc.cell? ⟨ab2, c2, none⟩ = some (.slice AL q CL) ∧ wc.cell? ⟨nb, c2, none⟩ = some (.slice (some ⟨gd, 0, none⟩) S S) ∧ wc.cell? ⟨gd, q, none⟩ = some (.slice AF MF CF)) := Lib.hid ⟨by rw [HRc.out.cell hcK2, HMq.out, ← HA1.out.1, ← HA1.out.2], by rw [HN3c.out.hd.cell hcK2, HGD.out], by rw [HGD.out, (HN3c.out.row c2 hcK2).cell hqS, ← HA2.out.1, ← HA2.out.2.1, ← HA2.out.2.2]⟩
                                  have lca := HRc.out.lt
                                  have lcn := HN3c.out.hd.lt
                                  have lcg : gd < wc.heap.size := by rw [HGD.out]; exact (HN3c.out.row c2 hcK2).lt
                                  have hszc : ab2 ≤ wc.heap.size := by omega
                                  clear hbt hyv HBd HB HFA HRA2 HS0
                                  try go_simp
                                  refine hK.out _ _ (fun _ => HSc.out) ?_
                                  clear hK KK
                                  try simp only [Act.put, List.getElem_toArray, List.getElem_cons_zero, List.getElem_cons_succ, List.setIfInBounds_toArray, List.set_cons_zero, List.set_cons_succ]
                                  refine anyT_one (i := 15) (by decide +kernel) rfl (fun KK hK => ?_)
                                  go_simp
                                  have HBA : Hid (Below wc.heap.size wc (wc.alloc (.cells #[.int .i64 y] 3))) := Lib.hid ((Below.refl wc.heap.size wc).alloc (Nat.le_refl _) _)
                                  refine hK.out _ _ (fun _ => ⟨(HBA.out.cell (p := ⟨ab2, c2, none⟩) lca).trans HSc.out.1, (HBA.out.cell (p := ⟨nb, c2, none⟩) lcn).trans HSc.out.2.1, (HBA.out.cell (p := ⟨gd, q, none⟩) lcg).trans HSc.out.2.2⟩) ?_
                                  clear hK KK
                                  try simp only [Act.put, List.getElem_toArray, List.getElem_cons_zero, List.getElem_cons_succ, List.setIfInBounds_toArray, List.set_cons_zero, List.set_cons_succ]
                                  refine anyT_one (i := 16) (by decide +kernel) rfl (fun KK hK => ?_)
                                  have HFd := Lib.hid (HFc.out.below HBA.out)
                                  have HOd : Hid (Own (wc.alloc (.cells #[.int .i64 y] 3)) ab2 3 1 AL q CL q (fun j => .int .i64 (L2 c2 j))) := Lib.hid (by
                                    have := HFd.out.own c2 hcK2
                                    rw [HMq.out, ← HA1.out.1, ← HA1.out.2] at this; exact this)
                                  refine step_app _ rfl (.tmp 203) (.tmp 213) 49 rfl EIu rfl HOd.out rfl (l := 1) rfl (Rd.one _ (.int .i64 y) _) (fun _ _ => rfl) (by unfold maxLen; omega) (by omega) (by simp; omega) (q + 1) (q + 1) rfl rfl ?_
                                  intro A4 c4 w8 hown hg4 hat4 hb4
                                  have HBg : Hid (BT wp w8 bb w.heap.size n1 n3 K (75 * c2 + 25 * (q + 1)) F1 F3 (rrU st tc K sc ac T (some ⟨sb, so, none⟩) (some ⟨ab, ao, none⟩))) := Lib.hid (((HBc.out.below HBA.out (by omega)).grown hg4 (by rw [← HAB.out]; omega) (fun g hg => by
                                    obtain ⟨cur, hc⟩ := HOd.out.objG g hg
                                    exact ⟨by rw [← HAB.out]; exact (HOd.out.lt g hg).1, cur, _, hc⟩) intG intB).more (by omega))
                                  have HFg := Lib.hid (HFd.out.app (i := c2) (A2 := A4) (c2 := c4) (x := y) hcK2 (by rw [HMq.out]; exact hown) (by rw [HMq.out, ← HA1.out.1, ← HA1.out.2]; exact hg4) (by rw [HMq.out, ← HA1.out.1, ← HA1.out.2]; exact hat4))
                                  have HRg := Lib.hid (row_app (HRc.out.alloc (.cells #[.int .i64 y] 3)) HOd.out hg4 rowI_ne)
                                  have HN3g := Lib.hid ((HN3c.out.below HBA.out).app HOd.out hg4)
                                  have HSE0 : Hid (w8.cell? ⟨ab2, c2, none⟩ = some (.slice AL q CL) ∧ w8.cell? ⟨nb, c2, none⟩ = some (.slice (some ⟨gd, 0, none⟩) S S) ∧ w8.cell? ⟨gd, q, none⟩ = some (.slice AF MF CF)) := Lib.hid ⟨by rw [HRg.out.cell hcK2, HMq.out, ← HA1.out.1, ← HA1.out.2], by rw [HN3g.out.hd.cell hcK2, HGD.out], by rw [HGD.out, (HN3g.out.row c2 hcK2).cell hqS, ← HA2.out.1, ← HA2.out.2.1, ← HA2.out.2.2]⟩
                                  have e1 := HSE0.out.1
                                  have fz := HRg.out.frozen c2
                                  have lg8 := HRg.out.lt
                                  clear hown hg4 hat4 hb4
                                  refine hK.out _ _ (fun _ => HSE0.out) ?_
                                  clear hK KK
                                  try simp only [Act.put, List.getElem_toArray, List.getElem_cons_zero, List.getElem_cons_succ, List.setIfInBounds_toArray, List.set_cons_zero, List.set_cons_succ]
                                  refine anyT_takeY (i := 17) (v := ?_) rfl (by decide +kernel) (by decide +kernel) (by decide +kernel) (by decide +kernel) (fun _ _ _ h => h) (Or.inl ⟨by rfl, ?_⟩) HSE0.out ?_; rotate_left 1
                                  · intro w _; go_simp; with_reducible rfl
                                  simp only [Act.put, List.getElem_toArray, List.getElem_cons_zero, List.getElem_cons_succ, List.setIfInBounds_toArray, List.set_cons_zero, List.set_cons_succ]
                                  refine anyT_one (i := 18) (by decide +kernel) rfl (fun KK hK => ?_)
                                  go_simp
                                  refine hK.out _ _ (fun h => absurd h (by decide +kernel)) ?_
                                  clear hK KK
                                  try simp only [Act.put, List.getElem_toArray, List.getElem_cons_zero, List.getElem_cons_succ, List.setIfInBounds_toArray, List.set_cons_zero, List.set_cons_succ]
                                  refine T_of_any _ _ _ _ (by decide +kernel) ?_
                                  refine wpAny_done (by decide +kernel) ?_ _
                                  have hgs := grown_setG w8 ab2 c2 (.slice A4 (q + 1) c4)
                                  have hcs0 : ∃ cs, w8.heap[ab2]? = some (.cells cs 49 (0, 0)) := by
                                    obtain ⟨cs, h, _⟩ := HRg.out
                                    exact ⟨cs, h⟩
                                  obtain ⟨cs, hcs⟩ := hcs0
                                  have HBh : Hid (BT wp (w8.setCell ⟨ab2, c2, none⟩ (.slice A4 (q + 1) c4)) bb w.heap.size n1 n3 K (75 * c2 + 25 * (q + 1)) F1 F3 (rrU st tc K sc ac T (some ⟨sb, so, none⟩) (some ⟨ab, ao, none⟩))) := Lib.hid (HBg.out.grown hgs (by rw [← HAB.out]; omega) (fun g hg => by
                                    obtain rfl : ab2 = g := Option.some.inj hg
                                    exact ⟨by rw [← HAB.out]; exact Nat.le_refl _, cs, _, hcs⟩) rowI_G rowI_B)
                                  have HFh := Lib.hid (HFg.out.other hgs hcs rowI_ne)
                                  have HRh : Hid ((w8.setCell ⟨ab2, c2, none⟩ (.slice A4 (q + 1) c4)).rowIs ab2 49 K (fun c' => .slice (up A2 c2 A4 c') (up M2 c2 (M2 c2 + 1) c') (up cc2 c2 c4 c'))) := Lib.hid ((HRg.out.set c2 _).congr fun c' hc' => by
                                    by_cases e : c' = c2
                                    · subst e; rw [if_pos rfl, up_same, up_same, up_same, HMq.out]
                                    · rw [if_neg e, up_other _ _ e, up_other _ _ e, up_other _ _ e])
                                  clear e1 fz lg8 hgs hcs
                                  go_wp2_with fail
                                  go_roundw
                                  case rel => exact ⟨q + 1, n3, F3, up A2 c2 A4, up cc2 c2 c4, up M2 c2 (M2 c2 + 1), up L2 c2 (snoc (L2 c2) (M2 c2) y), by omega, by go_num, HBh, HFh, HRh, Lib.hid fun c' hc' => by
                                    by_cases e : c' = c2
                                    · subst e; rw [up_same, HMq.out, if_neg (by omega), if_pos rfl]
                                    · rw [up_other _ _ e, HMM.out c' hc', if_neg e, if_neg e], Lib.hid ((HOKR.out.mono hn23.1).push c2 hyb), Lib.hid fun g c' q' h => by
                                    by_cases e : c' = c2
                                    · subst e
                                      rw [up_same]
                                      unfold snoc
                                      rw [HMq.out]
                                      by_cases e2 : q' < q
                                      · rw [if_pos e2, HEXT.out g c' q' hcK2 (by rw [HMq.out]; exact e2)]
                                        exact HSM.out g c' q' (by omega)
                                      · obtain rfl : q' = q := by omega
                                        rw [if_neg e2]; exact HYV.out g
                                    · rw [up_other _ _ e, HEXT.out g c' q' (by omega) (by rw [HMM.out c' (by omega), if_pos (by omega)]; omega)]
                                      exact HSM.out g c' q' (by omega)⟩
                                  case measure => simp [intOf]; omega
                              · as_aux_lemma =>
                                  have hqI : ¬ (q : Int) < (S : Int) := by omega
                                  have hqe : q = S := by omega
                                  have HBq : Hid (BT wp wb bb w.heap.size n1 n2 K (75 * (c2 + 1)) F1 F2 (rrU st tc K sc ac T (some ⟨sb, so, none⟩) (some ⟨ab, ao, none⟩))) := Lib.hid (HB.out.more (by omega))
                                  have HMq : Hid (∀ c', c' < K → M2 c' = if c' < c2 + 1 then S else 0) := Lib.hid fun c' h => by
                                    rw [HMM.out c' h]
                                    by_cases e : c' < c2
                                    · rw [if_pos e, if_pos (by omega)]
                                    · rw [if_neg e]
                                      by_cases e2 : c' = c2
                                      · rw [if_pos e2, if_pos (by omega), hqe]
                                      · rw [if_neg e2, if_neg (by omega)]
                                  have HSq : Hid (∀ g c' q', c' < c2 + 1 → q' < S → (vx F2 g (L2 c' q') = true ↔ c' = tch g ∧ q' = tqh g)) := Lib.hid fun g c' q' h1 h2 => HSM.out g c' q' (by omega)
                                  clear hqe HB HMM HSM
                                  go_wp2_with fail
                                  go_roundw
                                  case rel => exact ⟨c2 + 1, n2, F2, A2, cc2, M2, L2, by omega, by go_num, HBq, HFA, HRA2, HMq, HOKR, HSq⟩
                                  case measure => simp [intOf]; omega
                      · as_aux_lemma =>
                          have hc2I : ¬ (c2 : Int) < (K : Int) := by omega
                          have hc2e : c2 = K := by omega
                          subst hce
                          obtain ⟨A0, c0, M0, R0, hm0, hR0⟩ := HB.out.bs.mker
                          have f5 := hm0.row.frozen 5
                          have r5 := HB.out.bs.cell (j := 5) (by omega) (by omega)
                          have HBS5 := Lib.hid (HB.out.bs.set (j := 5) (by omega) (by omega) (.slice A6 c c6))
                          have f6 := (hm0.row.set 5 (.slice A6 c c6)).frozen 6
                          have r6 := HBS5.out.cell (j := 6) (by omega) (by omega)
                          have lb5 := HB.out.bs.lt.1
                          have lb6 := HBS5.out.lt.1
                          have HBS6 := Lib.hid (HBS5.out.set (j := 6) (by omega) (by omega) (.slice (some ⟨ab2, 0, none⟩) c c))
                          have HMS : Hid (∀ c', c' < c → M2 c' = st + 1) := Lib.hid fun c' h => by rw [HMM.out c' h, if_pos (by omega), HSE.out]
                          have HUB : Hid (UB w ((wa.setCell ⟨bb, 5, none⟩ (.slice A6 c c6)).setCell ⟨bb, 6, none⟩ (.slice (some ⟨ab2, 0, none⟩) c c)) bb n2 c st tc T F2 A6 (some ⟨ab2, 0, none⟩) c6 c A2 cc2 (L (c * S)) L2) := Lib.hid (by
                            have hbw : w.heap.size ≤ bb := HU.out.bs.lt.2
                            refine ⟨HBS6.out.re fun j h2 h7 => ?_, ?_, ?_, fun c' hc' => ?_, fun c' hc' => ?_, fun c' hc' q hq => ?_, ?_⟩
                            · have hj : j = 2 ∨ j = 3 ∨ j = 4 ∨ j = 5 ∨ j = 6 := by omega
                              rcases hj with rfl | rfl | rfl | rfl | rfl <;> rfl
                            · exact (((HB.out.own HIK.out.bt.bs HSO.out intG intB).base_le hbase).set_bb HB.out.bs intB).set_bb HBS5.out intB
                            · have h1 := Own.ofRow (s := 1) (n := c) (c := c) (base := w.heap.size) (C := fun c' => .slice (A2 c') (st + 1) (cc2 c')) (by rw [Nat.mul_one]; exact HRA2.out) (by omega) (Nat.le_refl _) (by unfold maxLen; omega) (fun i hi => by rw [HMS.out i (by omega)])
                              rw [Nat.mul_one] at h1
                              exact (h1.set_bb HB.out.bs rowI_B).set_bb HBS5.out rowI_B
                            · have h1 := HFA.out.own c' hc'
                              rw [HMS.out c' hc'] at h1
                              exact ((h1.base_le (by omega)).set_bb HB.out.bs intB).set_bb HBS5.out intB
                            · have := HSVK.out c' hc'; have := HB.out.le; omega
                            · exact HOKR.out c' hc' q (by rw [HMS.out c' hc']; omega)
                            · exact (((HU.out.bel.trans HIK.out.bt.bel).trans HB.out.bel).setCell hbw _).setCell hbw _)
                          have HKG : Hid (KeepG bb W ((wa.setCell ⟨bb, 5, none⟩ (.slice A6 c c6)).setCell ⟨bb, 6, none⟩ (.slice (some ⟨ab2, 0, none⟩) c c))) := Lib.hid (((HIK.out.bt.kp.trans HB.out.kp).set_bb).set_bb)
                          have HSU : Hid (SemU F2 c st (L (c * S)) L2 tch tqh Fb') := Lib.hid fun g c' hc' => ⟨by
                            rw [HB.out.vx g (HSVK.out c' hc').2]; exact HSGK.out g c' hc', fun q hq => by
                            rw [HSM.out g c' q (by omega) (by have := HSE.out; omega)]
                            constructor
                            · rintro ⟨h1, h2⟩; exact ⟨h1.symm, h2.symm⟩
                            · rintro ⟨h1, h2⟩; exact ⟨h1.symm, h2.symm⟩⟩
                          have HEX : Hid (∀ q, q < 3 * n → F2 q = F q) := Lib.hid fun q hq => by rw [HB.out.ext q (by have := HIK.out.bt.le; omega), HIK.out.bt.ext q hq]
                          have hn2 := And.intro HB.out.le HB.out.le2
                          clear hm0 hR0 hc2e
                          go_wp2_with fail
                          go_end0
                          exact ⟨n2, F2, A6, some ⟨ab2, 0, none⟩, c6, c, A2, cc2, L (c * S), L2, rfl, HUB.out, by omega, by omega, HEX.out, HKG.out, HSU.out⟩
set_option maxRecDepth 100000 in
theorem stepU_of {w : World} {K st tc : Nat} {T : Option Addr} {R : Nat → SI} (hT : Tm w T st R) (hR2 : ∀ q, q < st → (R q).n = 2) (hG : Gt st 2 (TR R)) (hK : 1 ≤ K ∧ K ≤ 5) (hst : 1 ≤ st ∧ st ≤ 2) : StepU w K st tc T R := fun W bb n F SA AA sc ac RA Rc Sg At t hU hS hn =>
  ustep_any w W bb n K st tc T F SA AA sc ac RA Rc Sg At R _ _ (fbU st R K t) _ _ _ _ hU hT hR2 hG (tgU (by omega) hG t) hS (fbU_iff (by omega) hG t) (fun g c hc => fU_succ (by omega) hG t g c hc) hn hK hst
end Go.Proofs.Ytklhbmlcpjlgiaa
