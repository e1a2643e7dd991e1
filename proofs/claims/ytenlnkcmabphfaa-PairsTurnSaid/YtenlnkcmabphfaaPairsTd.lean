/- What turned makes of a square. Condition: the square is one. -/
import Derived.Test.YtenlnkcmabphfaaPairsCpy
namespace Go.Proofs.Ytenlnkcmabphfaa
open Go.ChangeShapes Go.WideShapes Go.ChangeAt Go.RowKit
set_option linter.unusedVariables false
set_option linter.unusedSimpArgs false
/-- turned round -/
def tdP (r rc : Nat → Nat) (n : Nat) (R : Nat → SI) (q : Nat) : SI := ⟨some ⟨r q, 0, none⟩, n, rc q, fun t => if t < n then (R t).f q else 0⟩
theorem td_ok {n : Nat} {R : Nat → SI} {r rc : Nat → Nat} (h : pwE n R = 0) : pwE n (tdP r rc n R) = 0 := by
  obtain ⟨h1, h2, h3⟩ := pwE_zero h
  refine pwE_ok h1 (fun i hi => rfl) fun i hi q hq => ?_
  show -20 ≤ (if q < n then (R q).f i else 0) ∧ (if q < n then (R q).f i else 0) ≤ 20
  rw [if_pos hq]
  exact h3 q hq i hi
theorem td_sv (e : Int) {n : Nat} {R : Nat → SI} {r rc : Nat → Nat} : svP e n (tdP r rc n R) = svP e n R := by
  unfold svP
  rw [← dt_turn e n (mtW R)]
  exact dt_congr e fun i hi j hj => if_pos hj
theorem td_grp {W : World} {B : Nat} {S : Option Addr} {n sc : Nat} {r rc : Nat → Nat} {F : Nat → Nat → Int} {R : Nat → SI} (h : Mt W B S n sc n r rc F) (hF : ∀ q, q < n → ∀ t, t < n → F q t = (R t).f q) (hv : ∀ i, i < n → ∀ q, q < n → -20 ≤ (R i).f q ∧ (R i).f q ≤ 20) : GrP W S n (tdP r rc n R) :=
  ⟨h.own.rd, fun q hq => ⟨((h.row q hq).congr fun t ht => by rw [hF q hq t ht]; show _ = Value.int .i64 (if t < n then (R t).f q else 0); rw [if_pos ht]).rd, fun t => by
    show (Lit.int .i64 (if t < n then (R t).f q else 0)).wf = true
    by_cases e : t < n
    · rw [if_pos e]
      have := hv t e q hq
      simp [Lit.wf, IntKind.min, IntKind.max, IntKind.signed, IntKind.bits]
      omega
    · rw [if_neg e]; decide, (h.row q hq).le⟩⟩
set_option maxRecDepth 100000 in
set_option maxHeartbeats 8000000 in
theorem turned_any (A : Option Addr) (n c : Nat) (R : Nat → SI) (w : World) (h : GrP w A n R) (h0 : pwE n R = 0) :
    Calls Try.prog 15 #[.slice A n c] w fun e w' => ∃ S sc r rc, e = .returned (.slice S n sc) ∧ GrP w' S n (tdP r rc n R) ∧ Below w.heap.size w w' := by
  have H := Lib.hid h
  obtain ⟨⟨n1, n6⟩, hlen, hval⟩ := pwE_zero h0
  have HLEN := Lib.hid hlen
  have HVAL := Lib.hid hval
  obtain ⟨rB, rO, rfl, hAlt, _⟩ := H.out.1.at_ (show 0 < n by omega)
  clear h h0 hlen hval
  go_enter Try.func15, Try.ntmps15
  go_wp2_with fail
  go_loopw [3, 9] (fun s3 s9 wr => ∃ (i : Nat) (S : Option Addr) (sc : Nat) (r rc : Nat → Nat) (F : Nat → Nat → Int), i ≤ n ∧ s3 = .slice S i sc ∧ s9 = .int .i64 (i : Nat) ∧ Hid (Mt wr w.heap.size S i sc n r rc F) ∧ Hid (Below w.heap.size w wr) ∧ Hid (∀ q, q < i → ∀ t, t < n → F q t = (R t).f q)) (fun _ s9 _ => n - (intOf s9).toNat)
  case atStart => exact ⟨0, none, 0, fun _ => 0, fun _ => 0, fun _ _ => 0, Nat.zero_le _, rfl, rfl, Lib.hid (Mt.nil _ _ _ _ _ _), Lib.hid (Below.refl _ _), Lib.hid fun q hq => absurd hq (Nat.not_lt_zero _)⟩
  case round =>
    obtain ⟨wo, rfl⟩ : ∃ wo : World, wo = wr := ⟨_, rfl⟩
    obtain ⟨i, S, sc, r, rc, F, hi, rfl, rfl, HT, HB, HF⟩ := hrel
    by_cases hin : i < n
    · go_wp2_with fail
      go_loopw [5, 14] (fun s5 s14 wr => ∃ (j : Nat) (P : Option Addr) (pc : Nat), j ≤ n ∧ s5 = .slice P j pc ∧ s14 = .int .i64 (j : Nat) ∧ Hid (Own wr wo.heap.size 3 1 P j pc j (fun t => .int .i64 ((R t).f i))) ∧ Hid (Below wo.heap.size wo wr)) (fun _ s14 _ => n - (intOf s14).toNat)
      case atStart => exact ⟨0, none, 0, Nat.zero_le _, rfl, rfl, Lib.hid (Own.nil _ _ _ _ _), Lib.hid (Below.refl _ _)⟩
      case round =>
        obtain ⟨wi, rfl⟩ : ∃ wi : World, wi = wr := ⟨_, rfl⟩
        obtain ⟨j, P, pc, hj, rfl, rfl, HO, HBI⟩ := hrel
        have hws := HB.out.size
        have hws2 := HBI.out.size
        by_cases hjn : j < n
        · have hG := H.out.below (HB.out.trans (HBI.out.mono hws))
          have hAc : wi.cell? ⟨rB, rO + j, none⟩ = some (.slice (R j).A (R j).n (R j).c) := by
            obtain ⟨b', o', e, _, hc⟩ := hG.1.at_ hjn
            cases e; exact hc
          have hln := HLEN.out j hjn
          obtain ⟨yb, yo, hyA, _, hc2⟩ := (hG.2 j hjn).1.at_ (show i < (R j).n by rw [hln]; exact hin)
          rw [hyA, hln] at hAc
          obtain ⟨x, hx⟩ : ∃ x, x = (R j).f i := ⟨_, rfl⟩
          rw [← hx] at hc2
          have hc3 : wi.cell? ⟨yb, yo + i, none⟩ = some (.int .i64 x) := hc2
          have HX := Lib.hid hx
          clear hG hyA hln hc2 hx
          go_wp2_with (at_builtin; refine wpList_app _ rfl (.tmp 17) (.tmp 25) 24 rfl ENt rfl (HO.out.alloc _) rfl (l := 1) (by omega) (Rd.one _ (.int .i64 x) _) (fun _ _ => rfl) (by unfold maxLen; omega) (by omega) (by simp; omega) (j + 1) (j + 1) rfl rfl ?_; intro A2 ac2 w6 hown2 hg2 hat2 hbl2; have HOW := Lib.hid hown2; have HBL := Lib.hid ((HBI.out.alloc (by omega) _).trans hbl2); clear hown2 hg2 hat2 hbl2)
          go_roundw
          case rel => exact ⟨j + 1, A2, ac2, by omega, rfl, by go_num, Lib.hid (sum_app HOW.out (fun q hq => rfl) (by rw [HX.out])), HBL⟩
          case measure => simp [intOf]; omega
        · obtain rfl : j = n := by omega
          obtain ⟨g, _, rfl, _⟩ := HO.out.row (show 0 < j by omega)
          have hMt2 := HT.out.below HBI.out
          go_wp2_with (at_builtin; refine wpList_app _ rfl (.tmp 28) (.tmp 30) 22 rfl EMt rfl (hMt2.own.alloc _) rfl (l := 1) rfl (Rd.one _ _ _) (fun _ _ => rfl) (by unfold maxLen; omega) (by omega) (by simp; omega) (i + 1) (i + 1) rfl rfl ?_; intro A3 c3 w3 hown3 hg3 hat3 hbl3)
          have hT3 := HT.out.more hws (HBI.out.alloc hws2 _) (HO.out.alloc _) hown3 hg3
          go_roundw
          case rel => exact ⟨i + 1, A3, c3, _, _, _, by omega, rfl, by go_num, Lib.hid hT3, Lib.hid (((HB.out.trans (HBI.out.mono hws)).alloc (by omega) _).trans hbl3), Lib.hid fun q hq t ht => by
            by_cases e : q = i
            · rw [if_pos e, e]
            · rw [if_neg e]; exact HF.out q (by omega) t ht⟩
          case measure => simp [intOf]; omega
    · obtain rfl : i = n := by omega
      have HG := Lib.hid (td_grp HT.out HF.out HVAL.out)
      go_wp2_with fail
      go_ret
      exact ⟨_, _, _, _, rfl, HG.out, HB.out⟩
end Go.Proofs.Ytenlnkcmabphfaa
