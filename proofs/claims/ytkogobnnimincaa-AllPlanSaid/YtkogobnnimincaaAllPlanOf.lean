/- What all.Plan computes. Conditions: as each theorem states. -/
import Derived.Test.YtkogobnnimincaaAllPlay
namespace Go.Proofs.Ytkogobnnimincaa
open Go.ChangeShapes Go.WideShapes Go.ChangeAt Go.RowKit
set_option linter.unusedVariables false
theorem planOk_set {K : Nat → Bool} {m v o : Nat} {p : (Nat → Bool) → Bool} {C : Nat → Bool} (h : PlanOk K m p v C) (ho : o = offK K v) (s : Nat) (q : Bool) : PlanOk K m p v (setB C (o + s) q) := fun u hu hku t ht => by
  have h1 := offK_yes hku
  have h2 := offK_mono K (show u + 1 ≤ v by omega)
  rw [setB_lt (by omega)]
  exact h u hu hku t ht
set_option maxRecDepth 100000 in
set_option maxHeartbeats 1000000 in
theorem plan_bad (KA A : Option Addr) (m kc n c : Nat) (Y N : Nat → SI) (w : World) (hC : Cls w A n Y N) (hn : n ≤ maxLen) (hm : m ≤ maxLen) (hE : alE m n Y N ≠ 0) :
    Calls Try.prog 8 #[.slice KA m kc, .slice A n c] w fun e w' => e = .returned (.tuple #[.slice none 0 0, .int .i64 (alE m n Y N)]) ∧ Below w.heap.size w w' := by
  have hq : (alE m n Y N != 0) = true := by rw [bne_iff_ne]; exact hE
  have H := Lib.hid hC
  clear hC hE
  go_enter Try.func8, Try.ntmps8
  go_wp2_with fail
  refine (allWrong_any KA A m kc n c Y N w H.out hn hm).mono ?_
  rintro e w1 ⟨rfl, hb1⟩
  go_wp2_with fail
  go_ret2
  exact ⟨rfl, hb1⟩
set_option maxRecDepth 100000 in
set_option maxHeartbeats 4000000 in
theorem plan_none (KA A : Option Addr) (m kc n c : Nat) (K : Nat → Bool) (Y N : Nat → SI) (w : World) (hC : Cls w A n Y N) (hK : Rd w KA m (fun i => .bool (K i))) (hn : n ≤ maxLen) (hE : alE m n Y N = 0)
    (hwin : winS K m (isC n Y N) m (fun _ => false) = false) :
    Calls Try.prog 8 #[.slice KA m kc, .slice A n c] w fun e w' => e = .returned (.tuple #[.slice none 0 0, .int .i64 5]) ∧ Below w.heap.size w w' := by
  obtain ⟨h8, hw200⟩ := alE_ok hE
  have H := Lib.hid hC
  have GK := Lib.hid hK
  have HN := Lib.hid hn
  have HE := Lib.hid hE
  have HW200 := Lib.hid hw200
  have HWIN := Lib.hid hwin
  clear hC hK hn hE hw200 hwin
  go_enter Try.func8, Try.ntmps8
  go_wp2_with fail
  refine (allWrong_any KA A m kc n c Y N w H.out HN.out (by unfold maxLen; omega)).mono ?_
  rintro e w1 ⟨rfl, hb1⟩
  rw [HE.out]
  have sz1 := hb1.size
  have hb2 := hb1.alloc sz1 (.cells #[.slice KA m kc, .slice A n c] 40)
  go_wp2_with fail
  refine (wins_any KA A m kc n c K Y N h8 HW200.out HN.out m none 0 0 (fun _ => false) _ (by omega) (.inl ⟨rfl, rfl, rfl⟩) (Nat.le_refl _) (Nat.zero_le _) (H.out.below hb2) (GK.out.below hb2) (Rd.zero _ _ _)).mono ?_
  rintro e w2 ⟨rfl, hb3⟩
  rw [HWIN.out]
  go_wp2_with fail
  go_ret2
  exact ⟨rfl, hb2.trans (hb3.mono hb2.size)⟩
set_option maxRecDepth 100000 in
set_option maxHeartbeats 8000000 in
theorem plan_good (KA A : Option Addr) (m kc n c : Nat) (K : Nat → Bool) (Y N : Nat → SI) (w : World) (hC : Cls w A n Y N) (hK : Rd w KA m (fun i => .bool (K i))) (hn : n ≤ maxLen) (hE : alE m n Y N = 0)
    (hwin : winS K m (isC n Y N) m (fun _ => false) = true) :
    Calls Try.prog 8 #[.slice KA m kc, .slice A n c] w fun e w' => (∃ (S : Option Addr) (sc : Nat) (C : Nat → Bool), e = .returned (.tuple #[.slice S (offK K m) sc, .int .i64 0]) ∧ offK K m ≤ sc ∧ sc ≤ maxLen ∧ Rd w' S (offK K m) (fun i => .bool (C i)) ∧ PlanOk K m (isC n Y N) m C) ∧ Below w.heap.size w w' := by
  obtain ⟨h8, hw200⟩ := alE_ok hE
  have H := Lib.hid hC
  have GK := Lib.hid hK
  have HN := Lib.hid hn
  have HE := Lib.hid hE
  have HW200 := Lib.hid hw200
  have HWIN := Lib.hid hwin
  clear hC hK hn hE hw200 hwin
  go_enter Try.func8, Try.ntmps8
  go_wp2_with fail
  refine (allWrong_any KA A m kc n c Y N w H.out HN.out (by unfold maxLen; omega)).mono ?_
  rintro e w1 ⟨rfl, hb1⟩
  rw [HE.out]
  have sz1 := hb1.size
  have hb2 := hb1.alloc sz1 (.cells #[.slice KA m kc, .slice A n c] 40)
  go_wp2_with fail
  refine (wins_any KA A m kc n c K Y N h8 HW200.out HN.out m none 0 0 (fun _ => false) _ (by omega) (.inl ⟨rfl, rfl, rfl⟩) (Nat.le_refl _) (Nat.zero_le _) (H.out.below hb2) (GK.out.below hb2) (Rd.zero _ _ _)).mono ?_
  rintro e w2 ⟨rfl, hb3⟩
  rw [HWIN.out]
  have hbW := hb2.trans (hb3.mono hb2.size)
  have c0 : w2.cell? ⟨w1.heap.size, 0, none⟩ = some (.slice KA m kc) := (hb3.cell (by simp)).trans (by simp [go_sem])
  have c1 : w2.cell? ⟨w1.heap.size, 1, none⟩ = some (.slice A n c) := (hb3.cell (by simp)).trans (by simp [go_sem])
  obtain ⟨g, hg⟩ : ∃ g, g = w1.heap.size := ⟨_, rfl⟩
  rw [← hg] at sz1 c0 c1 ⊢
  have gs : g + 1 ≤ w2.heap.size := by have := hb3.size; simp at this; omega
  have C0 := Lib.hid c0
  have C1 := Lib.hid c1
  have BW := Lib.hid hbW
  clear hb1 hb2 hb3 hg c0 c1 hbW w1
  go_wp2_with fail
  go_loopw [8, 28] (fun s8 s28 wr => ∃ (v : Nat) (S : Option Addr) (o sc : Nat) (C : Nat → Bool), v ≤ m ∧ s28 = .int .i64 v ∧ (s8 = .slice S o sc ∧ o = offK K v ∧ Own wr (g + 1) 4 1 S o sc o (fun q => .bool (C q)) ∧ PlanOk K m (isC n Y N) v C) ∧ Below (g + 1) w2 wr) (fun _ s28 _ => m - (intOf s28).toNat)
  case atStart => exact ⟨0, none, 0, 0, fun _ => false, Nat.zero_le _, rfl, ⟨rfl, rfl, Own.nil _ _ _ _ _, fun u hu => absurd hu (Nat.not_lt_zero _)⟩, Below.refl _ _⟩
  case round =>
    obtain ⟨wo, rfl⟩ : ∃ wo : World, wo = wr := ⟨_, rfl⟩
    obtain ⟨v, S, o, sc, C, hv, rfl, ⟨rfl, ho, hown, hplan⟩, hbel⟩ := hrel
    have sg := hbel.size
    by_cases hlt : v < m
    · have hbelw := BW.out.trans (hbel.mono (show w.heap.size ≤ g + 1 by omega))
      obtain ⟨kb, ko, rfl, _, hkc⟩ := (GK.out.below hbelw).at_ hlt
      obtain ⟨k, hk⟩ : ∃ k, k = K v := ⟨_, rfl⟩
      rw [← hk] at hkc
      have HK := Lib.hid hk
      have hol := offK_lt K v
      obtain ⟨p0, p1, p2, p3⟩ := pow8 (V := v) (by omega)
      have hoy := @offK_yes K v
      have hon := @offK_no K v
      obtain ⟨P, hP⟩ : ∃ P, P = 2 ^ v := ⟨_, rfl⟩
      have hPI : (2 : Int) ^ v = (P : Int) := by rw [hP]; simp
      rw [hPI] at p0 p1
      rw [← ho] at hol
      rw [← hP] at hol p2 p3 hoy
      have HO := Lib.hid ho
      have HOY := Lib.hid hoy
      have HON := Lib.hid hon
      have HPL := Lib.hid hplan
      have HPP := Lib.hid hP
      clear ho hoy hon hplan hP hk
      cases k with
      | false =>
        go_wp2_with fail
        go_roundw
        case rel => exact ⟨v + 1, S, o, sc, C, by omega, by go_num, ⟨rfl, by rw [HON.out HK.out.symm, HO.out], hown, fun u hu hku => by
          by_cases e : u = v
          · subst e; rw [← HK.out] at hku; cases hku
          · exact HPL.out u (by omega) hku⟩, hbel⟩
        case measure => simp [intOf]; omega
      | true =>
        go_wp2_with fail
        go_loopw [8, 37] (fun s8 s37 wr => ∃ (s : Nat) (S : Option Addr) (sc : Nat) (C : Nat → Bool), s ≤ P ∧ s37 = .int .i64 s ∧ (s8 = .slice S (o + s) sc ∧ Own wr (g + 1) 4 1 S (o + s) sc (o + s) (fun q => .bool (C q)) ∧ PlanOk K m (isC n Y N) v C ∧ ∀ t, t < s → C (o + t) = winS K m (isC n Y N) (m - v - 1) (setB (bitN t) v true)) ∧ Below (g + 1) w2 wr) (fun _ s37 _ => P - (intOf s37).toNat)
        case atStart => exact ⟨0, S, sc, C, Nat.zero_le _, rfl, ⟨rfl, hown, HPL.out, fun t ht => absurd ht (Nat.not_lt_zero _)⟩, hbel⟩
        case round =>
          clear hown hbel sg hbelw hkc HPL
          obtain ⟨wo, rfl⟩ : ∃ wo : World, wo = wr := ⟨_, rfl⟩
          obtain ⟨s, S, sc, C, hs, rfl, ⟨rfl, hown, hplan, hmid⟩, hbel⟩ := hrel
          have sg := hbel.size
          have HPL := Lib.hid hplan
          have HMID := Lib.hid hmid
          clear hplan hmid
          by_cases hsP : s < P
          · go_wp2_with fail
            go_loopw [12, 41] (fun s12 s41 wr => ∃ (u : Nat) (HS : Option Addr) (hc : Nat), u ≤ v ∧ s41 = .int .i64 u ∧ (s12 = .slice HS u hc ∧ Own wr wo.heap.size 4 1 HS u hc u (fun q => .bool (bitN s q))) ∧ Below wo.heap.size wo wr) (fun _ s41 _ => v - (intOf s41).toNat)
            case atStart => exact ⟨0, none, 0, Nat.zero_le _, rfl, ⟨rfl, Own.nil _ _ _ _ _⟩, Below.refl _ _⟩
            case round =>
              obtain ⟨wq, rfl⟩ : ∃ wq : World, wq = wr := ⟨_, rfl⟩
              obtain ⟨u, HS, hc, hu, rfl, ⟨rfl, hownp⟩, hbq⟩ := hrel
              have szq := hbq.size
              by_cases huv : u < v
              · have hb := div_pow_bd (x := (s : Int)) (by omega) u
                have hand := and_one (x := (s : Int) / 2 ^ u) hb.1 (by omega)
                have hbit : (((s : Int) / 2 ^ u % 2) == 1) = bitN s u := by
                  unfold bitN
                  have e : ((s : Int) / 2 ^ u % 2) = ((s / 2 ^ u % 2 : Nat) : Int) := by simp
                  rw [e, Bool.eq_iff_iff, beq_iff_eq, decide_eq_true_eq]
                  omega
                clear hb
                have BA := hbq.alloc szq (.cells #[.bool (bitN s u)] 4)
                go_wp2_with (at_builtin; refine wpList_app _ rfl (.tmp 44) (.tmp 50) 23 rfl EBa rfl (hownp.alloc _) rfl (l := 1) (by omega) (Rd.one _ _ _) (fun _ _ => rfl) (by unfold maxLen; omega) (by omega) (by simp; omega) (u + 1) (u + 1) rfl (by omega) ?_; intro A2 c2 w3 hown2 hg2 hat2 hbl2)
                go_roundw
                case rel => exact ⟨u + 1, A2, c2, by omega, by go_num, ⟨rfl, hown2.congr fun i hi => by
                  by_cases e : i < u
                  · rw [cat_lt e]
                  · obtain rfl : i = u := by omega
                    rw [cat_ge (Nat.le_refl _)]⟩, BA.trans hbl2⟩
                case measure => simp [intOf]; omega
              · obtain rfl : u = v := by omega
                have f0 := (hbel.cell (p := ⟨g, 0, none⟩) (by show g < _; omega)).trans C0.out
                have f1 := (hbel.cell (p := ⟨g, 1, none⟩) (by show g < _; omega)).trans C1.out
                have e0 := (hbq.cell (p := ⟨g, 0, none⟩) (by show g < _; omega)).trans f0
                have e1 := (hbq.cell (p := ⟨g, 1, none⟩) (by show g < _; omega)).trans f1
                have F0 := Lib.hid f0
                have F1 := Lib.hid f1
                have bww := BW.out.trans (hbel.mono (show w.heap.size ≤ g + 1 by omega))
                have szw := bww.size
                have gq : g < wq.heap.size := by omega
                obtain ⟨q, hq⟩ : ∃ q, q = winS K m (isC n Y N) (m - u - 1) (setB (bitN s) u true) := ⟨_, rfl⟩
                have HQ := Lib.hid hq
                clear f0 f1 hq
                go_wp2_with fail
                go_region_law (first
                  | (refine step_app _ rfl (.tmp 55) (.tmp 56) 23 rfl EBa rfl (hownp.alloc _).drew rfl (l := 1) rfl (Rd.one wq (.bool true) _).drew (fun _ _ => rfl) (by unfold maxLen; omega) (by omega) (by simp; omega) (u + 1) (u + 1) rfl rfl ?_; intro A2 c2' w2' hown2 hg2 hat2 hbl2; have bw2 := ((hbq.alloc szq (.cells #[.bool true] 4)).drew).trans hbl2; have d0 := (bw2.cell (p := ⟨g, 0, none⟩) (by show g < _; omega)).trans F0.out; have d1 := (bw2.cell (p := ⟨g, 1, none⟩) (by show g < _; omega)).trans F1.out; have hbW2 := bww.trans (bw2.mono szw))
                  | (go_simp; go_at_call 13; refine (wins_any (some ⟨kb, ko, none⟩) A m kc n c K Y N h8 HW200.out HN.out (m - u - 1) A2 (u + 1) c2' (setB (bitN s) u true) w2' (by omega) (hown2.plain (by omega)) hown2.le.1 hown2.le.2 (H.out.below hbW2) (GK.out.below hbW2) (hown2.rd.congr (cat_set (bitN s) u true))).mono ?_; rintro e w3 ⟨rfl, hb3⟩; rw [← HQ.out]; have bw3 := bw2.trans (hb3.mono bw2.size); have own3 := hown.below bw3; have sz3 := bw3.size)
                  | (refine step_app _ rfl (.tmp 53) (.tmp 59) 23 rfl EBa rfl (own3.alloc _) rfl (l := 1) rfl (Rd.one w3 (.bool q) _) (fun _ _ => rfl) (by unfold maxLen; omega) (by omega) (by simp; omega) (o + s + 1) (o + s + 1) rfl rfl ?_; intro A4 c4 w4 hown4 hg4 hat4 hbl4))
                all_goals
                  go_wp2_with fail
                  go_roundw
                  case rel => exact ⟨s + 1, A4, c4, setB C (o + s) q, by omega, by go_num, ⟨rfl, hown4.congr (cat_set C (o + s) q), planOk_set HPL.out HO.out s q, fun t ht => by
                    by_cases e : t = s
                    · subst e; rw [setB_eq]; exact HQ.out
                    · rw [setB_lt (by omega)]; exact HMID.out t (by omega)⟩, ((hbel.trans (bw3.mono (by omega))).alloc (by omega) _).trans hbl4⟩
                  case measure => simp [intOf]; omega
          · obtain rfl : s = P := by omega
            go_wp2_with fail
            go_roundw
            case rel => exact ⟨v + 1, S, o + s, sc, C, by omega, by go_num, ⟨rfl, by rw [HOY.out HK.out.symm, HO.out], hown, fun u hu hku => by
              by_cases e : u = v
              · subst e
                intro t ht
                rw [← HPP.out] at ht
                rw [← HO.out]
                exact HMID.out t ht
              · exact HPL.out u (by omega) hku⟩, hbel⟩
            case measure => simp [intOf]; omega
    · obtain rfl : v = m := by omega
      have hrd := hown.rd
      have L := Lib.hid hown.le
      rw [ho] at hrd
      have RD := Lib.hid hrd
      have HO := Lib.hid ho
      have HPL := Lib.hid hplan
      have hbelw := BW.out.trans (hbel.mono (show w.heap.size ≤ g + 1 by omega))
      clear hown ho hplan hrd
      go_wp2_with fail
      go_ret2
      exact ⟨⟨S, sc, C, by rw [HO.out]; rfl, by rw [← HO.out]; exact L.out.1, L.out.2, RD.out, HPL.out⟩, hbelw⟩
end Go.Proofs.Ytkogobnnimincaa
