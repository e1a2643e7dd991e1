/- unroll.Build where nothing is wrong: the circuit says what the machine says. Conditions: the machine reads as told, and what step does (StepU). -/
import Derived.Test.YtklhbmlcpjlgiaaUnrIn
import Derived.Test.YtklhbmlcpjlgiaaHalfRep
import Derived.Test.YtklhbmlcpjlgiaaCloneG
import Derived.Test.YtklhbmlcpjlgiaaHeldMore
namespace Go.Proofs.Ytklhbmlcpjlgiaa
open Go.ChangeShapes Go.WideShapes Go.ChangeAt Go.RowKit Go.Maps
set_option linter.unusedVariables false
set_option linter.unusedSimpArgs false
/-- what Build leaves: gates that may be, the last of which says what the machine says -/
def BuildR (st K steps : Nat) (R : Nat → SI) (w : World) (e : Ending) (w' : World) : Prop :=
  ∃ (A : Option Addr) (m c : Nat) (F : Nat → Int), e = .returned (.tuple #[.slice A m c, .int .i64 0]) ∧ Rd w' A (m * 3) (fun q => .int .i64 (F q)) ∧ GW (K : Nat) F m ∧ (1 ≤ m ∧ m ≤ 10000) ∧ (∀ g, val F g (m - 1) = ansU st R K g steps) ∧ Below w.heap.size w w'
theorem Own.rowSG {w : World} {base s : Nat} {e : TypeId} {A : Option Addr} {n c k : Nat} {C : Nat → Value} (h : Own w base e s A n c k C) (hn : 0 < n) :
    ∃ g F, A = some ⟨g, 0, none⟩ ∧ base ≤ g ∧ w.rowIs g e (c * s) F ∧ n ≤ c ∧ ∀ i, i < k → F i = C i := by
  rcases h.1.2 with ⟨_, h0⟩ | ⟨g, cap, cur, hv, hb, hg, hnc, hc, hs, ht⟩
  · omega
  · have hk := h.len
    injection hv with hA _ hcc
    subst hA; subst hcc
    have hle : n * s ≤ c * s := Nat.mul_le_mul_right s hnc
    refine ⟨g, fun i => (cur[i]?).getD default, rfl, hb, ⟨cur, hg, hs, fun i hi => ?_⟩, hnc, fun i hi => ?_⟩
    · have : i < cur.size := by omega
      simp [this]
    · obtain ⟨b, off, e1, _, hcell⟩ := h.rd.at_ hi
      simp at e1
      obtain ⟨rfl, rfl⟩ := e1
      rw [Nat.zero_add, cell_of_row w g i cur e (0, 0) hg] at hcell
      show (cur[i]?).getD default = _
      rw [hcell]; rfl
theorem ui_start (w : World) (st K tc : Nat) (T : Option Addr) (hK : K ≤ 5) : UI w (w.alloc (.cells #[.slice none 0 0, .map none, .int .i64 (st : Nat), .int .i64 2, .slice T st tc, .slice none 0 0, .slice none 0 0] 52)) w.heap.size 0 0 0 K st tc T (fun _ => 0) none none 0 0 (fun _ => none) (fun _ => 0) (fun _ => 0) (fun _ _ => 0) := by
  have hr := World.rowIs_alloc w #[.slice none 0 0, .map none, .int .i64 (st : Nat), .int .i64 2, .slice T st tc, .slice none 0 0, .slice none 0 0] 52 (fun j => if j = 0 then .slice none 0 0 else if j = 1 then .map none else rrV st tc 0 0 0 0 T none none j) (fun i hi => by
    have hi : i < 7 := hi
    have : i = 0 ∨ i = 1 ∨ i = 2 ∨ i = 3 ∨ i = 4 ∨ i = 5 ∨ i = 6 := by omega
    rcases this with rfl | rfl | rfl | rfl | rfl | rfl | rfl <;> rfl)
  exact ⟨⟨⟨none, 0, none, _, ⟨hr, by omega, by decide, Nat.le_refl _, rfl, rfl, Own.nil _ _ _ _ _, fun b hb => (by cases hb)⟩, fun j hj => by
    show (if j = 0 then _ else if j = 1 then _ else _) = _
    rw [if_neg (by omega), if_neg (by omega)]⟩, fun i hi => absurd hi (by omega)⟩, Fam.nil _ _ _ _, ⟨rfl, rfl, rfl⟩, Own.nil _ _ _ _ _, fun c hc => absurd hc (by omega), (Below.refl w.heap.size w).alloc (Nat.le_refl _) _, fun c hc => absurd hc (by omega), fun g c hc => absurd hc (by omega), Nat.zero_le _⟩
set_option maxRecDepth 100000 in
set_option maxHeartbeats 200000000 in
theorem ubuild_good (st K steps tc : Nat) (T : Option Addr) (R : Nat → SI) (w : World) (hT : Tm w T st R) (hE : uwE st 2 st R K steps = 0) (hG : Gt st 2 (TR R)) (hK : 1 ≤ K ∧ K ≤ 5) (hst : 1 ≤ st ∧ st ≤ 2) (hsp : steps ≤ 6) (hstep : ∀ w1, Below w.heap.size w w1 → StepU w1 K st tc T R) :
    Calls Try.prog 6 #[.agg #[.int .i64 (st : Nat), .int .i64 2, .slice T st tc], .int .i64 (K : Nat), .int .i64 (steps : Nat)] w (BuildR st K steps R w) := by
  have HT := Lib.hid hT
  have HE := Lib.hid hE
  have HG := Lib.hid hG
  have HST := Lib.hid hstep
  clear hT hE hG hstep
  obtain ⟨S, hSe⟩ : ∃ S, S = st + 1 := ⟨_, rfl⟩
  have HSS := Lib.hid hSe
  have hS3 : 2 ≤ S ∧ S ≤ 3 := by omega
  have wS : IntKind.i64.wrap ((st : Int) + 1) = (S : Int) := by rw [show (st : Int) + 1 = (S : Int) by omega]; exact IntWalk.i64_in _ (by omega)
  clear hSe
  have HTR : Hid True := Lib.hid trivial
  go_enter Try.func6, Try.ntmps6
  go_wp2_with fail
  have b0 : (w.alloc (.cells #[.int .i64 (st : Nat), .int .i64 2, .slice T st tc] 24)).cell? ⟨w.heap.size, 0, none⟩ = some (.int .i64 (st : Nat)) := by simp [go_sem]
  have b1 : (w.alloc (.cells #[.int .i64 (st : Nat), .int .i64 2, .slice T st tc] 24)).cell? ⟨w.heap.size, 1, none⟩ = some (.int .i64 2) := by simp [go_sem]
  have b2 : (w.alloc (.cells #[.int .i64 (st : Nat), .int .i64 2, .slice T st tc] 24)).cell? ⟨w.heap.size, 2, none⟩ = some (.slice T st tc) := by simp [go_sem]
  have hB1 := (Below.refl w.heap.size w).alloc (Nat.le_refl _) (.cells #[.int .i64 (st : Nat), .int .i64 2, .slice T st tc] 24)
  obtain ⟨W1, hW1⟩ : ∃ X, X = w.alloc (.cells #[.int .i64 (st : Nat), .int .i64 2, .slice T st tc] 24) := ⟨_, rfl⟩
  have sW : W1.heap.size = w.heap.size + 1 := by rw [hW1]; simp
  rw [← hW1] at b0 b1 b2 hB1 ⊢
  clear hW1
  refine (uwrong_any st 2 K steps T st tc R _ (HT.out.below hB1) (by unfold maxLen; omega)).mono ?_
  rintro e w2 ⟨rfl, hb2⟩
  rw [HE.out]
  have s2 := hb2.size
  have d0 := (hb2.cell (p := ⟨w.heap.size, 0, none⟩) (by show w.heap.size < _; omega)).trans b0
  have d1 := (hb2.cell (p := ⟨w.heap.size, 1, none⟩) (by show w.heap.size < _; omega)).trans b1
  have d2 := (hb2.cell (p := ⟨w.heap.size, 2, none⟩) (by show w.heap.size < _; omega)).trans b2
  have HB2 := Lib.hid (hB1.trans (hb2.mono hB1.size))
  have lN0 : w.heap.size < w2.heap.size := by omega
  have HN0 : Hid (w.heap.size < w2.heap.size ∧ w2.cell? ⟨w.heap.size, 0, none⟩ = some (.int .i64 (st : Nat))) := Lib.hid ⟨lN0, d0⟩
  have HUI0 := Lib.hid (ui_start w2 st K tc T (by omega))
  have HSTP : Hid (StepU w2 K st tc T R) := Lib.hid (HST.out w2 HB2.out)
  clear b0 b1 b2 hB1 hb2 HST
  go_wp2_with fail
  obtain ⟨bb, hbb⟩ : ∃ x, x = w2.heap.size := ⟨_, rfl⟩
  obtain ⟨W3, hW3⟩ : ∃ X, X = w2.alloc (.cells #[.slice none 0 0, .map none, .int .i64 (st : Nat), .int .i64 2, .slice T st tc, .slice none 0 0, .slice none 0 0] 52) := ⟨_, rfl⟩
  rw [← hW3] at HUI0 ⊢
  have HUI : Hid (UI w2 W3 bb 0 0 0 K st tc T (fun _ => 0) none none 0 0 (fun _ => none) (fun _ => 0) (fun _ => 0) (fun _ _ => 0)) := Lib.hid (by rw [hbb]; exact HUI0.out)
  rw [← hbb]
  clear hW3 HUI0 d0 d1 d2 hbb
  go_loopw [27] (fun s27 wr => ∃ (t n : Nat) (F : Nat → Int) (SA AA : Option Addr) (sc ac : Nat) (A : Nat → Option Addr) (cc M : Nat → Nat) (L : Nat → Nat → Int), t ≤ K ∧ s27 = .int .i64 (t : Nat) ∧ n ≤ t ∧ Hid (UI w2 wr bb t t n K st tc T F SA AA sc ac A cc M L)) (fun s27 _ => K - (intOf s27).toNat)
  case atStart => exact ⟨0, 0, _, none, none, 0, 0, _, _, _, _, Nat.zero_le _, rfl, Nat.le_refl _, HUI⟩
  case round =>
    clear HUI
    obtain ⟨wo, hwo⟩ : ∃ wo : World, wo = wr := ⟨_, rfl⟩
    subst hwo
    obtain ⟨t, n, F, SA, AA, sc, ac, A, cc, M, L, ht, rfl, hn, HI⟩ := hrel
    by_cases hlt : t < K
    · have htI : (t : Int) < (K : Int) := by omega
      go_wp2_with fail
      obtain ⟨Am, cm, Mm, Rm, hmk, hRm⟩ := HI.out.bs.mker
      have g5 := HI.out.bs.cell (j := 5) (by omega) (by omega)
      change _ = some (Value.slice SA t sc) at g5
      have lbb := HI.out.bs.lt.1
      have HS0 : Hid (wo.drew.cell? ⟨bb, 5, none⟩ = some (.slice SA t sc)) := Lib.hid g5
      have HId := Lib.hid (HI.out.below (Below.refl wo.heap.size wo).drew)
      clear hmk hRm Am cm Mm Rm g5
      refine wp_region_any (by kernel_rfl) ?_
      change wpAny _ _ _ _ _ _ _ (World.drew _)
      refine any_of_T (S := fun W' => W'.cell? ⟨bb, 5, none⟩ = some (.slice SA t sc)) (c := 14) _ _ _ _ ?_
      refine anyT_takeY (i := 0) (v := ?_) rfl (by decide +kernel) (by decide +kernel) (by decide +kernel) (by decide +kernel) (fun _ _ _ h => h) (Or.inl ⟨by rfl, ?_⟩) HS0.out ?_
      rotate_left 1
      · intro w _; go_simp; with_reducible rfl
      simp only [Act.put, List.getElem_toArray, List.getElem_cons_zero, List.getElem_cons_succ, List.setIfInBounds_toArray, List.set_cons_zero, List.set_cons_succ]
      refine anyT_takeY (i := 1) (v := ?_) rfl (by decide +kernel) (by decide +kernel) (by decide +kernel) (by decide +kernel) (fun _ _ _ h => h) (Or.inl ⟨by rfl, ?_⟩) HS0.out ?_
      rotate_left 1
      · intro w _; go_simp; with_reducible rfl
      simp only [Act.put, List.getElem_toArray, List.getElem_cons_zero, List.getElem_cons_succ, List.setIfInBounds_toArray, List.set_cons_zero, List.set_cons_succ]
      refine anyT_takeY (i := 2) (v := ?_) rfl (by decide +kernel) (by decide +kernel) (by decide +kernel) (by decide +kernel) (fun _ _ _ h => h) (Or.inl ⟨by rfl, ?_⟩) HS0.out ?_
      rotate_left 1
      · intro w _; go_simp; with_reducible rfl
      simp only [Act.put, List.getElem_toArray, List.getElem_cons_zero, List.getElem_cons_succ, List.setIfInBounds_toArray, List.set_cons_zero, List.set_cons_succ]
      refine anyT_takeY (i := 3) (v := ?_) rfl (by decide +kernel) (by decide +kernel) (by decide +kernel) (by decide +kernel) (fun _ _ _ h => h) (Or.inl ⟨by rfl, ?_⟩) HS0.out ?_
      rotate_left 1
      · intro w _; go_simp; with_reducible rfl
      simp only [Act.put, List.getElem_toArray, List.getElem_cons_zero, List.getElem_cons_succ, List.setIfInBounds_toArray, List.set_cons_zero, List.set_cons_succ]
      refine anyT_takeL [11, 14] (i := 4) (v := ?_) rfl (by decide +kernel) (by decide +kernel) (by decide +kernel) (by decide +kernel) (by decide +kernel) (by decide +kernel) (fun _ _ _ h => h) (Or.inl ⟨by rfl, ?_⟩) HS0.out ?_
      rotate_left 1
      · intro w hS; have s0 := hS; go_simp; with_reducible rfl
      simp only [Act.put, List.getElem_toArray, List.getElem_cons_zero, List.getElem_cons_succ, List.setIfInBounds_toArray, List.set_cons_zero, List.set_cons_succ]
      refine anyT_takeY (i := 5) (v := ?_) rfl (by decide +kernel) (by decide +kernel) (by decide +kernel) (by decide +kernel) (fun _ _ _ h => h) (Or.inl ⟨by rfl, ?_⟩) HS0.out ?_
      rotate_left 1
      · intro w _; go_simp; with_reducible rfl
      simp only [Act.put, List.getElem_toArray, List.getElem_cons_zero, List.getElem_cons_succ, List.setIfInBounds_toArray, List.set_cons_zero, List.set_cons_succ]
      refine anyT_takeY (i := 6) (v := ?_) rfl (by decide +kernel) (by decide +kernel) (by decide +kernel) (by decide +kernel) (fun _ _ _ h => h) (Or.inl ⟨by rfl, ?_⟩) HS0.out ?_
      rotate_left 1
      · intro w _; go_simp; with_reducible rfl
      simp only [Act.put, List.getElem_toArray, List.getElem_cons_zero, List.getElem_cons_succ, List.setIfInBounds_toArray, List.set_cons_zero, List.set_cons_succ]
      refine anyT_takeY (i := 7) (v := ?_) rfl (by decide +kernel) (by decide +kernel) (by decide +kernel) (by decide +kernel) (fun _ _ _ h => h) (Or.inl ⟨by rfl, ?_⟩) HS0.out ?_
      rotate_left 1
      · intro w _; go_simp; with_reducible rfl
      simp only [Act.put, List.getElem_toArray, List.getElem_cons_zero, List.getElem_cons_succ, List.setIfInBounds_toArray, List.set_cons_zero, List.set_cons_succ]
      refine anyT_takeY (i := 8) (v := ?_) rfl (by decide +kernel) (by decide +kernel) (by decide +kernel) (by decide +kernel) (fun _ _ _ h => h) (Or.inl ⟨by rfl, ?_⟩) HS0.out ?_
      rotate_left 1
      · intro w _; go_simp; with_reducible rfl
      simp only [Act.put, List.getElem_toArray, List.getElem_cons_zero, List.getElem_cons_succ, List.setIfInBounds_toArray, List.set_cons_zero, List.set_cons_succ]
      refine anyT_one (i := 9) (by decide +kernel) rfl (fun KK hK => ?_)
      go_simp
      go_at_call 14
      refine (put_b HId.out.bs (by omega) (by omega) 1 (t : Nat) 0 (by omega) (by omega) (by omega) (by omega) (by omega)).mono ?_
      rintro e w3 ⟨i, n3, F3, rfl, hbt, hi, hv⟩
      have HI3 := Lib.hid (HId.out.put hbt)
      have HV3 : Hid (∀ g, vx F3 g (i : Nat) = g t) := Lib.hid fun g => by rw [vx_nat, (hv g).1 rfl]; rfl
      have hn3 := And.intro hbt.le hbt.le2
      have g5 := HI3.out.bs.cell (j := 5) (by omega) (by omega)
      change _ = some (Value.slice SA t sc) at g5
      have HS3 := Lib.hid g5
      have lb3 := HI3.out.bs.lt.1
      clear hbt hv g5 HId HS0
      try go_simp
      refine hK.out _ _ (fun _ => HS3.out) ?_
      clear hK KK
      try simp only [Act.put, List.getElem_toArray, List.getElem_cons_zero, List.getElem_cons_succ, List.setIfInBounds_toArray, List.set_cons_zero, List.set_cons_succ]
      refine anyT_one (i := 10) (by decide +kernel) rfl (fun KK hK => ?_)
      go_simp
      have HBA : Hid (Below w3.heap.size w3 (w3.alloc (.cells #[.int .i64 (i : Nat)] 3))) := Lib.hid ((Below.refl w3.heap.size w3).alloc (Nat.le_refl _) _)
      refine hK.out _ _ (fun _ => (HBA.out.cell (p := ⟨bb, 5, none⟩) lb3).trans HS3.out) ?_
      clear hK KK
      try simp only [Act.put, List.getElem_toArray, List.getElem_cons_zero, List.getElem_cons_succ, List.setIfInBounds_toArray, List.set_cons_zero, List.set_cons_succ]
      refine anyT_one (i := 11) (by decide +kernel) rfl (fun KK hK => ?_)
      have HI4 := Lib.hid (HI3.out.below HBA.out)
      have HOS : Hid (Own (w3.alloc (.cells #[.int .i64 (i : Nat)] 3)) w2.heap.size 3 1 SA t sc t (fun j => .int .i64 (L K j))) := Lib.hid (by
        have := HI4.out.fam.own K (by omega)
        rw [HI4.out.lk.1, HI4.out.lk.2.1, HI4.out.lk.2.2] at this; exact this)
      have hsz4 := HI4.out.bel.size
      refine step_app _ rfl (.tmp 34) (.tmp 40) 49 rfl EIu rfl HOS.out rfl (l := 1) rfl (Rd.one _ (.int .i64 (i : Nat)) _) (fun _ _ => rfl) (by unfold maxLen; omega) (by omega) hsz4 (t + 1) (t + 1) rfl rfl ?_
      intro A4 c4 w8 hown hg4 hat4 hb4
      have HI5 := Lib.hid (HI4.out.appS (x := (i : Nat)) hown hg4 hat4 (by omega) HV3.out)
      have hbs8 : BS w8 bb w2.heap.size n3 K F3 (rrV st tc t t sc ac T SA AA) := HI4.out.bs.grown hg4 (fun g hg => by
        obtain ⟨cur, hc⟩ := HOS.out.objG g hg
        exact ⟨cur, _, hc⟩) intG intB
      have e5 := hbs8.cell (j := 5) (by omega) (by omega)
      change _ = some (Value.slice SA t sc) at e5
      obtain ⟨Am, cm, Mm, Rm, hmk, hRm⟩ := hbs8.mker
      have f5 := hmk.row.frozen 5
      have lb8 := hmk.row.lt
      have HSE := Lib.hid e5
      clear hown hg4 hat4 hb4 hbs8 hmk hRm Am cm Mm Rm
      refine hK.out _ _ (fun _ => HSE.out) ?_
      clear hK KK
      try simp only [Act.put, List.getElem_toArray, List.getElem_cons_zero, List.getElem_cons_succ, List.setIfInBounds_toArray, List.set_cons_zero, List.set_cons_succ]
      refine anyT_takeY (i := 12) (v := ?_) rfl (by decide +kernel) (by decide +kernel) (by decide +kernel) (by decide +kernel) (fun _ _ _ h => h) (Or.inl ⟨by rfl, ?_⟩) HSE.out ?_
      rotate_left 1
      · intro w _; go_simp; with_reducible rfl
      simp only [Act.put, List.getElem_toArray, List.getElem_cons_zero, List.getElem_cons_succ, List.setIfInBounds_toArray, List.set_cons_zero, List.set_cons_succ]
      refine anyT_takeY (i := 13) (v := ?_) rfl (by decide +kernel) (by decide +kernel) (by decide +kernel) (by decide +kernel) (fun _ _ _ h => h) (Or.inl ⟨by rfl, ?_⟩) HSE.out ?_
      rotate_left 1
      · intro w _; go_simp; with_reducible rfl
      simp only [Act.put, List.getElem_toArray, List.getElem_cons_zero, List.getElem_cons_succ, List.setIfInBounds_toArray, List.set_cons_zero, List.set_cons_succ]
      refine anyT_one (i := 14) (by decide +kernel) rfl (fun KK hK => ?_)
      go_simp
      refine hK.out _ _ (fun h => absurd h (by decide +kernel)) ?_
      clear hK KK
      try simp only [Act.put, List.getElem_toArray, List.getElem_cons_zero, List.getElem_cons_succ, List.setIfInBounds_toArray, List.set_cons_zero, List.set_cons_succ]
      refine T_of_any _ _ _ _ (by decide +kernel) ?_
      refine wpAny_done (by decide +kernel) ?_ _
      obtain ⟨w9, hw9⟩ : ∃ w9, w9 = w8.setCell ⟨bb, 5, none⟩ (.slice A4 (t + 1) c4) := ⟨_, rfl⟩
      rw [← hw9] at HI5
      rw [← hw9]
      clear hw9 e5 f5 lb8 HSE HOS HI4 HI3 HBA HS3 HV3 HI lb3 lbb hsz4
      obtain ⟨A5, cc5, M5, L5, HI5⟩ : ∃ (A' : Nat → Option Addr) (cc' M' : Nat → Nat) (L' : Nat → Nat → Int), Hid (UI w2 w9 bb (t + 1) t n3 K st tc T F3 A4 AA c4 ac A' cc' M' L') := ⟨_, _, _, _, HI5⟩
      go_wp2_with fail
      have g6 := HI5.out.bs.cell (j := 6) (by omega) (by omega)
      change _ = some (Value.slice AA t ac) at g6
      have g0 := (HI5.out.bel.cell (p := ⟨w.heap.size, 0, none⟩) HN0.out.1).trans HN0.out.2
      have lbb := HI5.out.bs.lt.1
      have lN0 : w.heap.size < w9.heap.size := by have := HN0.out.1; have := HI5.out.bel.size; omega
      have HS0 : Hid (w9.drew.cell? ⟨bb, 6, none⟩ = some (.slice AA t ac) ∧ w9.drew.cell? ⟨w.heap.size, 0, none⟩ = some (.int .i64 (st : Nat))) := Lib.hid ⟨g6, g0⟩
      have HBA : Hid (Below w9.heap.size w9 (w9.drew.alloc (.cells #[.int .i64 (-1)] 3))) := Lib.hid (((Below.refl w9.heap.size w9).drew).alloc (Nat.le_refl _) _)
      clear g6 g0
      refine wp_region_any (by kernel_rfl) ?_
      change wpAny _ _ _ _ _ _ _ (World.drew _)
      refine any_of_T (S := fun W' => W'.cell? ⟨bb, 6, none⟩ = some (.slice AA t ac) ∧ W'.cell? ⟨w.heap.size, 0, none⟩ = some (.int .i64 (st : Nat))) (c := 14) _ _ _ _ ?_
      refine anyT_takeY (i := 0) (v := ?_) rfl (by decide +kernel) (by decide +kernel) (by decide +kernel) (by decide +kernel) (fun _ _ _ h => h) (Or.inl ⟨by rfl, ?_⟩) HS0.out ?_
      rotate_left 1
      · intro w _; go_simp; with_reducible rfl
      simp only [Act.put, List.getElem_toArray, List.getElem_cons_zero, List.getElem_cons_succ, List.setIfInBounds_toArray, List.set_cons_zero, List.set_cons_succ]
      refine anyT_takeY (i := 1) (v := ?_) rfl (by decide +kernel) (by decide +kernel) (by decide +kernel) (by decide +kernel) (fun _ _ _ h => h) (Or.inl ⟨by rfl, ?_⟩) HS0.out ?_
      rotate_left 1
      · intro w _; go_simp; with_reducible rfl
      simp only [Act.put, List.getElem_toArray, List.getElem_cons_zero, List.getElem_cons_succ, List.setIfInBounds_toArray, List.set_cons_zero, List.set_cons_succ]
      refine anyT_takeY (i := 2) (v := ?_) rfl (by decide +kernel) (by decide +kernel) (by decide +kernel) (by decide +kernel) (fun _ _ _ h => h) (Or.inl ⟨by rfl, ?_⟩) HS0.out ?_
      rotate_left 1
      · intro w _; go_simp; with_reducible rfl
      simp only [Act.put, List.getElem_toArray, List.getElem_cons_zero, List.getElem_cons_succ, List.setIfInBounds_toArray, List.set_cons_zero, List.set_cons_succ]
      refine anyT_takeY (i := 3) (v := ?_) rfl (by decide +kernel) (by decide +kernel) (by decide +kernel) (by decide +kernel) (fun _ _ _ h => h) (Or.inl ⟨by rfl, ?_⟩) HS0.out ?_
      rotate_left 1
      · intro w _; go_simp; with_reducible rfl
      simp only [Act.put, List.getElem_toArray, List.getElem_cons_zero, List.getElem_cons_succ, List.setIfInBounds_toArray, List.set_cons_zero, List.set_cons_succ]
      refine anyT_takeL [11, 14] (i := 4) (v := ?_) rfl (by decide +kernel) (by decide +kernel) (by decide +kernel) (by decide +kernel) (by decide +kernel) (by decide +kernel) (fun _ _ _ h => h) (Or.inl ⟨by rfl, ?_⟩) HS0.out ?_
      rotate_left 1
      · intro w hS; obtain ⟨s0, s1⟩ := hS; go_simp; with_reducible rfl
      simp only [Act.put, List.getElem_toArray, List.getElem_cons_zero, List.getElem_cons_succ, List.setIfInBounds_toArray, List.set_cons_zero, List.set_cons_succ]
      refine anyT_takeY (i := 6) (v := ?_) rfl (by decide +kernel) (by decide +kernel) (by decide +kernel) (by decide +kernel) (fun _ _ _ h => h) (Or.inl ⟨by rfl, ?_⟩) HS0.out ?_
      rotate_left 1
      · intro w _; go_simp; with_reducible rfl
      simp only [Act.put, List.getElem_toArray, List.getElem_cons_zero, List.getElem_cons_succ, List.setIfInBounds_toArray, List.set_cons_zero, List.set_cons_succ]
      refine anyT_takeL [8, 9, 10, 11, 14] (i := 7) (v := ?_) rfl (by decide +kernel) (by decide +kernel) (by decide +kernel) (by decide +kernel) (by decide +kernel) (by decide +kernel) (fun _ _ _ h => h) (Or.inl ⟨by rfl, ?_⟩) HS0.out ?_
      rotate_left 1
      · intro w hS; obtain ⟨s0, s1⟩ := hS; go_simp; with_reducible rfl
      simp only [Act.put, List.getElem_toArray, List.getElem_cons_zero, List.getElem_cons_succ, List.setIfInBounds_toArray, List.set_cons_zero, List.set_cons_succ]
      refine anyT_takeY (i := 8) (v := ?_) rfl (by decide +kernel) (by decide +kernel) (by decide +kernel) (by decide +kernel) (fun _ _ _ h => h) (Or.inl ⟨by rfl, ?_⟩) HS0.out ?_
      rotate_left 1
      · intro w _; go_simp; with_reducible rfl
      simp only [Act.put, List.getElem_toArray, List.getElem_cons_zero, List.getElem_cons_succ, List.setIfInBounds_toArray, List.set_cons_zero, List.set_cons_succ]
      refine anyT_one (i := 5) (by decide +kernel) rfl (fun KK hK => ?_)
      go_simp
      refine hK.out _ _ (fun _ => ⟨(HBA.out.cell (p := ⟨bb, 6, none⟩) lbb).trans HS0.out.1, (HBA.out.cell (p := ⟨w.heap.size, 0, none⟩) lN0).trans HS0.out.2⟩) ?_
      clear hK KK
      try simp only [Act.put, List.getElem_toArray, List.getElem_cons_zero, List.getElem_cons_succ, List.setIfInBounds_toArray, List.set_cons_zero, List.set_cons_succ]
      refine anyT_one (i := 9) (by decide +kernel) rfl (fun KK hK => ?_)
      go_simp
      go_at_call 15
      refine (rep_any (some ⟨w9.heap.size, 0, none⟩) 1 S (w9.drew.alloc (.cells #[.int .i64 (-1)] 3)) (Rd.one _ (.int .i64 (-1)) _) (by omega) (by omega)).mono ?_
      rintro e w10 ⟨⟨gR, rfl, hgR, hrow⟩, hb10⟩
      have hb9 : Below w9.heap.size w9 w10 := HBA.out.trans (hb10.mono HBA.out.size)
      have hgR9 : w9.heap.size ≤ gR := by have := HBA.out.size; omega
      have HI6 := Lib.hid (HI5.out.row hb9 hlt hgR9 (by rw [← HSS.out]; exact hrow) (by omega))
      have HS10 : Hid (w10.cell? ⟨bb, 6, none⟩ = some (.slice AA t ac) ∧ w10.cell? ⟨w.heap.size, 0, none⟩ = some (.int .i64 (st : Nat))) := Lib.hid ⟨(hb9.cell (p := ⟨bb, 6, none⟩) lbb).trans HS0.out.1, (hb9.cell (p := ⟨w.heap.size, 0, none⟩) lN0).trans HS0.out.2⟩
      have lbb10 : bb < w10.heap.size := by have := hb9.size; omega
      have lN10 : w.heap.size < w10.heap.size := by have := hb9.size; omega
      clear hrow hb10 hb9 HBA HS0 HI5 hgR hgR9
      try go_simp
      refine hK.out _ _ (fun _ => HS10.out) ?_
      clear hK KK
      try simp only [Act.put, List.getElem_toArray, List.getElem_cons_zero, List.getElem_cons_succ, List.setIfInBounds_toArray, List.set_cons_zero, List.set_cons_succ]
      refine anyT_one (i := 10) (by decide +kernel) rfl (fun KK hK => ?_)
      go_simp
      have HBC : Hid (Below w10.heap.size w10 (w10.alloc (.cells #[.slice (some ⟨gR, 0, none⟩) S S] 49))) := Lib.hid ((Below.refl w10.heap.size w10).alloc (Nat.le_refl _) _)
      refine hK.out _ _ (fun _ => ⟨(HBC.out.cell (p := ⟨bb, 6, none⟩) lbb10).trans HS10.out.1, (HBC.out.cell (p := ⟨w.heap.size, 0, none⟩) lN10).trans HS10.out.2⟩) ?_
      clear hK KK
      try simp only [Act.put, List.getElem_toArray, List.getElem_cons_zero, List.getElem_cons_succ, List.setIfInBounds_toArray, List.set_cons_zero, List.set_cons_succ]
      refine anyT_one (i := 11) (by decide +kernel) rfl (fun KK hK => ?_)
      have HI7 := Lib.hid (HI6.out.below HBC.out)
      have HOA : Hid (Own (w10.alloc (.cells #[.slice (some ⟨gR, 0, none⟩) S S] 49)) w2.heap.size 49 1 AA t ac t _) := Lib.hid HI7.out.at_
      have hsz7 := HI7.out.bel.size
      refine step_app _ rfl (.tmp 48) (.tmp 54) 50 rfl EIIu rfl HOA.out rfl (l := 1) rfl (Rd.one _ (.slice (some ⟨gR, 0, none⟩) S S) _) (fun _ _ => rfl) (by unfold maxLen; omega) (by omega) hsz7 (t + 1) (t + 1) rfl rfl ?_
      intro A8 c8 w11 hown hg4 hat4 hb4
      rw [HSS.out] at hown
      have HI8 := Lib.hid (HI7.out.appA (g := gR) hlt (up_same _ _ _) (up_same _ _ _) (up_same _ _ _) (fun q => by rw [up_same]) hown hg4)
      have hbs8 : BS w11 bb w2.heap.size n3 K F3 (rrV st tc (t + 1) t c4 ac T A4 AA) := HI7.out.bs.grown hg4 (fun g hg => by
        obtain ⟨cur, hc⟩ := HOA.out.objG g hg
        exact ⟨cur, _, hc⟩) rowI_G rowI_B
      have e6 := hbs8.cell (j := 6) (by omega) (by omega)
      change _ = some (Value.slice AA t ac) at e6
      have e0 := (HI7.out.bel.cell (p := ⟨w.heap.size, 0, none⟩) HN0.out.1).trans HN0.out.2
      have lN7 : w.heap.size < (w10.alloc (.cells #[.slice (some ⟨gR, 0, none⟩) S S] 49)).heap.size := by have := HN0.out.1; omega
      have e01 : w11.cell? ⟨w.heap.size, 0, none⟩ = some (.int .i64 (st : Nat)) := (hb4.cell (p := ⟨w.heap.size, 0, none⟩) HN0.out.1).trans e0
      obtain ⟨Am, cm, Mm, Rm, hmk, hRm⟩ := hbs8.mker
      have f6 := hmk.row.frozen 6
      have lb8 := hmk.row.lt
      have HSE : Hid (w11.cell? ⟨bb, 6, none⟩ = some (.slice AA t ac) ∧ w11.cell? ⟨w.heap.size, 0, none⟩ = some (.int .i64 (st : Nat))) := Lib.hid ⟨e6, e01⟩
      clear hown hg4 hat4 hb4 hbs8 hmk hRm Am cm Mm Rm e0 e01
      refine hK.out _ _ (fun _ => HSE.out) ?_
      clear hK KK
      try simp only [Act.put, List.getElem_toArray, List.getElem_cons_zero, List.getElem_cons_succ, List.setIfInBounds_toArray, List.set_cons_zero, List.set_cons_succ]
      refine anyT_takeY (i := 12) (v := ?_) rfl (by decide +kernel) (by decide +kernel) (by decide +kernel) (by decide +kernel) (fun _ _ _ h => h) (Or.inl ⟨by rfl, ?_⟩) HSE.out ?_
      rotate_left 1
      · intro w _; go_simp; with_reducible rfl
      simp only [Act.put, List.getElem_toArray, List.getElem_cons_zero, List.getElem_cons_succ, List.setIfInBounds_toArray, List.set_cons_zero, List.set_cons_succ]
      refine anyT_takeY (i := 13) (v := ?_) rfl (by decide +kernel) (by decide +kernel) (by decide +kernel) (by decide +kernel) (fun _ _ _ h => h) (Or.inl ⟨by rfl, ?_⟩) HSE.out ?_
      rotate_left 1
      · intro w _; go_simp; with_reducible rfl
      simp only [Act.put, List.getElem_toArray, List.getElem_cons_zero, List.getElem_cons_succ, List.setIfInBounds_toArray, List.set_cons_zero, List.set_cons_succ]
      refine anyT_one (i := 14) (by decide +kernel) rfl (fun KK hK => ?_)
      go_simp
      refine hK.out _ _ (fun h => absurd h (by decide +kernel)) ?_
      clear hK KK
      try simp only [Act.put, List.getElem_toArray, List.getElem_cons_zero, List.getElem_cons_succ, List.setIfInBounds_toArray, List.set_cons_zero, List.set_cons_succ]
      refine T_of_any _ _ _ _ (by decide +kernel) ?_
      refine wpAny_done (by decide +kernel) ?_ _
      obtain ⟨w12, hw12⟩ : ∃ w9, w9 = w11.setCell ⟨bb, 6, none⟩ (.slice A8 (t + 1) c8) := ⟨_, rfl⟩
      rw [← hw12] at HI8
      rw [← hw12]
      clear hw12 e6 f6 lb8 HSE HOA HI7 HI6 HBC HS10 lbb10 lN10 lN7 hsz7 lbb lN0
      go_wp2_with fail
      go_roundw
      case rel => exact ⟨t + 1, n3, F3, A4, A8, c4, c8, _, _, _, _, by omega, by go_num, by omega, HI8⟩
      case measure => simp [intOf]; omega
    · have htI : ¬ (t : Int) < (K : Int) := by omega
      have hte : K = t := by omega
      subst hte
      go_wp2_with fail
      refine (put_b HI.out.bs (by omega) (by omega) 1 0 0 (by omega) (by omega) (by omega) (by omega) (by omega)).mono ?_
      rintro e w4 ⟨x, n1, F1, rfl, hbt, hx, hv⟩
      have HI4 := Lib.hid (HI.out.put hbt)
      have hn1 := And.intro hbt.le hbt.le2
      have HId := Lib.hid (HI4.out.below (Below.refl w4.heap.size w4).drew)
      clear hbt hv HI
      obtain ⟨HI, _⟩ : Hid True ∧ True := ⟨Lib.hid trivial, trivial⟩
      go_wp2_with fail
      refine wp_region_any (by kernel_rfl) ?_
      change wpAny _ _ _ _ _ _ _ (World.drew _)
      refine any_of_T (S := fun _ => True) (c := 10) _ _ _ _ ?_
      refine anyT_takeY (i := 0) (v := ?_) rfl (by decide +kernel) (by decide +kernel) (by decide +kernel) (by decide +kernel) (fun _ _ _ h => h) (Or.inl ⟨by rfl, ?_⟩) HTR.out ?_
      rotate_left 1
      · intro w _; go_simp; with_reducible rfl
      simp only [Act.put, List.getElem_toArray, List.getElem_cons_zero, List.getElem_cons_succ, List.setIfInBounds_toArray, List.set_cons_zero, List.set_cons_succ]
      refine anyT_takeY (i := 1) (v := ?_) rfl (by decide +kernel) (by decide +kernel) (by decide +kernel) (by decide +kernel) (fun _ _ _ h => h) (Or.inl ⟨by rfl, ?_⟩) HTR.out ?_
      rotate_left 1
      · intro w _; go_simp; with_reducible rfl
      simp only [Act.put, List.getElem_toArray, List.getElem_cons_zero, List.getElem_cons_succ, List.setIfInBounds_toArray, List.set_cons_zero, List.set_cons_succ]
      refine anyT_takeY (i := 2) (v := ?_) rfl (by decide +kernel) (by decide +kernel) (by decide +kernel) (by decide +kernel) (fun _ _ _ h => h) (Or.inl ⟨by rfl, ?_⟩) HTR.out ?_
      rotate_left 1
      · intro w _; go_simp; with_reducible rfl
      simp only [Act.put, List.getElem_toArray, List.getElem_cons_zero, List.getElem_cons_succ, List.setIfInBounds_toArray, List.set_cons_zero, List.set_cons_succ]
      refine anyT_takeY (i := 3) (v := ?_) rfl (by decide +kernel) (by decide +kernel) (by decide +kernel) (by decide +kernel) (fun _ _ _ h => h) (Or.inl ⟨by rfl, ?_⟩) HTR.out ?_
      rotate_left 1
      · intro w _; go_simp; with_reducible rfl
      simp only [Act.put, List.getElem_toArray, List.getElem_cons_zero, List.getElem_cons_succ, List.setIfInBounds_toArray, List.set_cons_zero, List.set_cons_succ]
      refine anyT_takeY (i := 4) (v := ?_) rfl (by decide +kernel) (by decide +kernel) (by decide +kernel) (by decide +kernel) (fun _ _ _ h => h) (Or.inl ⟨by rfl, ?_⟩) HTR.out ?_
      rotate_left 1
      · intro w _; go_simp; with_reducible rfl
      simp only [Act.put, List.getElem_toArray, List.getElem_cons_zero, List.getElem_cons_succ, List.setIfInBounds_toArray, List.set_cons_zero, List.set_cons_succ]
      refine anyT_takeY (i := 5) (v := ?_) rfl (by decide +kernel) (by decide +kernel) (by decide +kernel) (by decide +kernel) (fun _ _ _ h => h) (Or.inl ⟨by rfl, ?_⟩) HTR.out ?_
      rotate_left 1
      · intro w _; go_simp; with_reducible rfl
      simp only [Act.put, List.getElem_toArray, List.getElem_cons_zero, List.getElem_cons_succ, List.setIfInBounds_toArray, List.set_cons_zero, List.set_cons_succ]
      refine anyT_takeY (i := 6) (v := ?_) rfl (by decide +kernel) (by decide +kernel) (by decide +kernel) (by decide +kernel) (fun _ _ _ h => h) (Or.inl ⟨by rfl, ?_⟩) HTR.out ?_
      rotate_left 1
      · intro w _; go_simp; with_reducible rfl
      simp only [Act.put, List.getElem_toArray, List.getElem_cons_zero, List.getElem_cons_succ, List.setIfInBounds_toArray, List.set_cons_zero, List.set_cons_succ]
      refine anyT_takeY (i := 7) (v := ?_) rfl (by decide +kernel) (by decide +kernel) (by decide +kernel) (by decide +kernel) (fun _ _ _ h => h) (Or.inl ⟨by rfl, ?_⟩) HTR.out ?_
      rotate_left 1
      · intro w _; go_simp; with_reducible rfl
      simp only [Act.put, List.getElem_toArray, List.getElem_cons_zero, List.getElem_cons_succ, List.setIfInBounds_toArray, List.set_cons_zero, List.set_cons_succ]
      refine anyT_one (i := 8) (by decide +kernel) rfl (fun KK hK => ?_)
      go_simp
      go_at_call 14
      refine (put_b HId.out.bs (by omega) (by omega) 2 (x : Nat) 0 (by omega) (by omega) (by omega) (by omega) (by omega)).mono ?_
      rintro e w5 ⟨y, n5, F5, rfl, hbt, hy, hv⟩
      have HI5 := Lib.hid (HId.out.put hbt)
      have HV5 : Hid (∀ g, vx F5 g (y : Nat) = !(vx F1 g (x : Nat))) := Lib.hid fun g => by rw [vx_nat, (hv g).2.1 rfl]
      have HX5 : Hid (∀ g, vx F5 g (x : Nat) = vx F1 g (x : Nat)) := Lib.hid fun g => hbt.vx g (by omega)
      have hn5 := And.intro hbt.le hbt.le2
      clear hbt hv HId HI
      try go_simp
      refine hK.out _ _ (fun _ => trivial) ?_
      clear hK KK
      try simp only [Act.put, List.getElem_toArray, List.getElem_cons_zero, List.getElem_cons_succ, List.setIfInBounds_toArray, List.set_cons_zero, List.set_cons_succ]
      refine anyT_one (i := 9) (by decide +kernel) rfl (fun KK hK => ?_)
      go_simp
      go_at_call 14
      refine (put_b HI5.out.bs (by omega) (by omega) 4 (x : Nat) (y : Nat) (by omega) (by omega) (by omega) (by omega) (by omega)).mono ?_
      rintro e w6 ⟨al, n6, F6, rfl, hbt, hal, hv⟩
      have HI6 := Lib.hid (HI5.out.put hbt)
      have HV6 : Hid (∀ g, vx F6 g (al : Nat) = true) := Lib.hid fun g => by rw [vx_nat, (hv g).2.2.2 rfl, HV5.out g, HX5.out g]; cases vx F1 g (x : Nat) <;> rfl
      have hn6 := And.intro hbt.le hbt.le2
      clear hbt hv HI5 HV5 HX5
      try go_simp
      refine hK.out _ _ (fun _ => trivial) ?_
      clear hK KK
      try simp only [Act.put, List.getElem_toArray, List.getElem_cons_zero, List.getElem_cons_succ, List.setIfInBounds_toArray, List.set_cons_zero, List.set_cons_succ]
      refine anyT_one (i := 10) (by decide +kernel) rfl (fun KK hK => ?_)
      go_simp
      refine hK.out _ _ (fun h => absurd h (by decide +kernel)) ?_
      clear hK KK
      try simp only [Act.put, List.getElem_toArray, List.getElem_cons_zero, List.getElem_cons_succ, List.setIfInBounds_toArray, List.set_cons_zero, List.set_cons_succ]
      refine T_of_any _ _ _ _ (by decide +kernel) ?_
      refine wpAny_done (by decide +kernel) ?_ _
      obtain ⟨g0, hA0⟩ := (HI6.out.rw_ 0 (by omega)).2.2.1
      obtain ⟨hM0, hc0, _, hL0⟩ := HI6.out.rw_ 0 (by omega)
      obtain ⟨ab, Fa, hAAe, hab, hrA, hKac, hFa⟩ := HI6.out.at_.row (by omega)
      subst hAAe
      have r6 := HI6.out.bs.cell (j := 6) (by omega) (by omega)
      change _ = some (Value.slice (some ⟨ab, 0, none⟩) K ac) at r6
      have ra := hrA.cell (i := 0) (by omega)
      rw [hFa 0 (by omega), hA0, hc0] at ra
      have ho0 := HI6.out.fam.own 0 (by omega)
      rw [hA0, hM0, hc0] at ho0
      obtain ⟨g1, F0, hg1, _, hr0, _, hF0⟩ := ho0.row (by omega)
      injection hg1 with hg1
      injection hg1 with hg1
      subst hg1
      have rc0 := hr0.cell (i := 0) (by omega)
      have fc0 := hr0.frozen 0
      have lc0 := hr0.lt
      have lca := hrA.lt
      have lbb := HI6.out.bs.lt.1
      have HDONE := Lib.hid (HI6.out.done (R := R) (x := (al : Nat)) (by omega) hA0 (by omega) HV6.out)
      have hst0 : (0 : Int) < (st : Int) + 1 := by omega
      have htK0 : (0 : Int) < (K : Int) := by omega
      clear ho0 hrA hr0 hA0 hM0 hc0 hL0 hFa hF0
      go_wp2_with fail
      obtain ⟨w7, hw7⟩ : ∃ w7, w7 = w6.setCell ⟨g0, 0, none⟩ (.int .i64 (al : Nat)) := ⟨_, rfl⟩
      rw [← hw7] at HDONE
      rw [← hw7]
      have HU0 := Lib.hid HDONE.out.1
      have HSU0 := Lib.hid HDONE.out.2
      clear hw7 HDONE HI6 r6 ra rc0 fc0 lc0 lca lbb hst0 htK0
      go_loopw [82] (fun s82 wr => ∃ (t n : Nat) (F : Nat → Int) (SA AA : Option Addr) (sc ac : Nat) (RA : Nat → Option Addr) (Rc : Nat → Nat) (Sg : Nat → Int) (At : Nat → Nat → Int), t ≤ steps ∧ s82 = .int .i64 (t : Nat) ∧ n ≤ 8 + 600 * t ∧ al < n ∧ Hid (UB w2 wr bb n K st tc T F SA AA sc ac RA Rc Sg At) ∧ Hid (SemU F K st Sg At (hhU st R K t) (ssU st R K t) (fU st R K t)) ∧ Hid (∀ g, vx F g (al : Nat) = true)) (fun s82 _ => steps - (intOf s82).toNat)
      case atStart => exact ⟨0, n6, F6, _, _, _, _, _, _, _, _, Nat.zero_le _, rfl, by omega, hal, HU0, HSU0, HV6⟩
      case round =>
        clear HU0 HSU0 HV6 hn HI4
        obtain ⟨wp, hwp⟩ : ∃ wo : World, wo = wr := ⟨_, rfl⟩
        subst hwp
        obtain ⟨t, n, F1, SA, AA, sc, ac, RA, Rc, Sg, At, ht, rfl, hnt, haln, HU, HSU, HAL⟩ := hrel
        by_cases hlt : t < steps
        · have htI : (t : Int) < (steps : Int) := by omega
          go_wp2_with fail
          refine (HSTP.out wp bb n F1 SA AA sc ac RA Rc Sg At t HU.out HSU.out (by omega)).mono ?_
          rintro e w8 hr
          obtain ⟨n3, F3, SA3, AA3, sc3, ac3, RA3, Rc3, Sg3, At3, rfl, hub, h1, h2, hext, hkp, hsem⟩ := hr
          have HU3 := Lib.hid hub
          have HSU3 := Lib.hid hsem
          have HAL3 : Hid (∀ g, vx F3 g (al : Nat) = true) := Lib.hid fun g => by rw [vx_ext g hext (by omega)]; exact HAL.out g
          clear hub hext hkp hsem
          go_wp2_with fail
          go_roundw
          case rel => exact ⟨t + 1, n3, F3, SA3, AA3, sc3, ac3, RA3, Rc3, Sg3, At3, by omega, by go_num, by omega, by omega, HU3, HSU3, HAL3⟩
          case measure => simp [intOf]; omega
        · have htI : ¬ (t : Int) < (steps : Int) := by omega
          have hte : steps = t := by omega
          subst hte
          obtain ⟨ab, Fa, hAAe, _, _, _, _⟩ := HU.out.at_.row (by omega)
          subst hAAe
          obtain ⟨sb, Fs, hSAe, _, _, _, _⟩ := HU.out.sg.row (by omega)
          subst hSAe
          have hszw : w2.heap.size ≤ wp.heap.size := HU.out.bel.size
          have HBW : Hid (BT wp wp bb w2.heap.size n n K 0 F1 F1 (rrU st tc K sc ac T (some ⟨sb, 0, none⟩) (some ⟨ab, 0, none⟩))) := Lib.hid (BT.refl HU.out.bs)
          go_wp2_with fail
          go_loopw [13, 88] (fun s13 s88 wr => ∃ (t n2 : Nat) (F2 : Nat → Int) (A2 : Option Addr) (c2 : Nat) (Lf : Nat → Int), t ≤ K ∧ s88 = .int .i64 (t : Nat) ∧ s13 = .slice A2 t c2 ∧ Hid (BT wp wr bb w2.heap.size n n2 K t F1 F2 (rrU st tc K sc ac T (some ⟨sb, 0, none⟩) (some ⟨ab, 0, none⟩))) ∧ Hid (Own wr wp.heap.size 3 1 A2 t c2 t (fun q => .int .i64 (Lf q))) ∧ Hid (∀ q, q < t → (-1 ≤ Lf q ∧ Lf q < n2) ∧ ∀ g, vx F2 g (Lf q) = (vx F1 g (At q st) && vx F1 g (Sg q)))) (fun _ s88 _ => K - (intOf s88).toNat)
          case atStart => exact ⟨0, n, F1, none, 0, fun _ => 0, Nat.zero_le _, rfl, rfl, HBW, Lib.hid (Own.nil _ _ _ _ _), Lib.hid fun q hq => absurd hq (by omega)⟩
          case round =>
            clear HBW
            obtain ⟨wo, hwo⟩ : ∃ wo : World, wo = wr := ⟨_, rfl⟩
            subst hwo
            obtain ⟨t, n2, F2, A2, c2, Lf, ht2, rfl, rfl, HB, HO, HLV⟩ := hrel
            have hn2 := And.intro HB.out.le HB.out.le2
            by_cases hlt2 : t < K
            · have htI2 : (t : Int) < (K : Int) := by omega
              obtain ⟨x0, hx0e⟩ : ∃ z, z = At t st := ⟨_, rfl⟩
              obtain ⟨s, hse⟩ : ∃ z, z = Sg t := ⟨_, rfl⟩
              obtain ⟨rc, hrce⟩ : ∃ z, z = Rc t := ⟨_, rfl⟩
              have hx0 : -1 ≤ x0 ∧ x0 < n := by rw [hx0e]; exact HU.out.av t hlt2 st (Nat.le_refl _)
              have hs0 : -1 ≤ s ∧ s < n := by rw [hse]; exact HU.out.sv t hlt2
              obtain ⟨_, _, e1, lab, k1⟩ := (HB.out.own HU.out.bs HU.out.at_ rowI_G rowI_B).rd.at_ hlt2
              injection e1 with e1; injection e1 with e1 e2; subst e1 e2
              obtain ⟨rb, ro, hRA, lrb, k2⟩ := (HB.out.own HU.out.bs (HU.out.rw_ t hlt2) intG intB).rd.at_ (show st < st + 1 by omega)
              obtain ⟨_, _, e1, lsb, k5⟩ := (HB.out.own HU.out.bs HU.out.sg intG intB).rd.at_ hlt2
              injection e1 with e1; injection e1 with e1 e2; subst e1 e2
              rw [Nat.zero_add] at k1 k5
              rw [hRA, ← hrce] at k1
              rw [← hx0e] at k2
              rw [← hse] at k5
              have k0 := HB.out.bs.cell (j := 6) (by omega) (by omega)
              change _ = some (Value.slice (some ⟨ab, 0, none⟩) K ac) at k0
              have k4 := HB.out.bs.cell (j := 5) (by omega) (by omega)
              change _ = some (Value.slice (some ⟨sb, 0, none⟩) K sc) at k4
              have k3 := ((HU.out.bel.trans HB.out.bel).cell (p := ⟨w.heap.size, 0, none⟩) HN0.out.1).trans HN0.out.2
              have HS0 : Hid (wo.drew.cell? ⟨bb, 6, none⟩ = some (.slice (some ⟨ab, 0, none⟩) K ac) ∧ wo.drew.cell? ⟨ab, t, none⟩ = some (.slice (some ⟨rb, ro, none⟩) (st + 1) rc) ∧ wo.drew.cell? ⟨rb, ro + st, none⟩ = some (.int .i64 x0) ∧ wo.drew.cell? ⟨w.heap.size, 0, none⟩ = some (.int .i64 (st : Nat)) ∧ wo.drew.cell? ⟨bb, 5, none⟩ = some (.slice (some ⟨sb, 0, none⟩) K sc) ∧ wo.drew.cell? ⟨sb, t, none⟩ = some (.int .i64 s)) := Lib.hid ⟨k0, k1, k2, k3, k4, k5⟩
              have HXE := Lib.hid (And.intro hx0e hse)
              have hszo : w2.heap.size ≤ wo.heap.size := (HU.out.bel.trans HB.out.bel).size
              have HBd := Lib.hid (HB.out.below (Below.refl wo.heap.size wo).drew hszo)
              have hst1 : (st : Int) < (st : Int) + 1 := by omega
              have hstS : (st : Int) < (S : Int) := by have := HSS.out; omega
              have hn5k : n ≤ 5000 := by omega
              clear k0 k1 k2 k3 k4 k5 hx0e hse hrce hRA lab lrb lsb
              go_wp2_with fail
              refine wp_region_any (by kernel_rfl) ?_
              change wpAny _ _ _ _ _ _ _ (World.drew _)
              refine any_of_T (S := fun W' => W'.cell? ⟨bb, 6, none⟩ = some (.slice (some ⟨ab, 0, none⟩) K ac) ∧ W'.cell? ⟨ab, t, none⟩ = some (.slice (some ⟨rb, ro, none⟩) (st + 1) rc) ∧ W'.cell? ⟨rb, ro + st, none⟩ = some (.int .i64 x0) ∧ W'.cell? ⟨w.heap.size, 0, none⟩ = some (.int .i64 (st : Nat)) ∧ W'.cell? ⟨bb, 5, none⟩ = some (.slice (some ⟨sb, 0, none⟩) K sc) ∧ W'.cell? ⟨sb, t, none⟩ = some (.int .i64 s)) (c := 20) _ _ _ _ ?_
              refine anyT_takeY (i := 0) (v := ?_) rfl (by decide +kernel) (by decide +kernel) (by decide +kernel) (by decide +kernel) (fun _ _ _ h => h) (Or.inl ⟨by rfl, ?_⟩) HS0.out ?_
              rotate_left 1
              · intro w _; go_simp; with_reducible rfl
              simp only [Act.put, List.getElem_toArray, List.getElem_cons_zero, List.getElem_cons_succ, List.setIfInBounds_toArray, List.set_cons_zero, List.set_cons_succ]
              refine anyT_takeY (i := 1) (v := ?_) rfl (by decide +kernel) (by decide +kernel) (by decide +kernel) (by decide +kernel) (fun _ _ _ h => h) (Or.inl ⟨by rfl, ?_⟩) HS0.out ?_
              rotate_left 1
              · intro w _; go_simp; with_reducible rfl
              simp only [Act.put, List.getElem_toArray, List.getElem_cons_zero, List.getElem_cons_succ, List.setIfInBounds_toArray, List.set_cons_zero, List.set_cons_succ]
              refine anyT_takeY (i := 2) (v := ?_) rfl (by decide +kernel) (by decide +kernel) (by decide +kernel) (by decide +kernel) (fun _ _ _ h => h) (Or.inl ⟨by rfl, ?_⟩) HS0.out ?_
              rotate_left 1
              · intro w _; go_simp; with_reducible rfl
              simp only [Act.put, List.getElem_toArray, List.getElem_cons_zero, List.getElem_cons_succ, List.setIfInBounds_toArray, List.set_cons_zero, List.set_cons_succ]
              refine anyT_takeY (i := 3) (v := ?_) rfl (by decide +kernel) (by decide +kernel) (by decide +kernel) (by decide +kernel) (fun _ _ _ h => h) (Or.inl ⟨by rfl, ?_⟩) HS0.out ?_
              rotate_left 1
              · intro w _; go_simp; with_reducible rfl
              simp only [Act.put, List.getElem_toArray, List.getElem_cons_zero, List.getElem_cons_succ, List.setIfInBounds_toArray, List.set_cons_zero, List.set_cons_succ]
              refine anyT_takeY (i := 4) (v := ?_) rfl (by decide +kernel) (by decide +kernel) (by decide +kernel) (by decide +kernel) (fun _ _ _ h => h) (Or.inl ⟨by rfl, ?_⟩) HS0.out ?_
              rotate_left 1
              · intro w _; go_simp; with_reducible rfl
              simp only [Act.put, List.getElem_toArray, List.getElem_cons_zero, List.getElem_cons_succ, List.setIfInBounds_toArray, List.set_cons_zero, List.set_cons_succ]
              refine anyT_takeL [7, 8, 11, 12, 20] (i := 5) (v := ?_) rfl (by decide +kernel) (by decide +kernel) (by decide +kernel) (by decide +kernel) (by decide +kernel) (by decide +kernel) (fun _ _ _ h => h) (Or.inl ⟨by rfl, ?_⟩) HS0.out ?_
              rotate_left 1
              · intro w hS; obtain ⟨s0, s1, s2, s3, s4, s5⟩ := hS; go_simp; with_reducible rfl
              simp only [Act.put, List.getElem_toArray, List.getElem_cons_zero, List.getElem_cons_succ, List.setIfInBounds_toArray, List.set_cons_zero, List.set_cons_succ]
              refine anyT_takeY (i := 6) (v := ?_) rfl (by decide +kernel) (by decide +kernel) (by decide +kernel) (by decide +kernel) (fun _ _ _ h => h) (Or.inl ⟨by rfl, ?_⟩) HS0.out ?_
              rotate_left 1
              · intro w _; go_simp; with_reducible rfl
              simp only [Act.put, List.getElem_toArray, List.getElem_cons_zero, List.getElem_cons_succ, List.setIfInBounds_toArray, List.set_cons_zero, List.set_cons_succ]
              refine anyT_takeY (i := 7) (v := ?_) rfl (by decide +kernel) (by decide +kernel) (by decide +kernel) (by decide +kernel) (fun _ _ _ h => h) (Or.inl ⟨by rfl, ?_⟩) HS0.out ?_
              rotate_left 1
              · intro w _; go_simp; with_reducible rfl
              simp only [Act.put, List.getElem_toArray, List.getElem_cons_zero, List.getElem_cons_succ, List.setIfInBounds_toArray, List.set_cons_zero, List.set_cons_succ]
              refine anyT_takeL [11, 12, 20] (i := 8) (v := ?_) rfl (by decide +kernel) (by decide +kernel) (by decide +kernel) (by decide +kernel) (by decide +kernel) (by decide +kernel) (fun _ _ _ h => h) (Or.inl ⟨by rfl, ?_⟩) HS0.out ?_
              rotate_left 1
              · intro w hS; obtain ⟨s0, s1, s2, s3, s4, s5⟩ := hS; go_simp; with_reducible rfl
              simp only [Act.put, List.getElem_toArray, List.getElem_cons_zero, List.getElem_cons_succ, List.setIfInBounds_toArray, List.set_cons_zero, List.set_cons_succ]
              refine anyT_takeY (i := 9) (v := ?_) rfl (by decide +kernel) (by decide +kernel) (by decide +kernel) (by decide +kernel) (fun _ _ _ h => h) (Or.inl ⟨by rfl, ?_⟩) HS0.out ?_
              rotate_left 1
              · intro w _; go_simp; with_reducible rfl
              simp only [Act.put, List.getElem_toArray, List.getElem_cons_zero, List.getElem_cons_succ, List.setIfInBounds_toArray, List.set_cons_zero, List.set_cons_succ]
              refine anyT_takeL [11, 12, 20] (i := 10) (v := ?_) rfl (by decide +kernel) (by decide +kernel) (by decide +kernel) (by decide +kernel) (by decide +kernel) (by decide +kernel) (fun _ _ _ h => h) (Or.inl ⟨by rfl, ?_⟩) HS0.out ?_
              rotate_left 1
              · intro w hS; obtain ⟨s0, s1, s2, s3, s4, s5⟩ := hS; go_simp; with_reducible rfl
              simp only [Act.put, List.getElem_toArray, List.getElem_cons_zero, List.getElem_cons_succ, List.setIfInBounds_toArray, List.set_cons_zero, List.set_cons_succ]
              refine anyT_takeY (i := 11) (v := ?_) rfl (by decide +kernel) (by decide +kernel) (by decide +kernel) (by decide +kernel) (fun _ _ _ h => h) (Or.inl ⟨by rfl, ?_⟩) HS0.out ?_
              rotate_left 1
              · intro w _; go_simp; with_reducible rfl
              simp only [Act.put, List.getElem_toArray, List.getElem_cons_zero, List.getElem_cons_succ, List.setIfInBounds_toArray, List.set_cons_zero, List.set_cons_succ]
              refine anyT_takeL [20] (i := 12) (v := ?_) rfl (by decide +kernel) (by decide +kernel) (by decide +kernel) (by decide +kernel) (by decide +kernel) (by decide +kernel) (fun _ _ _ h => h) (Or.inl ⟨by rfl, ?_⟩) HS0.out ?_
              rotate_left 1
              · intro w hS; obtain ⟨s0, s1, s2, s3, s4, s5⟩ := hS; go_simp; with_reducible rfl
              simp only [Act.put, List.getElem_toArray, List.getElem_cons_zero, List.getElem_cons_succ, List.setIfInBounds_toArray, List.set_cons_zero, List.set_cons_succ]
              refine anyT_takeY (i := 13) (v := ?_) rfl (by decide +kernel) (by decide +kernel) (by decide +kernel) (by decide +kernel) (fun _ _ _ h => h) (Or.inl ⟨by rfl, ?_⟩) HS0.out ?_
              rotate_left 1
              · intro w _; go_simp; with_reducible rfl
              simp only [Act.put, List.getElem_toArray, List.getElem_cons_zero, List.getElem_cons_succ, List.setIfInBounds_toArray, List.set_cons_zero, List.set_cons_succ]
              refine anyT_takeY (i := 14) (v := ?_) rfl (by decide +kernel) (by decide +kernel) (by decide +kernel) (by decide +kernel) (fun _ _ _ h => h) (Or.inl ⟨by rfl, ?_⟩) HS0.out ?_
              rotate_left 1
              · intro w _; go_simp; with_reducible rfl
              simp only [Act.put, List.getElem_toArray, List.getElem_cons_zero, List.getElem_cons_succ, List.setIfInBounds_toArray, List.set_cons_zero, List.set_cons_succ]
              refine anyT_takeY (i := 15) (v := ?_) rfl (by decide +kernel) (by decide +kernel) (by decide +kernel) (by decide +kernel) (fun _ _ _ h => h) (Or.inl ⟨by rfl, ?_⟩) HS0.out ?_
              rotate_left 1
              · intro w _; go_simp; with_reducible rfl
              simp only [Act.put, List.getElem_toArray, List.getElem_cons_zero, List.getElem_cons_succ, List.setIfInBounds_toArray, List.set_cons_zero, List.set_cons_succ]
              refine anyT_takeL [18, 19, 20] (i := 16) (v := ?_) rfl (by decide +kernel) (by decide +kernel) (by decide +kernel) (by decide +kernel) (by decide +kernel) (by decide +kernel) (fun _ _ _ h => h) (Or.inl ⟨by rfl, ?_⟩) HS0.out ?_
              rotate_left 1
              · intro w hS; obtain ⟨s0, s1, s2, s3, s4, s5⟩ := hS; go_simp; with_reducible rfl
              simp only [Act.put, List.getElem_toArray, List.getElem_cons_zero, List.getElem_cons_succ, List.setIfInBounds_toArray, List.set_cons_zero, List.set_cons_succ]
              refine anyT_takeY (i := 17) (v := ?_) rfl (by decide +kernel) (by decide +kernel) (by decide +kernel) (by decide +kernel) (fun _ _ _ h => h) (Or.inl ⟨by rfl, ?_⟩) HS0.out ?_
              rotate_left 1
              · intro w _; go_simp; with_reducible rfl
              simp only [Act.put, List.getElem_toArray, List.getElem_cons_zero, List.getElem_cons_succ, List.setIfInBounds_toArray, List.set_cons_zero, List.set_cons_succ]
              refine anyT_takeY (i := 18) (v := ?_) rfl (by decide +kernel) (by decide +kernel) (by decide +kernel) (by decide +kernel) (fun _ _ _ h => h) (Or.inl ⟨by rfl, ?_⟩) HS0.out ?_
              rotate_left 1
              · intro w _; go_simp; with_reducible rfl
              simp only [Act.put, List.getElem_toArray, List.getElem_cons_zero, List.getElem_cons_succ, List.setIfInBounds_toArray, List.set_cons_zero, List.set_cons_succ]
              refine anyT_takeL [20] (i := 19) (v := ?_) rfl (by decide +kernel) (by decide +kernel) (by decide +kernel) (by decide +kernel) (by decide +kernel) (by decide +kernel) (fun _ _ _ h => h) (Or.inl ⟨by rfl, ?_⟩) HS0.out ?_
              rotate_left 1
              · intro w hS; obtain ⟨s0, s1, s2, s3, s4, s5⟩ := hS; go_simp; with_reducible rfl
              simp only [Act.put, List.getElem_toArray, List.getElem_cons_zero, List.getElem_cons_succ, List.setIfInBounds_toArray, List.set_cons_zero, List.set_cons_succ]
              refine anyT_one (i := 20) (by decide +kernel) rfl (fun KK hK => ?_)
              go_simp
              go_at_call 17
              refine (both_any HBd.out.bs (by omega) (by omega) x0 s ⟨hx0.1, by omega⟩ ⟨hs0.1, by omega⟩).mono ?_
              rintro e w5 ⟨y, n5, F5, rfl, hbt, hyb, hyv⟩
              have HB5 := Lib.hid (HBd.out.trans hbt)
              have HO5 := Lib.hid (hbt.own HBd.out.bs (HO.out.below (Below.refl wo.heap.size wo).drew) intG intB)
              have hn5 := And.intro hbt.le hbt.le2
              have HV5 : Hid (∀ g, vx F5 g y = (vx F1 g x0 && vx F1 g s)) := Lib.hid fun g => by
                rw [hyv g]
                show (vx F2 g x0 && vx F2 g s) = _
                rw [HB.out.vx g hx0.2, HB.out.vx g hs0.2]
              have HEXT : Hid (∀ g q, q < t → vx F5 g (Lf q) = vx F2 g (Lf q)) := Lib.hid fun g q hq => hbt.vx g (HLV.out q hq).1.2
              clear hbt hyv HBd HS0 HB HO
              try go_simp
              refine hK.out _ _ (fun h => absurd h (by decide +kernel)) ?_
              clear hK KK
              try simp only [Act.put, List.getElem_toArray, List.getElem_cons_zero, List.getElem_cons_succ, List.setIfInBounds_toArray, List.set_cons_zero, List.set_cons_succ]
              refine anyT_one (i := 21) (by decide +kernel) rfl (fun KK hK => ?_)
              go_simp
              refine hK.out _ _ (fun h => absurd h (by decide +kernel)) ?_
              clear hK KK
              try simp only [Act.put, List.getElem_toArray, List.getElem_cons_zero, List.getElem_cons_succ, List.setIfInBounds_toArray, List.set_cons_zero, List.set_cons_succ]
              refine anyT_one (i := 22) (by decide +kernel) rfl (fun KK hK => ?_)
              have HB6 := Lib.hid (HB5.out.below ((Below.refl w5.heap.size w5).alloc (Nat.le_refl _) (.cells #[.int .i64 y] 3)) (by have := HB5.out.bel.size; omega))
              have HO6 := Lib.hid (HO5.out.alloc (.cells #[.int .i64 y] 3))
              have hsz6 : wp.heap.size ≤ (w5.alloc (.cells #[.int .i64 y] 3)).heap.size := by have := HB5.out.bel.size; simp; omega
              refine step_app _ rfl (.tmp 91) (.tmp 112) 49 rfl EIu rfl HO6.out rfl (l := 1) rfl (Rd.one _ (.int .i64 y) _) (fun _ _ => rfl) (by unfold maxLen; omega) (by omega) hsz6 (t + 1) (t + 1) rfl rfl ?_
              intro A8 c8 w8 hown hg8 hat8 hb8
              have HB8 := Lib.hid ((HB6.out.grown hg8 (by omega) (fun g hg => by
                obtain ⟨cur, hc⟩ := HO6.out.objG g hg
                exact ⟨(HO6.out.lt g hg).1, cur, _, hc⟩) intG intB).more (show t + 1 ≤ t + 1 by omega))
              have HO8 : Hid (Own w8 wp.heap.size 3 1 A8 (t + 1) c8 (t + 1) (fun q => .int .i64 (snoc Lf t y q))) := Lib.hid (hown.congr fun q hq => by unfold cat snoc; split <;> rfl)
              clear hown hg8 hat8 hb8 HB5 HO5 HB6 HO6
              refine hK.out _ _ (fun h => absurd h (by decide +kernel)) ?_
              clear hK KK
              try simp only [Act.put, List.getElem_toArray, List.getElem_cons_zero, List.getElem_cons_succ, List.setIfInBounds_toArray, List.set_cons_zero, List.set_cons_succ]
              refine anyT_one (i := 23) (by decide +kernel) rfl (fun KK hK => ?_)
              go_simp
              refine hK.out _ _ (fun h => absurd h (by decide +kernel)) ?_
              clear hK KK
              try simp only [Act.put, List.getElem_toArray, List.getElem_cons_zero, List.getElem_cons_succ, List.setIfInBounds_toArray, List.set_cons_zero, List.set_cons_succ]
              refine T_of_any _ _ _ _ (by decide +kernel) ?_
              refine wpAny_done (by decide +kernel) ?_ _
              go_wp2_with fail
              go_roundw
              case rel => exact ⟨t + 1, n5, F5, A8, c8, snoc Lf t y, by omega, by go_num, rfl, HB8, HO8, Lib.hid fun q hq => by
                unfold snoc
                by_cases e : q < t
                · rw [if_pos e]
                  have := (HLV.out q e)
                  exact ⟨by omega, fun g => by rw [HEXT.out g q e]; exact this.2 g⟩
                · rw [if_neg e]
                  obtain rfl : q = t := by omega
                  exact ⟨hyb, fun g => by rw [HV5.out g, ← HXE.out.1, ← HXE.out.2]⟩⟩
              case measure => simp [intOf]; omega
            · have htI2 : ¬ (t : Int) < (K : Int) := by omega
              have hte : K = t := by omega
              subst hte
              have HANS : Hid (∀ g, orV F2 g Lf K = ansU st R K g steps) := Lib.hid fun g => orV_ans (by omega) HG.out fun q hq => by
                rw [(HLV.out q hq).2 g, Bool.and_eq_true, ((HSU.out g q hq).2 st (Nat.le_refl _)), (HSU.out g q hq).1]
              have HAL2 : Hid (∀ g, vx F2 g (al : Nat) = true) := Lib.hid fun g => by rw [HB.out.vx g (by omega)]; exact HAL.out g
              have hn5k : n ≤ 5000 := by omega
              go_wp2_with fail
              refine (some_any HB.out.bs (by omega) (by omega) A2 K c2 _ Lf HO.out (by omega) (fun q hq => (HLV.out q hq).1)).mono ?_
              rintro e w10 ⟨z, n3, F3, rfl, hbt, hz, hv⟩
              have HB3 := Lib.hid (HB.out.trans hbt)
              have HANS3 : Hid (∀ g, vx F3 g z = ansU st R K g steps) := Lib.hid fun g => by rw [hv g]; exact HANS.out g
              have HAL3 : Hid (∀ g, vx F3 g (al : Nat) = true) := Lib.hid fun g => by rw [hbt.vx g (by omega)]; exact HAL2.out g
              have hn3 := And.intro hbt.le hbt.le2
              clear hbt hv HB HO HLV HANS HAL2 HSU HAL
              by_cases hz0 : z < 0
              · go_wp2_with fail
                refine (put_b HB3.out.bs (by omega) (by omega) 2 (al : Nat) 0 (by omega) (by omega) (by omega) (by omega) (by omega)).mono ?_
                rintro e w11 ⟨i, n4, F4, rfl, hbt, hi, hv⟩
                have HB4 := Lib.hid ((HB3.out.trans hbt).more (show _ ≤ 20 by omega))
                have HVF : Hid (∀ g, val F4 g i = ansU st R K g steps) := Lib.hid fun g => by rw [(hv g).2.1 rfl, HAL3.out g, ← HANS3.out g, vx_neg hz0]; rfl
                have hn4 : n4 ≤ 6000 := by have := hbt.le2; omega
                clear hbt hv HB3 HANS3 HAL3
                obtain ⟨AG, cG, MG, RG, hmG, _⟩ := HB4.out.bs.mker
                obtain ⟨g, R0, rfl, hgb, hrow, hmc, _⟩ := (show Own w11 w2.heap.size 59 3 AG n4 cG (n4 * 3) _ from hmG.own).rowSG (by omega)
                have hcm := hmG.own.le.2
                have c0 : w11.cell? ⟨bb, 0, none⟩ = some (.slice (some ⟨g, 0, none⟩) n4 cG) := by rw [hmG.row.cell (by omega), hmG.r0]
                have hrd := hmG.own.rd.le (m := (i + 1) * 3) (by omega)
                have hcl := cloneG_any (some ⟨g, 0, none⟩) (i + 1) cG F4 w11 hrd (by omega)
                have HCL := Lib.hid hcl
                have HBF := Lib.hid (HB2.out.trans ((HU.out.bel.trans HB4.out.bel).mono HB2.out.size))
                have HGW := Lib.hid HB4.out.bs.gw
                unfold maxLen at hcm
                clear hcl hrd hrow hmG HB4 HU
                go_wp2_with fail
                refine HCL.out.mono ?_
                rintro e w12 ⟨A5, c5, rfl, hown5, hb5⟩
                have HO5 := Lib.hid hown5
                have HB5 := Lib.hid hb5
                clear hown5 hb5 HCL
                go_wp2_with fail
                go_ret2
                exact ⟨A5, i + 1, c5, F4, rfl, HO5.out.rd, fun j hj => HGW.out j (by omega), by omega, fun g => by rw [Nat.add_sub_cancel]; exact HVF.out g, HBF.out.trans (HB5.out.mono HBF.out.size)⟩
              · obtain ⟨i, rfl⟩ := Int.eq_ofNat_of_zero_le (show 0 ≤ z by omega)
                have HB4 := Lib.hid (HB3.out.more (show _ ≤ 20 by omega))
                have HVF : Hid (∀ g, val F3 g i = ansU st R K g steps) := Lib.hid fun g => by rw [← HANS3.out g, vx_nat]
                have hn4 : n3 ≤ 6000 := by omega
                have hi : i < n3 := by omega
                obtain ⟨n4, F4, w11, hn4e, hF4e, hw11e⟩ : ∃ (x : Nat) (y : Nat → Int) (z : World), x = n3 ∧ y = F3 ∧ z = w10 := ⟨_, _, _, rfl, rfl, rfl⟩
                subst hn4e hF4e hw11e
                clear HB3 HANS3 HAL3
                obtain ⟨AG, cG, MG, RG, hmG, _⟩ := HB4.out.bs.mker
                obtain ⟨g, R0, rfl, hgb, hrow, hmc, _⟩ := (show Own w11 w2.heap.size 59 3 AG n4 cG (n4 * 3) _ from hmG.own).rowSG (by omega)
                have hcm := hmG.own.le.2
                have c0 : w11.cell? ⟨bb, 0, none⟩ = some (.slice (some ⟨g, 0, none⟩) n4 cG) := by rw [hmG.row.cell (by omega), hmG.r0]
                have hrd := hmG.own.rd.le (m := (i + 1) * 3) (by omega)
                have hcl := cloneG_any (some ⟨g, 0, none⟩) (i + 1) cG F4 w11 hrd (by omega)
                have HCL := Lib.hid hcl
                have HBF := Lib.hid (HB2.out.trans ((HU.out.bel.trans HB4.out.bel).mono HB2.out.size))
                have HGW := Lib.hid HB4.out.bs.gw
                unfold maxLen at hcm
                clear hcl hrd hrow hmG HB4 HU
                go_wp2_with fail
                refine HCL.out.mono ?_
                rintro e w12 ⟨A5, c5, rfl, hown5, hb5⟩
                have HO5 := Lib.hid hown5
                have HB5 := Lib.hid hb5
                clear hown5 hb5 HCL
                go_wp2_with fail
                go_ret2
                exact ⟨A5, i + 1, c5, F4, rfl, HO5.out.rd, fun j hj => HGW.out j (by omega), by omega, fun g => by rw [Nat.add_sub_cancel]; exact HVF.out g, HBF.out.trans (HB5.out.mono HBF.out.size)⟩
end Go.Proofs.Ytklhbmlcpjlgiaa
