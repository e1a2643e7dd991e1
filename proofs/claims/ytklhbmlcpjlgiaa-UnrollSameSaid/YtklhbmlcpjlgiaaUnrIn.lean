/- How the builder is begun: its signs and places, one after the other. No condition. -/
import Derived.Test.YtklhbmlcpjlgiaaUnrUB
import Derived.Test.YtklhbmlcpjlgiaaRow
namespace Go.Proofs.Ytklhbmlcpjlgiaa
open Go.ChangeShapes Go.WideShapes Go.ChangeAt Go.RowKit Go.Maps
set_option linter.unusedVariables false
set_option linter.unusedSimpArgs false
theorem EIIu : Elem Try.prog 50 49 1 24 := Elem.of Try.underlying50 (by kernel_rfl : (Try.prog.info? 49).map (fun i => (i.zero, i.size, i.bytes)) = some (some (.slice none 0 0), 1, 24)) rfl (by omega)
theorem below_grown {base : Nat} {w W W' : World} {row : Option Nat} (hb : Below base w W) (h0 : base ≤ w.heap.size) (hg : W.grownBy W' row) (hr : ∀ g, row = some g → base ≤ g) : Below base w W' :=
  ⟨hg.os.trans hb.os, hg.tape.trans hb.tape, hg.output.trans hb.output, Nat.le_trans hb.size hg.size, fun g hlt => (hg.block g (Nat.lt_of_lt_of_le (Nat.lt_of_lt_of_le hlt h0) hb.size) fun e => by have := hr g e.symm; omega).trans (hb.block g hlt)⟩
theorem BS.grown {W W' : World} {bb base n K : Nat} {F : Nat → Int} {RR : Nat → Value} {row : Option Nat} {e : TypeId} (h : BS W bb base n K F RR) (hg : W.grownBy W' row) (hr : ∀ g, row = some g → ∃ cur z, W.heap[g]? = some (.cells cur e z)) (he : e ≠ 59) (he2 : e ≠ 52) : BS W' bb base n K F RR := by
  obtain ⟨A, c, M, R, hm, hR⟩ := h.mker
  refine ⟨⟨A, c, M, R, ⟨hm.row.of_block (hg.block bb hm.row.lt fun e' => ?_), hm.two, hm.typ, hm.ge, hm.r0, hm.r1, hm.own.kept hg fun g hg' e' => ?_, fun b hb => ?_⟩, hR⟩, h.gw⟩
  · obtain ⟨cur, z, hc⟩ := hr bb e'.symm
    obtain ⟨cs, h1, _⟩ := hm.row
    rw [h1] at hc; cases hc; exact he2 rfl
  · obtain ⟨cur, z, hc⟩ := hr g e'.symm
    obtain ⟨cur', hc'⟩ := hm.own.objG g hg'
    rw [hc] at hc'; cases hc'; exact he rfl
  · obtain ⟨h1, m, h2, h3⟩ := hm.map b hb
    refine ⟨h1, m, h2, h3.kept hg fun e' => ?_⟩
    obtain ⟨cur, z, hc⟩ := hr b e'.symm
    obtain ⟨es, cl, ho⟩ := h3.obj
    rw [ho] at hc; cases hc
/-- rows of two types lie apart -/
theorem Own.apart {W : World} {B B' s s' : Nat} {e e' : TypeId} {A A' : Option Addr} {m c k m' c' k' : Nat} {C C' : Nat → Value} (h : Own W B e s A m c k C) (h' : Own W B' e' s' A' m' c' k' C') (hne : e ≠ e') : ∀ g, (Value.slice A m c).ownBlock = some g → some g ≠ (Value.slice A' m' c').ownBlock := fun g hg e2 => by
  obtain ⟨c1, h1⟩ := h.objG g hg
  obtain ⟨c2, h2⟩ := h'.objG g e2.symm
  rw [h1] at h2
  cases h2
  exact hne rfl
section
variable {W W' : World} {B T : Nat} {A : Nat → Option Addr} {cc M : Nat → Nat} {L : Nat → Nat → Int}
/-- list i is a new row -/
theorem Fam.put {i g n : Nat} {l : Nat → Int} (h : Fam W B T A cc M L) (hb : Below W.heap.size W W') (hB : B ≤ W.heap.size) (hg : W.heap.size ≤ g) (hr : W'.rowIs g 3 n (fun q => .int .i64 (l q))) (hn : n ≤ maxLen) : Fam W' B T (up A i (some ⟨g, 0, none⟩)) (up cc i n) (up M i n) (up L i l) := by
  have hown : Own W' B 3 1 (some ⟨g, 0, none⟩) n n n (fun q => .int .i64 (l q)) := by
    have h1 := Own.ofRow (s := 1) (n := n) (c := n) (base := B) (C := fun q => .int .i64 (l q)) (by rw [Nat.mul_one]; exact hr) (by omega) (Nat.le_refl _) hn (fun _ _ => rfl)
    rw [Nat.mul_one] at h1
    exact h1
  have hob : (Value.slice (some ⟨g, 0, none⟩) n n).ownBlock = some g := by
    rcases hown.1.2 with ⟨hv, _⟩ | ⟨g', cap, cur, hv, _⟩
    · cases hv
    · cases hv; rfl
  refine ⟨fun j hj => ?_, fun j k hj hk hne g' hg' => ?_⟩
  · by_cases e : j = i
    · subst e; rw [up_same, up_same, up_same, up_same]; exact hown
    · rw [up_other _ _ e, up_other _ _ e, up_other _ _ e, up_other _ _ e]
      exact (h.own j hj).below hb
  · by_cases e : j = i
    · subst e
      rw [up_same, up_same, up_same, hob] at hg'
      obtain rfl : g = g' := Option.some.inj hg'
      have e2 : k ≠ j := fun e => hne e.symm
      rw [up_other _ _ e2, up_other _ _ e2, up_other _ _ e2]
      intro e3
      have := ((h.own k hk).lt _ e3).2
      omega
    · rw [up_other _ _ e, up_other _ _ e, up_other _ _ e] at hg'
      by_cases e2 : k = i
      · subst e2
        rw [up_same, up_same, up_same, hob]
        intro e3
        obtain rfl : g = g' := Option.some.inj e3
        have := ((h.own j hj).lt _ hg').2
        omega
      · rw [up_other _ _ e2, up_other _ _ e2, up_other _ _ e2]
        exact h.sep j k hj hk hne g' hg'
end
def rrV (st tc s t sc ac : Nat) (T SA AA : Option Addr) (j : Nat) : Value := match j with | 2 => .int .i64 (st : Nat) | 3 => .int .i64 2 | 4 => .slice T st tc | 5 => .slice SA s sc | _ => .slice AA t ac
/-- s signs and t places -/
structure UI (w W : World) (bb s t n K st tc : Nat) (T : Option Addr) (F : Nat → Int) (SA AA : Option Addr) (sc ac : Nat) (A : Nat → Option Addr) (cc M : Nat → Nat) (L : Nat → Nat → Int) : Prop where
  bs : BS W bb w.heap.size n K F (rrV st tc s t sc ac T SA AA)
  fam : Fam W w.heap.size (K + 1) A cc M L
  lk : A K = SA ∧ M K = s ∧ cc K = sc
  at_ : Own W w.heap.size 49 1 AA t ac t (fun c => .slice (A c) (st + 1) (cc c))
  rw_ : ∀ c, c < t → M c = st + 1 ∧ cc c = st + 1 ∧ (∃ g, A c = some ⟨g, 0, none⟩) ∧ ∀ q, L c q = -1
  bel : Below w.heap.size w W
  sv : ∀ c, c < s → -1 ≤ L K c ∧ L K c < n
  sem : ∀ g c, c < s → vx F g (L K c) = g c
  tK : t ≤ K
section
variable {w W W' : World} {bb s t n K st tc : Nat} {T : Option Addr} {F : Nat → Int} {SA AA : Option Addr} {sc ac : Nat} {A : Nat → Option Addr} {cc M : Nat → Nat} {L : Nat → Nat → Int}
theorem UI.put {n' d : Nat} {F' : Nat → Int} (h : UI w W bb s t n K st tc T F SA AA sc ac A cc M L) (k : BT W W' bb w.heap.size n n' K d F F' (rrV st tc s t sc ac T SA AA)) : UI w W' bb s t n' K st tc T F' SA AA sc ac A cc M L :=
  ⟨k.bs, h.fam.bt h.bs k, h.lk, k.own h.bs h.at_ rowI_G rowI_B, h.rw_, h.bel.trans k.bel, fun c hc => by have := h.sv c hc; have := k.le; omega, fun g c hc => by rw [k.vx g (h.sv c hc).2]; exact h.sem g c hc, h.tK⟩
theorem UI.below (h : UI w W bb s t n K st tc T F SA AA sc ac A cc M L) (hb : Below W.heap.size W W') : UI w W' bb s t n K st tc T F SA AA sc ac A cc M L :=
  ⟨h.bs.below hb, h.fam.below hb, h.lk, h.at_.below hb, h.rw_, h.bel.trans (hb.mono h.bel.size), h.sv, h.sem, h.tK⟩
/-- a sign more -/
theorem UI.appS {A2 : Option Addr} {c2 : Nat} {x : Int} (h : UI w W bb s t n K st tc T F SA AA sc ac A cc M L)
    (hown2 : Own W' w.heap.size 3 1 A2 (s + 1) c2 (s + 1) (cat s (fun j => .int .i64 (L K j)) (fun _ => .int .i64 x)))
    (hg2 : W.grownBy W' (Value.slice SA s sc).ownBlock) (hat2 : (Value.slice A2 (s + 1) c2).ownBlock = (Value.slice SA s sc).ownBlock ∨ (Value.slice A2 (s + 1) c2).ownBlock = some W.heap.size)
    (hx : -1 ≤ x ∧ x < n) (hv : ∀ g, vx F g x = g s) :
    UI w (W'.setCell ⟨bb, 5, none⟩ (.slice A2 (s + 1) c2)) bb (s + 1) t n K st tc T F A2 AA c2 ac (up A K A2) (up cc K c2) (up M K (s + 1)) (up L K (snoc (L K) s x)) := by
  obtain ⟨rfl, rfl, rfl⟩ := h.lk
  have hoK := h.fam.own K (by omega)
  have hbs : BS W' bb w.heap.size n K F (rrV st tc (M K) t (cc K) ac T (A K) AA) := h.bs.grown hg2 (fun g hg => by
    obtain ⟨cur, hc⟩ := hoK.objG g hg
    exact ⟨cur, _, hc⟩) intG intB
  have hgs := grown_setG W' bb 5 (.slice A2 (M K + 1) c2)
  obtain ⟨Am, cm, Mm, Rm, hmk, _⟩ := hbs.mker
  obtain ⟨cs, hcs, _⟩ := hmk.row
  refine ⟨(hbs.set (j := 5) (by omega) (by omega) _).re fun j h2 h7 => ?_, (h.fam.app (by omega) hown2 hg2 hat2).other hgs hcs (fun e => intB e.symm), ⟨up_same _ _ _, up_same _ _ _, up_same _ _ _⟩, ((h.at_.kept hg2 (h.at_.apart hoK rowI_ne)).congr fun c hc => ?_).set_bb hbs rowI_B, fun c hc => ?_, (below_grown h.bel (Nat.le_refl _) hg2 fun g hg => (hoK.lt g hg).1).setCell hmk.ge _, fun c hc => ?_, fun g c hc => ?_, h.tK⟩
  · have hj : j = 2 ∨ j = 3 ∨ j = 4 ∨ j = 5 ∨ j = 6 := by omega
    rcases hj with rfl | rfl | rfl | rfl | rfl <;> rfl
  · have e : c ≠ K := by have := h.tK; omega
    show Value.slice (A c) (st + 1) (cc c) = Value.slice (up A K A2 c) (st + 1) (up cc K c2 c)
    rw [up_other _ _ e, up_other _ _ e]
  · have e : c ≠ K := by have := h.tK; omega
    rw [up_other _ _ e, up_other _ _ e, up_other _ _ e, up_other _ _ e]
    exact h.rw_ c hc
  · rw [up_same]
    unfold snoc
    split
    · exact h.sv c (by assumption)
    · exact hx
  · rw [up_same]
    unfold snoc
    split
    · exact h.sem g c (by assumption)
    · have e : c = M K := by omega
      rw [e]; exact hv g
/-- a new row -/
theorem UI.row {g : Nat} (h : UI w W bb s t n K st tc T F SA AA sc ac A cc M L) (hb : Below W.heap.size W W') (ht : t < K) (hg : W.heap.size ≤ g) (hr : W'.rowIs g 3 (st + 1) (fun _ => .int .i64 (-1))) (hst : st ≤ 5) :
    UI w W' bb s t n K st tc T F SA AA sc ac (up A t (some ⟨g, 0, none⟩)) (up cc t (st + 1)) (up M t (st + 1)) (up L t (fun _ => -1)) := by
  have e : K ≠ t := by omega
  have h2 := h.below hb
  refine ⟨h2.bs, h.fam.put (l := fun _ => -1) hb h.bel.size hg hr (by unfold maxLen; omega), ?_, h2.at_.congr fun c hc => ?_, fun c hc => ?_, h2.bel, fun c hc => ?_, fun g c hc => ?_, h.tK⟩
  · rw [up_other _ _ e, up_other _ _ e, up_other _ _ e]; exact h.lk
  · have e2 : c ≠ t := by omega
    rw [up_other _ _ e2, up_other _ _ e2]
  · have e2 : c ≠ t := by omega
    rw [up_other _ _ e2, up_other _ _ e2, up_other _ _ e2, up_other _ _ e2]; exact h.rw_ c hc
  · rw [up_other _ _ e]; exact h.sv c hc
  · rw [up_other _ _ e]; exact h.sem g c hc
/-- and its header -/
theorem UI.appA {A2 : Option Addr} {c2 g : Nat} (h : UI w W bb s t n K st tc T F SA AA sc ac A cc M L) (ht : t < K) (hA : A t = some ⟨g, 0, none⟩) (hM : M t = st + 1) (hcc : cc t = st + 1) (hL : ∀ q, L t q = -1)
    (hown2 : Own W' w.heap.size 49 1 A2 (t + 1) c2 (t + 1) (cat t (fun c => .slice (A c) (st + 1) (cc c)) (fun _ => .slice (some ⟨g, 0, none⟩) (st + 1) (st + 1))))
    (hg2 : W.grownBy W' (Value.slice AA t ac).ownBlock) :
    UI w (W'.setCell ⟨bb, 6, none⟩ (.slice A2 (t + 1) c2)) bb s (t + 1) n K st tc T F SA A2 sc c2 A cc M L := by
  have hbs : BS W' bb w.heap.size n K F (rrV st tc s t sc ac T SA AA) := h.bs.grown hg2 (fun g hg => by
    obtain ⟨cur, hc⟩ := h.at_.objG g hg
    exact ⟨cur, _, hc⟩) rowI_G rowI_B
  have hgs := grown_setG W' bb 6 (.slice A2 (t + 1) c2)
  obtain ⟨Am, cm, Mm, Rm, hmk, _⟩ := hbs.mker
  obtain ⟨cs, hcs, _⟩ := hmk.row
  refine ⟨(hbs.set (j := 6) (by omega) (by omega) _).re fun j h2 h7 => ?_, Fam.other (h.fam.kept fun i hi g hg => hg2.block g ((h.fam.own i hi).lt g hg).2 fun e => (h.fam.own i hi).apart h.at_ (fun e => rowI_ne e.symm) g hg e) hgs hcs (fun e => intB e.symm), h.lk, (hown2.congr fun c hc => ?_).set_bb hbs rowI_B, fun c hc => ?_, (below_grown h.bel (Nat.le_refl _) hg2 fun g hg => (h.at_.lt g hg).1).setCell hmk.ge _, h.sv, h.sem, by omega⟩
  · have hj : j = 2 ∨ j = 3 ∨ j = 4 ∨ j = 5 ∨ j = 6 := by omega
    rcases hj with rfl | rfl | rfl | rfl | rfl <;> rfl
  · unfold cat
    split
    · rfl
    · have e : c = t := by omega
      subst e
      rw [hA, hcc]
  · by_cases e : c < t
    · exact h.rw_ c e
    · have e : c = t := by omega
      subst e
      exact ⟨hM, hcc, ⟨g, hA⟩, hL⟩
/-- where it is begun: cell 0, state 0 -/
theorem UI.done {x : Int} {g0 : Nat} {R : Nat → SI} (h : UI w W bb K K n K st tc T F SA AA sc ac A cc M L) (hK : 0 < K) (hA : A 0 = some ⟨g0, 0, none⟩) (hx : -1 ≤ x ∧ x < n) (hv : ∀ g, vx F g x = true) :
    UB w (W.setCell ⟨g0, 0, none⟩ (.int .i64 x)) bb n K st tc T F SA AA sc ac A cc (L K) (fun c q => if c = 0 ∧ q = 0 then x else -1) ∧ SemU F K st (L K) (fun c q => if c = 0 ∧ q = 0 then x else -1) (hhU st R K 0) (ssU st R K 0) (fU st R K 0) := by
  have hgs := grown_setG W g0 0 (.int .i64 x)
  obtain ⟨hlA, hlM, hlc⟩ := h.lk
  have ho0 := h.fam.own 0 (by omega)
  obtain ⟨e0, e1, _, e3⟩ := h.rw_ 0 hK
  have hob : (Value.slice (A 0) (M 0) (cc 0)).ownBlock = some g0 := by
    rcases ho0.1.2 with ⟨hv, _⟩ | ⟨g', cap, cur, hv, _⟩
    · rw [hA] at hv; cases hv
    · rw [hA] at hv ⊢; cases hv; rfl
  obtain ⟨cur, hcur⟩ := ho0.objG g0 hob
  have hge := (ho0.lt g0 hob).1
  have hbs := h.bs.grown hgs (fun g hg => by
    obtain rfl : g0 = g := Option.some.inj hg
    exact ⟨cur, _, hcur⟩) intG intB
  refine ⟨⟨hbs.re fun j h2 h7 => ?_, ?_, h.at_.kept hgs fun g hg e => ?_, fun c hc => ?_, fun c hc => h.sv c hc, fun c hc q hq => ?_, h.bel.setCell hge _⟩, fun g c hc => ⟨?_, fun q hq => ?_⟩⟩
  · have hj : j = 2 ∨ j = 3 ∨ j = 4 ∨ j = 5 ∨ j = 6 := by omega
    rcases hj with rfl | rfl | rfl | rfl | rfl <;> rfl
  · have := (h.fam.own K (by omega)).kept hgs fun g hg e => h.fam.sep K 0 (by omega) (by omega) (by omega) g hg (by rw [hob]; exact e.symm)
    rw [hlA, hlM, hlc] at this
    exact this
  · obtain ⟨c1, h1⟩ := h.at_.objG g hg
    obtain rfl : g = g0 := Option.some.inj e
    rw [hcur] at h1; cases h1
  · obtain ⟨f0, f1, f2, f3⟩ := h.rw_ c hc
    by_cases e : c = 0
    · subst e
      rw [f0, f1] at ho0
      obtain ⟨g1, F1, hA1, _, hr1, _, hF1⟩ := ho0.row (by omega)
      rw [hA] at hA1
      injection hA1 with hA1
      injection hA1 with hA1
      subst hA1
      have h1 := Own.ofRow (s := 1) (n := st + 1) (c := st + 1) (base := w.heap.size) (C := fun q => Value.int .i64 (if (0 : Nat) = 0 ∧ q = 0 then x else -1)) (by rw [Nat.mul_one]; exact hr1.set 0 (.int .i64 x)) hge (Nat.le_refl _) ho0.2 (fun q hq => by
        by_cases e : q = 0
        · subst e; rw [if_pos rfl, if_pos ⟨rfl, rfl⟩]
        · rw [if_neg e, if_neg fun h => e h.2, hF1 q (by omega), f3 q])
      rw [Nat.mul_one] at h1
      rw [hA, f1]
      exact h1
    · have := (h.fam.own c (by omega)).kept hgs fun g hg e2 => h.fam.sep c 0 (by omega) (by omega) e g hg (by rw [hob]; exact e2.symm)
      rw [f0] at this
      exact this.congr fun q hq => by
        show Value.int .i64 (L c q) = Value.int .i64 (if c = 0 ∧ q = 0 then x else -1)
        rw [f3 q, if_neg fun h => e h.1]
  · show -1 ≤ (if c = 0 ∧ q = 0 then x else -1) ∧ (if c = 0 ∧ q = 0 then x else -1) < (n : Int)
    split
    · exact hx
    · omega
  · rw [h.sem g c hc, fU_zero g c hc]
  · show vx F g (if c = 0 ∧ q = 0 then x else -1) = true ↔ hhU st R K 0 g = c ∧ ssU st R K 0 g = q
    rw [hhU_zero, ssU_zero]
    split
    · rename_i h1
      rw [hv g]
      constructor
      · intro _; exact ⟨h1.1.symm, h1.2.symm⟩
      · intro _; rfl
    · rename_i h1
      rw [vx_neg (by omega)]
      constructor
      · intro h2; cases h2
      · rintro ⟨h2, h3⟩; exact absurd ⟨h2.symm, h3.symm⟩ h1
end
end Go.Proofs.Ytklhbmlcpjlgiaa
