/- Rows that a closure appends to, and what the closure of cross.All does. Conditions: as each theorem states. -/
import Derived.Test.YtcbcbanknjhhhaaTapeTab
import Derived.Test.YtcbcbanknjhhhaaRow
import Derived.Test.YtcbcbanknjhhhaaGrow
namespace Go.Proofs.Ytcbcbanknjhhhaa
open Go.ChangeShapes Go.WideShapes Go.ChangeAt Go.RowKit Go.Maps
set_option linter.unusedVariables false
theorem EIx : Elem Try.prog 25 3 1 8 := Elem.of Try.underlying25 (by kernel_rfl : (Try.prog.info? 3).map (fun i => (i.zero, i.size, i.bytes)) = some (some (.int .i64 0), 1, 8)) rfl (by omega)
def lsV (l : List Int) (i : Nat) : Value := .int .i64 (l[i]?.getD 0)
/-- m rows from block G on, their header at p; each row is a list -/
structure Cr (W : World) (B p G m : Nat) (A : Nat → Option Addr) (c : Nat → Nat) (L : Nat → List Int) : Prop where
  hd : W.rowIs p 26 1 (fun _ => .slice (some ⟨G, 0, none⟩) m m)
  row : W.rowIs G 25 m (fun q => .slice (A q) (L q).length (c q))
  own : ∀ q, q < m → Own W B 3 1 (A q) (L q).length (c q) (L q).length (lsV (L q))
  hB : B ≤ p ∧ B ≤ G ∧ p ≠ G
  rp : ∀ q, q < m → ∀ g, (Value.slice (A q) (L q).length (c q)).ownBlock = some g → g ≠ p ∧ g ≠ G
  sep : ∀ q r, q < m → r < m → q ≠ r → ∀ g, (Value.slice (A q) (L q).length (c q)).ownBlock = some g → (Value.slice (A r) (L r).length (c r)).ownBlock ≠ some g
/-- a block that is none of theirs -/
def Ap (p G m : Nat) (A : Nat → Option Addr) (c : Nat → Nat) (L : Nat → List Int) (j : Nat) : Prop := j ≠ p ∧ j ≠ G ∧ ∀ q, q < m → (Value.slice (A q) (L q).length (c q)).ownBlock ≠ some j
/-- theirs stand while other blocks turn -/
theorem Cr.kept {W W' : World} {B p G m : Nat} {A : Nat → Option Addr} {c : Nat → Nat} {L : Nat → List Int} (h : Cr W B p G m A c L) (hk : ∀ j, j < W.heap.size → (j = p ∨ j = G ∨ ∃ q, q < m ∧ (Value.slice (A q) (L q).length (c q)).ownBlock = some j) → W'.heap[j]? = W.heap[j]?) : Cr W' B p G m A c L :=
  ⟨h.hd.of_block (hk p h.hd.lt (.inl rfl)), h.row.of_block (hk G h.row.lt (.inr (.inl rfl))), fun q hq => (h.own q hq).of_block fun g hg => hk g ((h.own q hq).lt g hg).2 (.inr (.inr ⟨q, hq, hg⟩)), h.hB, h.rp, h.sep⟩
theorem Cr.grown {W W' : World} {B p G m b : Nat} {A : Nat → Option Addr} {c : Nat → Nat} {L : Nat → List Int} (h : Cr W B p G m A c L) (hg : W.grownBy W' (some b)) (ha : Ap p G m A c L b) : Cr W' B p G m A c L :=
  h.kept fun j hj hjj => hg.block j hj fun e => by
    have e' : j = b := Option.some.inj e
    subst e'
    rcases hjj with e1 | e1 | ⟨q, hq, e1⟩
    · exact ha.1 e1
    · exact ha.2.1 e1
    · exact ha.2.2 q hq e1
theorem Cr.below {W W' : World} {B p G m : Nat} {A : Nat → Option Addr} {c : Nat → Nat} {L : Nat → List Int} (h : Cr W B p G m A c L) (hb : Below W.heap.size W W') : Cr W' B p G m A c L := h.kept fun j hj _ => hb.block j hj
theorem Cr.new_ap {W : World} {B p G m : Nat} {A : Nat → Option Addr} {c : Nat → Nat} {L : Nat → List Int} (h : Cr W B p G m A c L) {j : Nat} (hj : W.heap.size ≤ j) : Ap p G m A c L j := by
  have h1 := h.hd.lt
  have h2 := h.row.lt
  refine ⟨by omega, by omega, fun q hq e => ?_⟩
  have := ((h.own q hq).lt j e).2
  omega
def upL {α : Type} (f : Nat → α) (q : Nat) (x : α) : Nat → α := fun r => if r = q then x else f r
theorem upL_same {α : Type} (f : Nat → α) (q : Nat) (x : α) : upL f q x q = x := if_pos rfl
theorem upL_other {α : Type} (f : Nat → α) {q r : Nat} (x : α) (h : r ≠ q) : upL f q x r = f r := if_neg h
/-- what is gone over by one step -/
def crU (m : Nat) (L : Nat → List Int) (fr to st : Int) : Nat → List Int := fun r => if fr ≠ to ∧ (if fr < to then to else fr) = (r : Int) ∧ r < m then L r ++ [st] else L r
theorem Cr.push {W w3 : World} {B p G m q c2 : Nat} {A : Nat → Option Addr} {c : Nat → Nat} {L : Nat → List Int} {A2 : Option Addr} {st : Int} (h : Cr W B p G m A c L) (hq : q < m)
    (hown2 : Own w3 B 3 1 A2 ((L q).length + 1) c2 ((L q).length + 1) (cat (L q).length (lsV (L q)) (fun _ => .int .i64 st)))
    (hg2 : W.grownBy w3 (Value.slice (A q) (L q).length (c q)).ownBlock) (hat2 : (Value.slice A2 ((L q).length + 1) c2).ownBlock = (Value.slice (A q) (L q).length (c q)).ownBlock ∨ ∃ g, W.heap.size ≤ g ∧ (Value.slice A2 ((L q).length + 1) c2).ownBlock = some g) :
    Cr (w3.setCell ⟨G, q, none⟩ (.slice A2 ((L q).length + 1) c2)) B p G m (upL A q A2) (upL c q c2) (upL L q (L q ++ [st])) ∧
    (∀ j, j < W.heap.size → Ap p G m A c L j → Ap p G m (upL A q A2) (upL c q c2) (upL L q (L q ++ [st])) j ∧ (w3.setCell ⟨G, q, none⟩ (.slice A2 ((L q).length + 1) c2)).heap[j]? = W.heap[j]?) := by
  obtain ⟨hd, row, own, hB, rp, sep⟩ := h
  have hp : p < W.heap.size := hd.lt
  have hG : G < W.heap.size := row.lt
  have hne : ∀ j, j < W.heap.size → (∀ q', q' < m → (Value.slice (A q') (L q').length (c q')).ownBlock = some j → q' ≠ q) → w3.heap[j]? = W.heap[j]? := fun j hj hh => hg2.block j hj fun e => hh q hq e.symm rfl
  have hset : ∀ j, j ≠ G → (w3.setCell ⟨G, q, none⟩ (.slice A2 ((L q).length + 1) c2)).heap[j]? = w3.heap[j]? := fun j hj => Deep.blk_setCell_other _ _ _ _ (by exact hj)
  have hat : ∀ g, (Value.slice A2 ((L q).length + 1) c2).ownBlock = some g → (Value.slice (A q) (L q).length (c q)).ownBlock = some g ∨ W.heap.size ≤ g := fun g hg => by
    rcases hat2 with e | ⟨g', h1, h2⟩
    · rw [e] at hg; exact .inl hg
    · rw [h2] at hg; injection hg with hg; subst hg; exact .inr h1
  have own2 : ∀ g, (Value.slice A2 ((L q).length + 1) c2).ownBlock = some g → g ≠ p ∧ g ≠ G := fun g hg => by
    rcases hat g hg with e | e
    · exact rp q hq g e
    · omega
  have hl : (L q ++ [st]).length = (L q).length + 1 := by simp
  have hp3 : w3.heap[p]? = W.heap[p]? := hne p hp fun q' hq' e => absurd rfl (rp q' hq' p e).1
  have hG3 : w3.heap[G]? = W.heap[G]? := hne G hG fun q' hq' e => absurd rfl (rp q' hq' G e).2
  refine ⟨⟨hd.of_block ((hset p hB.2.2).trans hp3), ?_, fun r hr => ?_, hB, fun r hr g hg => ?_, fun r s hr hs hrs g hg => ?_⟩, fun j hj hap => ⟨⟨hap.1, hap.2.1, fun r hr e => ?_⟩, ?_⟩⟩
  · refine ((row.of_block hG3).set q _).congr fun i hi => ?_
    by_cases e : i = q
    · subst e; rw [if_pos rfl, upL_same, upL_same, upL_same, hl]
    · rw [if_neg e, upL_other _ _ e, upL_other _ _ e, upL_other _ _ e]
  · by_cases e : r = q
    · subst e
      rw [upL_same, upL_same, upL_same, hl]
      refine (hown2.of_block fun g hg => hset g (own2 g hg).2).congr fun i hi => ?_
      by_cases ei : i < (L r).length
      · rw [cat_lt ei]; unfold lsV; rw [List.getElem?_append_left ei]
      · obtain rfl : i = (L r).length := by omega
        rw [cat_ge (Nat.le_refl _)]; unfold lsV; simp
    · rw [upL_other _ _ e, upL_other _ _ e, upL_other _ _ e]
      exact (own r hr).of_block fun g hg => (hset g (rp r hr g hg).2).trans (hne g ((own r hr).lt g hg).2 fun q' hq' e' => fun eq => by subst eq; exact sep r q' hr hq' e g hg e')
  · by_cases e : r = q
    · subst e; rw [upL_same, upL_same, upL_same, hl] at hg; exact own2 g hg
    · rw [upL_other _ _ e, upL_other _ _ e, upL_other _ _ e] at hg; exact rp r hr g hg
  · by_cases e : r = q
    · subst e
      rw [upL_same, upL_same, upL_same, hl] at hg
      rw [upL_other _ _ (Ne.symm hrs), upL_other _ _ (Ne.symm hrs), upL_other _ _ (Ne.symm hrs)]
      rcases hat g hg with h1 | h1
      · exact sep r s hr hs hrs g h1
      · intro h2; have := ((own s hs).lt g h2).2; omega
    · rw [upL_other _ _ e, upL_other _ _ e, upL_other _ _ e] at hg
      by_cases e2 : s = q
      · subst e2
        rw [upL_same, upL_same, upL_same, hl]
        intro h2
        rcases hat g h2 with h1 | h1
        · exact sep r s hr hs hrs g hg h1
        · have := ((own r hr).lt g hg).2; omega
      · rw [upL_other _ _ e2, upL_other _ _ e2, upL_other _ _ e2]
        exact sep r s hr hs hrs g hg
  · by_cases e1 : r = q
    · subst e1
      rw [upL_same, upL_same, upL_same, hl] at e
      rcases hat j e with h1 | h1
      · exact hap.2.2 r hr h1
      · omega
    · rw [upL_other _ _ e1, upL_other _ _ e1, upL_other _ _ e1] at e
      exact hap.2.2 r hr e
  · exact (hset j hap.2.1).trans (hne j hj fun q' hq' e => absurd e (hap.2.2 q' hq'))
def SeeRet (B p G m : Nat) (A : Nat → Option Addr) (c : Nat → Nat) (L L' : Nat → List Int) (w : World) (e : Ending) (w' : World) : Prop :=
  e = .returned (.tuple #[]) ∧ (∃ A' c', Cr w' B p G m A' c' L' ∧ ∀ j, j < w.heap.size → Ap p G m A c L j → Ap p G m A' c' L' j ∧ w'.heap[j]? = w.heap[j]?) ∧ Below B w w'
theorem crU_stay {m : Nat} {L : Nat → List Int} {fr to st : Int} (hn : ¬ (fr ≠ to ∧ 0 ≤ (if fr < to then to else fr) ∧ (if fr < to then to else fr) < m)) : crU m L fr to st = L := by
  funext r
  unfold crU
  rw [if_neg]
  rintro ⟨h1, h2, h3⟩
  exact hn ⟨h1, by omega, by omega⟩
theorem crU_up {m : Nat} {L : Nat → List Int} {fr to st : Int} {k : Nat} (hk : k < m) (hne : fr ≠ to) (hx : (if fr < to then to else fr) = (k : Int)) : crU m L fr to st = upL L k (L k ++ [st]) := by
  funext r
  unfold crU upL
  by_cases e : r = k
  · subst e; rw [if_pos ⟨hne, hx, hk⟩, if_pos rfl]
  · rw [if_neg (fun h => e (by have := h.2.1; rw [hx] at this; omega)), if_neg e]
theorem see_same {B p G m : Nat} {A : Nat → Option Addr} {c : Nat → Nat} {L L' : Nat → List Int} {w : World} (h : Cr w B p G m A c L) (e : L' = L) : SeeRet B p G m A c L L' w (.returned (.tuple #[])) w := by
  rw [e]
  exact ⟨rfl, ⟨A, c, h, fun j hj ha => ⟨ha, rfl⟩⟩, Below.refl _ _⟩
set_option maxRecDepth 100000 in
set_option maxHeartbeats 2000000 in
theorem see_up (B p G m : Nat) (A : Nat → Option Addr) (c : Nat → Nat) (L : Nat → List Int) (fr to st : Int) (w : World) (h : Cr w B p G m A c L) (hm : m ≤ 1000) (hL : ∀ q, q < m → (L q).length ≤ 1000) (f0 : -1000 ≤ fr) (f1 : fr ≤ 1000) (t0 : -1000 ≤ to) (t1 : to ≤ 1000) (hlt : fr < to) :
    Calls Try.prog 11 #[.int .i64 fr, .int .i64 to, .int .i64 st, .pointer (some ⟨p, 0, none⟩)] w (SeeRet B p G m A c L (crU m L fr to st) w) := by
  have H := Lib.hid h
  have HL := Lib.hid hL
  have hdc : w.cell? ⟨p, 0, none⟩ = some (.slice (some ⟨G, 0, none⟩) m m) := h.hd.cell (i := 0) (by omega)
  have hq : (fr != to) = true := by rw [bne_iff_ne]; omega
  clear h hL
  by_cases hx0 : 0 ≤ to
  · by_cases hxm : to < m
    · obtain ⟨k, rfl⟩ := Int.eq_ofNat_of_zero_le hx0
      have hk : k < m := by omega
      have HUP : Hid (crU m L fr k st = upL L k (L k ++ [st])) := Lib.hid (crU_up hk (by omega) (by rw [if_pos hlt]))
      have hrc := H.out.row.cell hk
      have hrf := H.out.row.frozen k
      have hown := H.out.own k hk
      have hln := HL.out k hk
      obtain ⟨ln, hlnn⟩ : ∃ ln, ln = (L k).length := ⟨_, rfl⟩
      obtain ⟨Ak, hAk⟩ : ∃ a, a = A k := ⟨_, rfl⟩
      obtain ⟨ck, hck⟩ : ∃ a, a = c k := ⟨_, rfl⟩
      have hrc2 : w.cell? ⟨G, k, none⟩ = some (.slice Ak ln ck) := by rw [hrc, hAk, hck, hlnn]
      rw [← hlnn, ← hAk, ← hck] at hown
      rw [← hlnn] at hln
      have HLN := Lib.hid hlnn
      have HAK := Lib.hid hAk
      have HCK := Lib.hid hck
      have hGl := H.out.row.lt
      have hpl := H.out.hd.lt
      have hBs : B ≤ w.heap.size := by have := H.out.hB.2.1; omega
      have hBG := H.out.hB.2.1
      have hneG := H.out.rp k hk
      rw [← hlnn, ← hAk, ← hck] at hneG
      have HNE := Lib.hid hneG
      have HR1 := Lib.hid ((H.out.row.alloc (.cells #[.int .i64 st] 3)).drew)
      have HP1 := Lib.hid ((H.out.hd.alloc (.cells #[.int .i64 st] 3)).drew)
      clear hrc hlnn hAk hck hneG
      go_enter Try.func11, Try.ntmps11
      go_wp2_with fail
      go_region_law (first
        | (refine step_app _ rfl (.tmp 29) (.tmp 31) 25 rfl EIx rfl ((hown.alloc _).drew) rfl (l := 1) rfl ((Rd.one w (.int .i64 st) 3).drew) (fun _ _ => rfl) (by unfold maxLen; omega) (by omega) (by simp; omega) (ln + 1) (ln + 1) rfl rfl ?_; intro A2 c2 w3 hown2 hg2 hat2 hbl2; have hbx3 := HR1.out.of_block (hg2.block G (by simp; omega) (fun e => absurd rfl (HNE.out G e.symm).2)); have hg3 := hbx3.cell hk; rw [← HLN.out, ← HAK.out, ← HCK.out] at hg3; have hz3 := hbx3.frozen k; clear hbx3; have hp3 : w3.cell? ⟨p, 0, none⟩ = some (.slice (some ⟨G, 0, none⟩) m m) := (HP1.out.of_block (hg2.block p (by simp; omega) (fun e => absurd rfl (HNE.out p e.symm).1))).cell (i := 0) (by omega)))
      all_goals
        obtain rfl := HLN.out
        obtain rfl := HAK.out
        obtain rfl := HCK.out
        have P := H.out.push hk hown2 ((World.grownBy_alloc w _ _).trans (grown_undrew hg2)) (hat2.imp id (fun e => ⟨_, by simp, e⟩))
        have hbe : Below B w w3 := (((Below.refl B w).alloc hBs (.cells #[.int .i64 st] 3)).drew).trans hbl2
        go_end0
        exact ⟨rfl, ⟨_, _, by rw [HUP.out]; exact P.1, fun j hj ha => by rw [HUP.out]; exact P.2 j hj ha⟩, hbe.setCell hBG _⟩
    · go_enter Try.func11, Try.ntmps11
      go_wp2_with fail
      go_end0
      exact see_same H.out (crU_stay fun h => by have h2 := h.2.2; rw [if_pos hlt] at h2; omega)
  · go_enter Try.func11, Try.ntmps11
    go_wp2_with fail
    go_end0
    exact see_same H.out (crU_stay fun h => by have h2 := h.2.1; rw [if_pos hlt] at h2; omega)
set_option maxRecDepth 100000 in
set_option maxHeartbeats 2000000 in
theorem see_down (B p G m : Nat) (A : Nat → Option Addr) (c : Nat → Nat) (L : Nat → List Int) (fr to st : Int) (w : World) (h : Cr w B p G m A c L) (hm : m ≤ 1000) (hL : ∀ q, q < m → (L q).length ≤ 1000) (f0 : -1000 ≤ fr) (f1 : fr ≤ 1000) (t0 : -1000 ≤ to) (t1 : to ≤ 1000) (hlt : ¬ fr < to) (hne : fr ≠ to) :
    Calls Try.prog 11 #[.int .i64 fr, .int .i64 to, .int .i64 st, .pointer (some ⟨p, 0, none⟩)] w (SeeRet B p G m A c L (crU m L fr to st) w) := by
  have H := Lib.hid h
  have HL := Lib.hid hL
  have hdc : w.cell? ⟨p, 0, none⟩ = some (.slice (some ⟨G, 0, none⟩) m m) := h.hd.cell (i := 0) (by omega)
  have hq : (fr != to) = true := by rw [bne_iff_ne]; omega
  clear h hL
  by_cases hx0 : 0 ≤ fr
  · by_cases hxm : fr < m
    · obtain ⟨k, rfl⟩ := Int.eq_ofNat_of_zero_le hx0
      have hk : k < m := by omega
      have HUP : Hid (crU m L k to st = upL L k (L k ++ [st])) := Lib.hid (crU_up hk (by omega) (by rw [if_neg (by omega)]))
      have hrc := H.out.row.cell hk
      have hrf := H.out.row.frozen k
      have hown := H.out.own k hk
      have hln := HL.out k hk
      obtain ⟨ln, hlnn⟩ : ∃ ln, ln = (L k).length := ⟨_, rfl⟩
      obtain ⟨Ak, hAk⟩ : ∃ a, a = A k := ⟨_, rfl⟩
      obtain ⟨ck, hck⟩ : ∃ a, a = c k := ⟨_, rfl⟩
      have hrc2 : w.cell? ⟨G, k, none⟩ = some (.slice Ak ln ck) := by rw [hrc, hAk, hck, hlnn]
      rw [← hlnn, ← hAk, ← hck] at hown
      rw [← hlnn] at hln
      have HLN := Lib.hid hlnn
      have HAK := Lib.hid hAk
      have HCK := Lib.hid hck
      have hGl := H.out.row.lt
      have hpl := H.out.hd.lt
      have hBs : B ≤ w.heap.size := by have := H.out.hB.2.1; omega
      have hBG := H.out.hB.2.1
      have hneG := H.out.rp k hk
      rw [← hlnn, ← hAk, ← hck] at hneG
      have HNE := Lib.hid hneG
      have HR1 := Lib.hid ((H.out.row.alloc (.cells #[.int .i64 st] 3)).drew)
      have HP1 := Lib.hid ((H.out.hd.alloc (.cells #[.int .i64 st] 3)).drew)
      clear hrc hlnn hAk hck hneG
      go_enter Try.func11, Try.ntmps11
      go_wp2_with fail
      go_region_law (first
        | (refine step_app _ rfl (.tmp 29) (.tmp 31) 25 rfl EIx rfl ((hown.alloc _).drew) rfl (l := 1) rfl ((Rd.one w (.int .i64 st) 3).drew) (fun _ _ => rfl) (by unfold maxLen; omega) (by omega) (by simp; omega) (ln + 1) (ln + 1) rfl rfl ?_; intro A2 c2 w3 hown2 hg2 hat2 hbl2; have hbx3 := HR1.out.of_block (hg2.block G (by simp; omega) (fun e => absurd rfl (HNE.out G e.symm).2)); have hg3 := hbx3.cell hk; rw [← HLN.out, ← HAK.out, ← HCK.out] at hg3; have hz3 := hbx3.frozen k; clear hbx3; have hp3 : w3.cell? ⟨p, 0, none⟩ = some (.slice (some ⟨G, 0, none⟩) m m) := (HP1.out.of_block (hg2.block p (by simp; omega) (fun e => absurd rfl (HNE.out p e.symm).1))).cell (i := 0) (by omega)))
      all_goals
        obtain rfl := HLN.out
        obtain rfl := HAK.out
        obtain rfl := HCK.out
        have P := H.out.push hk hown2 ((World.grownBy_alloc w _ _).trans (grown_undrew hg2)) (hat2.imp id (fun e => ⟨_, by simp, e⟩))
        have hbe : Below B w w3 := (((Below.refl B w).alloc hBs (.cells #[.int .i64 st] 3)).drew).trans hbl2
        go_end0
        exact ⟨rfl, ⟨_, _, by rw [HUP.out]; exact P.1, fun j hj ha => by rw [HUP.out]; exact P.2 j hj ha⟩, hbe.setCell hBG _⟩
    · go_enter Try.func11, Try.ntmps11
      go_wp2_with fail
      go_end0
      exact see_same H.out (crU_stay fun h => by have h2 := h.2.2; rw [if_neg (by omega)] at h2; omega)
  · go_enter Try.func11, Try.ntmps11
    go_wp2_with fail
    go_end0
    exact see_same H.out (crU_stay fun h => by have h2 := h.2.1; rw [if_neg (by omega)] at h2; omega)
set_option maxRecDepth 100000 in
theorem see_any (B p G m : Nat) (A : Nat → Option Addr) (c : Nat → Nat) (L : Nat → List Int) (fr to st : Int) (w : World) (h : Cr w B p G m A c L) (hm : m ≤ 1000) (hL : ∀ q, q < m → (L q).length ≤ 1000) (f0 : -1000 ≤ fr ∧ fr ≤ 1000) (t0 : -1000 ≤ to ∧ to ≤ 1000) :
    Calls Try.prog 11 #[.int .i64 fr, .int .i64 to, .int .i64 st, .pointer (some ⟨p, 0, none⟩)] w (SeeRet B p G m A c L (crU m L fr to st) w) := by
  by_cases hft : fr = to
  · subst hft
    have hdc : w.cell? ⟨p, 0, none⟩ = some (.slice (some ⟨G, 0, none⟩) m m) := h.hd.cell (i := 0) (by omega)
    have hq : (fr != fr) = false := by simp
    have H := Lib.hid h
    clear h hL
    go_enter Try.func11, Try.ntmps11
    go_wp2_with fail
    go_end0
    exact see_same H.out (crU_stay fun h => h.1 rfl)
  · by_cases hlt : fr < to
    · exact see_up B p G m A c L fr to st w h hm hL f0.1 f0.2 t0.1 t0.2 hlt
    · exact see_down B p G m A c L fr to st w h hm hL f0.1 f0.2 t0.1 t0.2 hlt hft
end Go.Proofs.Ytcbcbanknjhhhaa
