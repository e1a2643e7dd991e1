/- What tape.now computes. Conditions: as each theorem states. -/
import Derived.Test.YtcbcbanknjhhhaaTapeStep
import Derived.Test.YtcbcbanknjhhhaaTapeLaw
import Derived.Test.YtcbcbanknjhhhaaApp
import Derived.Maps.RangeWalk
namespace Go.Proofs.Ytcbcbanknjhhhaa
open Go.ChangeShapes Go.WideShapes Go.ChangeAt Go.RowKit Go.Maps
set_option linter.unusedVariables false
/-- where a walk over the keys stands: the least and greatest of those done and of h -/
def NwRel (D : DataW Unit) (h lo hi : Int) (left : Lit → Bool) : Prop :=
  (lo ≤ h ∧ h ≤ hi) ∧ (∀ x, Maps.has D (.int .i64 x) = true → left (.int .i64 x) = true ∨ (lo ≤ x ∧ x ≤ hi)) ∧ (lo = h ∨ Maps.has D (.int .i64 lo) = true) ∧ (hi = h ∨ Maps.has D (.int .i64 hi) = true)
theorem NwRel.next {D : DataW Unit} {h lo hi x : Int} {left : Lit → Bool} (r : NwRel D h lo hi left) (hx : Maps.has D (.int .i64 x) = true) :
    NwRel D h (if x < lo then x else lo) (if hi < x then x else hi) (fun z => left z && !z.sameKey (.int .i64 x)) := by
  obtain ⟨r1, r2, r3, r4⟩ := r
  refine ⟨?_, fun y hy => ?_, ?_, ?_⟩
  · split <;> split <;> omega
  · by_cases e : y = x
    · subst e; right; split <;> split <;> omega
    · rcases r2 y hy with a | a
      · left
        have : (Lit.int .i64 y).sameKey (.int .i64 x) = false := sameKey_ne (by intro h; cases h; exact e rfl)
        show (left (.int .i64 y) && !(Lit.int .i64 y).sameKey (.int .i64 x)) = true
        rw [a, this]; rfl
      · right; split <;> split <;> omega
  · split
    · exact .inr hx
    · exact r3
  · split
    · exact .inr hx
    · exact r4
theorem NwRel.done {D : DataW Unit} {f : Int → Int} {h lo hi : Int} {left : Lit → Bool} (r : NwRel D h lo hi left) (hf : MapD D f) (hl : ∀ k, left k = false) : Sp f h lo hi := by
  obtain ⟨r1, r2, r3, r4⟩ := r
  refine ⟨r1, fun x hx => ?_, ?_, ?_⟩
  · rcases r2 x ((hf.has x).2 hx) with a | a
    · rw [hl] at a; cases a
    · exact a
  · rcases r3 with e | e
    · exact .inl e
    · exact .inr (hf.2 _ e)
  · rcases r4 with e | e
    · exact .inl e
    · exact .inr (hf.2 _ e)
theorem EIn : Elem Try.prog 25 3 1 8 := Elem.of Try.underlying25 (by kernel_rfl : (Try.prog.info? 3).map (fun i => (i.zero, i.size, i.bytes)) = some (some (.int .i64 0), 1, 8)) rfl (by omega)
/-- a told configuration's cells -/
def nwx (s h lo : Int) (v : Value) (t : Nat) : Value := if t = 0 then .int .i64 s else if t = 1 then .int .i64 h else if t = 2 then .int .i64 lo else v
theorem results_one {fn : Func} {p : Tmp} {ty : TypeId} (h : fn.results = #[.cell p ty]) (tmps : Array Value) (P : Program) (w : World) :
    (results fn tmps).run P w = ((asAddr (tmps.getD p undef)).run P w).andThen fun a w₁ => (loadVar ty a).run P w₁ := by
  simp [results, h, Sem.run_bind]
/-- what tape.now returns -/
def NowAt (f : Int → Int) (st h : Int) (w' : World) (base : Nat) (v : Value) : Prop := ∃ (lo hi : Int) (N : Nat) (A : Option Addr) (c : Nat), Sp f h lo hi ∧ (N : Int) = hi - lo + 1 ∧ v = .agg #[.int .i64 st, .int .i64 h, .int .i64 lo, .slice A N c] ∧ Own w' base 3 1 A N c N (fun i => .int .i64 (f (lo + i)))
def NowRet (f : Int → Int) (st h : Int) (w : World) (e : Ending) (w' : World) : Prop := (∃ v, e = .returned v ∧ NowAt f st h w' w.heap.size v) ∧ Below w.heap.size w w'
set_option maxRecDepth 100000 in
set_option maxHeartbeats 1000000 in
theorem now_any (b m : Nat) (f : Int → Int) (st h : Int) (w : World) (hM : MapI w b m f) (hm : m < maxLen) (hsup : ∀ x, f x ≠ 0 → -1000 ≤ x ∧ x ≤ 1000) (h0 : -1000 ≤ h) (h1 : h ≤ 1000) :
    Calls Try.prog 20 #[.map (some b), .int .i64 st, .int .i64 h] w (NowRet f st h w) := by
  have hbl := hM.lt
  have HM := Lib.hid hM
  obtain ⟨D, hD, hr⟩ := hM
  have HR := Lib.hid hr
  have HS := Lib.hid hsup
  clear hr hsup
  go_enter Try.func20, Try.ntmps20
  go_wp2_with (first | (at_range; refine wpList_range_own _ rfl _ _ rfl 3 3 kI Try.underlying42 _ b m D rfl (hD.alloc _) ?_; intro w0 hrg0 hg0 hs0))
  go_frame
  have hb0 := ((Below.refl w.heap.size w).alloc (Nat.le_refl _) (.cells #[.int .i64 0, .int .i64 0, .int .i64 0, .slice none 0 0] 31)).grown (B := w.heap.size) hg0 (by simp) (fun g hg => by cases hg)
  have hres0 := (row4 w 31 (.int .i64 0) (.int .i64 0) (.int .i64 0) (.slice none 0 0) (nwx 0 0 0 (.slice none 0 0)) rfl rfl rfl rfl).of_block (hg0.block w.heap.size (by simp) (by simp))
  obtain ⟨r, hrr⟩ : ∃ r, r = (w.alloc (.cells #[.int .i64 0, .int .i64 0, .int .i64 0, .slice none 0 0] 31)).heap.size := ⟨_, rfl⟩
  rw [← hrr] at hrg0 hs0 ⊢
  have hrw : w.heap.size < r := by rw [hrr]; simp
  clear hrr hg0
  go_loopw [7, 8] (fun s7 s8 wr => ∃ (lo hi : Int) (left : Lit → Bool) (cnt : Nat), s7 = .int .i64 lo ∧ s8 = .int .i64 hi ∧ wr.ranges Try.prog 3 (plainElem Try.prog 3) b r m D left cnt ∧ NwRel D h lo hi left ∧ Below w.heap.size w wr ∧ ∃ V, wr.rowIs w.heap.size 31 4 V) (fun _ _ wr => wr.rangeLeft b r)
  case atStart => exact ⟨h, h, _, _, rfl, rfl, hrg0, ⟨⟨Int.le_refl _, Int.le_refl _⟩, fun x hx => .inl hx, .inl rfl, .inl rfl⟩, hb0, _, hres0⟩
  case round =>
    clear hrg0 hb0 hres0 hs0
    obtain ⟨wo, rfl⟩ : ∃ wo : World, wo = wr := ⟨_, rfl⟩
    obtain ⟨lo, hi, left, cnt, rfl, rfl, hrg, hnw, hbel, V, hres⟩ := hrel
    have HNW := Lib.hid hnw
    clear hnw
    go_wp2_with (at_next; refine wpList_next_ranges_ii _ rfl _ rfl 3 3 .i64 .i64 kI Try.underlying3 Try.underlying3 b r m _ _ _ rfl hrg ?_ ?_)
    case refine_1 =>
      intro hc0 hl0
      have hsp := HNW.out.done HR.out hl0
      have b0 := HS.out
      have hlo : -1000 ≤ lo := by
        rcases hsp.2.2.1 with e | e
        · omega
        · exact (b0 lo e).1
      have hhi : hi ≤ 1000 := by
        rcases hsp.2.2.2 with e | e
        · omega
        · exact (b0 hi e).2
      have hlh : lo ≤ hi := by have := hsp.1; omega
      have HSP := Lib.hid hsp
      have hwo := hbel.size
      clear hl0 hsp b0 hc0 HNW
      go_wp2_with fail
      have hbx0 := row4 wo 31 (.int .i64 st) (.int .i64 h) (.int .i64 lo) (.slice none 0 0) (nwx st h lo (.slice none 0 0)) rfl rfl rfl rfl
      have hb1 := hbel.alloc hwo (.cells #[.int .i64 st, .int .i64 h, .int .i64 lo, .slice none 0 0] 31)
      have hres1 := hres.alloc (.cells #[.int .i64 st, .int .i64 h, .int .i64 lo, .slice none 0 0] 31)
      obtain ⟨W2, hW2⟩ : ∃ W, W = wo.alloc (.cells #[.int .i64 st, .int .i64 h, .int .i64 lo, .slice none 0 0] 31) := ⟨_, rfl⟩
      obtain ⟨g, hg⟩ : ∃ g, g = wo.heap.size := ⟨_, rfl⟩
      rw [← hW2] at hbx0 hb1 hres1 ⊢
      rw [← hg] at hbx0 ⊢
      have hgw : w.heap.size < g := by rw [hg]; exact Nat.lt_of_lt_of_le hres.lt (Nat.le_refl _)
      clear hrg hbel hres hW2 hg hwo
      go_loopw [11] (fun s11 wr => ∃ (k : Nat) (A : Option Addr) (c : Nat), (k : Int) ≤ hi - lo + 1 ∧ s11 = .int .i64 (lo + k) ∧ Own wr (g + 1) 3 1 A k c k (fun i => .int .i64 (f (lo + i))) ∧ wr.rowIs g 31 4 (nwx st h lo (.slice A k c)) ∧ Below w.heap.size w wr ∧ ∃ V, wr.rowIs w.heap.size 31 4 V) (fun s11 _ => (hi + 1 - intOf s11).toNat)
      case atStart => exact ⟨0, none, 0, by omega, by simp, Own.nil _ _ _ _ _, hbx0, hb1, _, hres1⟩
      case round =>
        clear hbx0 hb1 hres1 V
        obtain ⟨wq, rfl⟩ : ∃ wq : World, wq = wr := ⟨_, rfl⟩
        obtain ⟨k, A, c, hk, rfl, hown, hbx, hbel, V, hres⟩ := hrel
        have hszq := hbx.lt
        by_cases hlt : lo + (k : Int) ≤ hi
        · have c3 : wq.cell? ⟨g, 3, none⟩ = some (.slice A k c) := hbx.cell (i := 3) (by omega)
          have wx : (Lit.int .i64 (lo + k)).wf = true := by simp [Lit.wf, IntKind.min, IntKind.max, IntKind.signed, IntKind.bits]; omega
          have hL := (HM.out.below hbel).look wx
          obtain ⟨x, hx⟩ : ∃ x, x = f (lo + k) := ⟨_, rfl⟩
          rw [← hx] at hL
          have HX := Lib.hid hx
          clear hx wx
          go_wp2_with (at_builtin; refine wpList_app _ rfl (.tmp 37) (.tmp 41) 25 rfl EIn rfl (hown.alloc _) rfl (l := 1) rfl (Rd.one _ _ _) (fun _ _ => rfl) (by unfold maxLen; omega) (by omega) (by simp; omega) (k + 1) (k + 1) rfl rfl ?_; intro A2 c2 w3 hown2 hg2 hat2 hbl2; have hbx2 := (hbx.alloc (.cells #[.int .i64 x] 3)).of_block (hg2.block g (by simp; omega) (fun e => by have := (hown.lt g e.symm).1; omega)); have hz3 := hbx2.frozen 3; have hc3 := hbx2.cell (i := 3) (by omega))
          have hb3 : Below w.heap.size w w3 := (hbel.alloc hbel.size (.cells #[.int .i64 x] 3)).grown (B := w.heap.size) hg2 (by have := hbel.size; simp; omega) (fun g' e => by have := (hown.lt g' e).1; omega)
          have hres3 := (hres.alloc (.cells #[.int .i64 x] 3)).of_block (hg2.block w.heap.size (by have := hres.lt; simp; omega) (fun e => by have := (hown.lt _ e.symm).1; omega))
          go_roundw
          case rel => exact ⟨k + 1, A2, c2, by omega, by go_num, (hown2.of_block fun g' hg' => Deep.blk_setCell_other _ _ _ _ (by have := (hown2.lt g' hg').1; show g' ≠ g; omega)).congr (fun i hi => by
            by_cases e : i < k
            · rw [cat_lt e]
            · obtain rfl : i = k := by omega
              rw [cat_ge (Nat.le_refl _), HX.out]), (hbx2.set 3 _).congr (fun t ht => by
            unfold nwx
            by_cases e : t = 3
            · subst e; rw [if_pos rfl, if_neg (by omega), if_neg (by omega), if_neg (by omega)]
            · have : t = 0 ∨ t = 1 ∨ t = 2 := by omega
              rcases this with rfl | rfl | rfl <;> simp), hb3.setCell (by simp; omega) _, V, hres3.setOther (by show w.heap.size ≠ g; omega) _⟩
          case measure => simp [intOf]; omega
        · have n0 := hbx.cell (i := 0) (by omega)
          have n1 := hbx.cell (i := 1) (by omega)
          have n2 := hbx.cell (i := 2) (by omega)
          have n3 := hbx.cell (i := 3) (by omega)
          have n0' : wq.cell? ⟨g, 0, none⟩ = some (.int .i64 st) := n0
          have n1' : wq.cell? ⟨g, 1, none⟩ = some (.int .i64 h) := n1
          have n2' : wq.cell? ⟨g, 2, none⟩ = some (.int .i64 lo) := n2
          have n3' : wq.cell? ⟨g, 3, none⟩ = some (.slice A k c) := n3
          have f0 := hres.frozen 0
          have f1 := hres.frozen 1
          have f2 := hres.frozen 2
          have f3 := hres.frozen 3
          have r0 := hres.cell (i := 0) (by omega)
          have r1 := hres.cell (i := 1) (by omega)
          have r2 := hres.cell (i := 2) (by omega)
          have r3 := hres.cell (i := 3) (by omega)
          have hl0 : Below w.heap.size w (wq.setCell ⟨w.heap.size, 0, none⟩ (.int .i64 st)) := hbel.setCell (Nat.le_refl _) _
          have hl1 : Below w.heap.size w ((wq.setCell ⟨w.heap.size, 0, none⟩ (.int .i64 st)).setCell ⟨w.heap.size, 1, none⟩ (.int .i64 h)) := hl0.setCell (Nat.le_refl _) _
          have hl2 : Below w.heap.size w (((wq.setCell ⟨w.heap.size, 0, none⟩ (.int .i64 st)).setCell ⟨w.heap.size, 1, none⟩ (.int .i64 h)).setCell ⟨w.heap.size, 2, none⟩ (.int .i64 lo)) := hl1.setCell (Nat.le_refl _) _
          have hl3 : Below w.heap.size w ((((wq.setCell ⟨w.heap.size, 0, none⟩ (.int .i64 st)).setCell ⟨w.heap.size, 1, none⟩ (.int .i64 h)).setCell ⟨w.heap.size, 2, none⟩ (.int .i64 lo)).setCell ⟨w.heap.size, 3, none⟩ (.slice A k c)) := hl2.setCell (Nat.le_refl _) _
          have HO := Lib.hid (hown.of_block (w' := (((wq.setCell ⟨w.heap.size, 0, none⟩ (.int .i64 st)).setCell ⟨w.heap.size, 1, none⟩ (.int .i64 h)).setCell ⟨w.heap.size, 2, none⟩ (.int .i64 lo)).setCell ⟨w.heap.size, 3, none⟩ (.slice A k c)) (fun g' hg' => by
            have := (hown.lt g' hg').1
            rw [Deep.blk_setCell_other _ _ _ _ (by show g' ≠ w.heap.size; omega), Deep.blk_setCell_other _ _ _ _ (by show g' ≠ w.heap.size; omega), Deep.blk_setCell_other _ _ _ _ (by show g' ≠ w.heap.size; omega), Deep.blk_setCell_other _ _ _ _ (by show g' ≠ w.heap.size; omega)]))
          have HL := Lib.hid hl3
          have hgg : w.heap.size ≠ g := by omega
          clear n0 n1 n2 n3 hl0 hl1 hl2 hl3 hown hbx hres
          go_wp2_with fail
          (try simp only [Exit.inBlock, Exit.then])
          refine bodyPost_ret (v := .agg #[.int .i64 st, .int .i64 h, .int .i64 lo, .slice A k c]) (by rw [results_one rfl]; go_simp) rfl ⟨⟨_, rfl, lo, hi, k, A, c, HSP.out, by omega, rfl, HO.out.base_le (by omega)⟩, HL.out⟩
    case refine_2 =>
      intro x c w' cnt' hwx hwc hlx hat hrg' hlt hgr hsz hen
      have hhas : Maps.has D (.int .i64 x) = true := has_true_of_atKey hat
      have HHAS := Lib.hid hhas
      have HAT := Lib.hid hat
      have hbel2 := hbel.grown hgr hbel.size (fun g hg => by have := Option.some.inj hg; omega)
      have hres2 := hres.of_block (hgr.block w.heap.size hres.lt (by simp; omega))
      have HX := Lib.hid (HR.out.2 x hhas)
      have xb := HS.out x HX.out
      obtain ⟨xb0, xb1⟩ := xb
      have HLX := Lib.hid hlx
      have HSZ := Lib.hid hsz
      clear hhas hat hbel hres hgr hlx hsz hwx hwc
      go_wp2_with fail
      go_roundw
      case rel => exact ⟨_, _, _, _, rfl, rfl, hrg', HNW.out.next HHAS.out, hbel2, V, hres2⟩
      case measure => rw [hrg'.left_eq, hrg.left_eq]; exact hlt
end Go.Proofs.Ytcbcbanknjhhhaa
