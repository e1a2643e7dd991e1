/- comb's write and put. Conditions: the tree lies as told; the list is the call's own. -/
import Derived.Test.YtmbemikhbcjfmaaCombTree
namespace Go.Proofs.Ytmbemikhbcjfmaa
open Go.ChangeShapes Go.WideShapes Go.ChangeAt Go.RowKit
set_option linter.unusedVariables false
set_option linter.unusedSimpArgs false
theorem ECb : Elem Try.prog 22 37 4 32 := Elem.of Try.underlying22 (by kernel_rfl : (Try.prog.info? 37).map (fun i => (i.zero, i.size, i.bytes)) = some (some (.agg #[.int .i64 0, .int .i64 0, .int .i64 0, .int .i64 0]), 4, 32)) rfl (by omega)
/-- an element: kind, a, b, variable -/
abbrev Cb := Int × Int × Int × Int
def c1C (v : Cb) (q : Nat) : Value := if q = 0 then .int .i64 v.1 else if q = 1 then .int .i64 v.2.1 else if q = 2 then .int .i64 v.2.2.1 else .int .i64 v.2.2.2
theorem c1_one (v : Cb) (q : Nat) : (c1C v q).oneCell' = true := by unfold c1C; split; rfl; split; rfl; split <;> rfl
def lcC (L : Nat → Cb) (q : Nat) : Value := c1C (L (q / 4)) (q % 4)
def exC (L : Nat → Cb) (n : Nat) (v : Cb) (q : Nat) : Cb := if q = n then v else L q
theorem exC_lt {L : Nat → Cb} {n q : Nat} {v : Cb} (h : q < n) : exC L n v q = L q := if_neg (by omega)
theorem exC_eq {L : Nat → Cb} {n : Nat} {v : Cb} : exC L n v n = v := if_pos rfl
theorem lc_cat {L : Nat → Cb} {n q : Nat} {v : Cb} (h : q < n * 4 + 4) : cat (n * 4) (lcC L) (c1C v) q = lcC (exC L n v) q := by
  unfold lcC
  by_cases e : q < n * 4
  · rw [cat_lt e, exC_lt (by omega)]
  · rw [cat_ge (by omega), show q / 4 = n by omega, exC_eq, show q - n * 4 = q % 4 by omega]
/-- the list behind which a tree is written -/
def wrF : Tm → (Nat → Cb) → Nat → (Nat → Cb)
  | .lf k v, L, n => exC L n (k, 0, 0, v)
  | .ap a b, L, n => exC (wrF b (wrF a L n) (n + a.sz)) (n + a.sz + b.sz) (4, ((n + a.sz : Nat) : Int) - 1, ((n + a.sz + b.sz : Nat) : Int) - 1, 0)
theorem cb_rd (W : World) (k a b v : Int) (e : TypeId) : Rd (W.alloc (.cells #[.int .i64 k, .int .i64 a, .int .i64 b, .int .i64 v] e)) (some ⟨W.heap.size, 0, none⟩) 4 (c1C (k, a, b, v)) := by
  refine Rd.of_row (t := e) (n := 4) ?_ (Nat.le_refl _)
  exact row4 W e _ _ _ _ _ rfl rfl rfl rfl
def WrP (w0 : World) (t : Tm) (L : Nat → Cb) (n : Nat) (e : Ending) (w' : World) : Prop :=
  ∃ A' c', e = .returned (.slice A' (n + t.sz) c') ∧ Own w' w0.heap.size 37 4 A' (n + t.sz) c' ((n + t.sz) * 4) (lcC (wrF t L n)) ∧ Below w0.heap.size w0 w'
set_option maxRecDepth 100000 in
set_option maxHeartbeats 2000000 in
theorem write_any (w0 : World) : ∀ (t : Tm) (g : Nat) (W : World) (A : Option Addr) (n c : Nat) (L : Nat → Cb), TAt 58 w0 t g → Below w0.heap.size w0 W → Own W w0.heap.size 37 4 A n c (n * 4) (lcC L) → n + t.sz ≤ 100000 →
    Calls Try.prog 22 #[.pointer (some ⟨g, 0, none⟩), .slice A n c] W (WrP w0 t L n)
  | .lf kd v, g, W, A, n, c, L, h, hb, ho, hs => by
    have hW := h.below hb
    obtain ⟨k4, k1, k3, hr⟩ := hW
    have c0 : W.cell? ⟨g, 0, none⟩ = some (.int .i64 kd) := hr.cell (i := 0) (by omega)
    have c1 : W.cell? ⟨g, 1, none⟩ = some (.int .i64 v) := hr.cell (i := 1) (by omega)
    have q : (kd != 4) = true := by rw [bne_iff_ne]; exact k4
    have hs2 : (Tm.lf kd v).sz = 1 := rfl
    rw [hs2] at hs
    have hws := hb.size
    have HB := Lib.hid hb
    clear hr h hb hs2
    go_enter Try.func22, Try.ntmps22
    go_wp2_with fail
    go_region_law (first
      | (refine step_app _ rfl (.tmp 11) (.tmp 21) 22 rfl ECb rfl ((ho.alloc _).drew) rfl (l := 4) rfl ((cb_rd W kd 0 0 v 37).drew) (fun _ _ => c1_one _ _) (by unfold maxLen; omega) (by omega) (by simp; omega) (n + 1) ((n + 1) * 4) rfl (by omega) ?_; intro A2 c2 w3 hown2 hg2 hat2 hbl2))
    all_goals
      go_wp2_with fail
      go_ret
      exact ⟨A2, c2, rfl, hown2.congr fun q hq => lc_cat (by omega), ((HB.out.alloc HB.out.size _).drew).trans hbl2⟩
  | .ap a b, g, W, A, n, c, L, h, hb, ho, hs => by
    have hW := h.below hb
    obtain ⟨ga, gb, hr, ha, hbb⟩ := h
    have hrW := row_below hr hb hr.lt
    have c0 : W.cell? ⟨g, 0, none⟩ = some (.int .i64 4) := hrW.cell (i := 0) (by omega)
    have c2 : W.cell? ⟨g, 2, none⟩ = some (.pointer (some ⟨ga, 0, none⟩)) := hrW.cell (i := 2) (by omega)
    have hsz : (Tm.ap a b).sz = 1 + a.sz + b.sz := rfl
    rw [hsz] at hs
    have HR := Lib.hid hr
    have HA := Lib.hid (write_any w0 a ga W A n c L ha hb ho (by omega))
    have HBB := Lib.hid (fun W2 A2 c2 (hb2 : Below w0.heap.size w0 W2) (ho2 : Own W2 w0.heap.size 37 4 A2 (n + a.sz) c2 ((n + a.sz) * 4) (lcC (wrF a L n))) => write_any w0 b gb W2 A2 (n + a.sz) c2 (wrF a L n) hbb hb2 ho2 (by omega))
    have hpa := a.sz_pos
    have hpb := b.sz_pos
    clear hW hr hrW ha hbb ho hb
    go_enter Try.func22, Try.ntmps22
    go_wp2_with fail
    refine HA.out.mono ?_
    rintro e w2 ⟨A2, c2', rfl, ho2, hb2⟩
    have hr2 := row_below HR.out hb2 HR.out.lt
    have c3 : w2.cell? ⟨g, 3, none⟩ = some (.pointer (some ⟨gb, 0, none⟩)) := hr2.cell (i := 3) (by omega)
    have HO2 := Lib.hid ho2
    have HB2 := Lib.hid hb2
    obtain ⟨m, hm⟩ : ∃ m, m = n + a.sz := ⟨_, rfl⟩
    rw [← hm]
    have hmb : 1 ≤ m ∧ m ≤ 100000 := by omega
    have HMM := Lib.hid hm
    clear hr2 ho2 hb2 hm
    go_wp2_with fail
    rw [HMM.out]
    refine (HBB.out w2 A2 c2' HB2.out HO2.out).mono ?_
    rintro e w3 ⟨A3, c3', rfl, ho3, hb3⟩
    have HB3 := Lib.hid hb3
    have hs3 := hb3.size
    obtain ⟨z, hz⟩ : ∃ z, z = n + a.sz + b.sz := ⟨_, rfl⟩
    rw [← hz] at ho3 ⊢
    have hzb : 1 ≤ z ∧ z ≤ 100000 := by omega
    have HZZ := Lib.hid hz
    rw [← HMM.out]
    clear hb3 hz
    go_wp2_with (at_builtin; refine wpList_app _ rfl (.tmp 38) (.tmp 44) 22 rfl ECb rfl (ho3.alloc _) rfl (l := 4) rfl (cb_rd w3 4 ((m : Int) - 1) ((z : Int) - 1) 0 37) (fun _ _ => c1_one _ _) (by unfold maxLen; omega) (by omega) (by simp; omega) (z + 1) ((z + 1) * 4) rfl (by omega) ?_; intro A4 c4 w4 hown2 hg2 hat2 hbl2)
    go_ret
    have e1 : n + (Tm.ap a b).sz = z + 1 := by rw [HZZ.out]; show n + (1 + a.sz + b.sz) = _; omega
    refine ⟨A4, c4, by rw [e1]; rfl, ?_, (HB3.out.alloc HB3.out.size _).trans hbl2⟩
    rw [e1]
    refine hown2.congr fun q hq => ?_
    rw [lc_cat (by omega)]
    show _ = lcC (exC (wrF b (wrF a L n) (n + a.sz)) (n + a.sz + b.sz) (4, ((n + a.sz : Nat) : Int) - 1, ((n + a.sz + b.sz : Nat) : Int) - 1, 0)) q
    rw [← HZZ.out, ← HMM.out]
set_option maxRecDepth 100000 in
theorem put_any (w0 W : World) (ta tb : Tm) (ga gb : Nat) (ha : TAt 58 W ta ga) (hb : TAt 58 W tb gb) :
    Calls Try.prog 31 #[.pointer (some ⟨ga, 0, none⟩), .pointer (some ⟨gb, 0, none⟩)] W fun e w' => (∃ g, e = .returned (.pointer (some ⟨g, 0, none⟩)) ∧ TAt 58 w' (.ap ta tb) g) ∧ Below W.heap.size W w' := by
  have hbel : Below W.heap.size W (W.alloc (.cells #[.int .i64 4, .int .i64 0, .pointer (some ⟨ga, 0, none⟩), .pointer (some ⟨gb, 0, none⟩)] 58)) := (Below.refl _ _).alloc (Nat.le_refl _) _
  have HT : Hid (TAt 58 (W.alloc (.cells #[.int .i64 4, .int .i64 0, .pointer (some ⟨ga, 0, none⟩), .pointer (some ⟨gb, 0, none⟩)] 58)) (.ap ta tb) W.heap.size) := Lib.hid ⟨ga, gb, row4 W _ _ _ _ _ _ rfl rfl rfl rfl, ha.below hbel, hb.below hbel⟩
  clear ha hb hbel
  go_enter Try.func31, Try.ntmps31
  go_wp2_with fail
  go_ret
  exact ⟨⟨W.heap.size, rfl, HT.out⟩, (Below.refl _ _).alloc (Nat.le_refl _) _⟩
end Go.Proofs.Ytmbemikhbcjfmaa
