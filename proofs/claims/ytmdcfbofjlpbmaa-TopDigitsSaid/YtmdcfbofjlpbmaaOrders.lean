/- What code.Orders computes. Conditions: the digits read as told. -/
import Derived.Test.YtmdcfbofjlpbmaaChunk
import Derived.Test.YtmdcfbofjlpbmaaCountFns
import Derived.Test.YtmdcfbofjlpbmaaStillIn
namespace Go.Proofs.Ytmdcfbofjlpbmaa
open Go.RowKit Go.Shelf Go.ChangeShapes Go.WideShapes Go.ChangeAt
set_option linter.unusedVariables false
attribute [local go_sem] Oper.semAt_some
/-- what is wrong with digits: one more that has a fourth digit -/
def bdO (f : Nat → Int) (k : Nat) : Bool := decide (f (4 * k) = 1 ∧ f (4 * k + 3) ≠ 0)
def row4L (f : Nat → Int) (k : Nat) : List Value := [.int .i64 (f (4 * k)), .int .i64 (f (4 * k + 1)), .int .i64 (f (4 * k + 2)), .int .i64 (f (4 * k + 3))]
def rowsL {m : Nat} (f : Nat → Int) (pre : List { k : Nat // k < m }) : List Value := pre.flatMap fun x => row4L f x.1
theorem rowsL_snoc {m : Nat} (f : Nat → Int) (pre : List { k : Nat // k < m }) (x) : rowsL f (pre ++ [x]) = rowsL f pre ++ row4L f x.1 := by simp [rowsL]
theorem rowsL_chs {m : Nat} (f : Nat → Int) : ∀ k, k ≤ m → rowsL f (chs m k) = (List.range (4 * k)).map (fun q => .int .i64 (f q))
  | 0, _ => rfl
  | k + 1, h => by
    rw [chs_succ (by omega), rowsL_snoc, rowsL_chs f k (by omega), show 4 * (k + 1) = 4 * k + 4 by omega, List.range_add, List.map_append]
    rfl
theorem own_rowsL {W : World} {H m : Nat} {e : TypeId} {f : Nat → Int} {v : Value} (h : W.ownsRow H e 4 v (chs m m).length (rowsL f (chs m m))) (hm : m ≤ maxLen) : ∃ A c, v = .slice A m c ∧ Own W H e 4 A m c (4 * m) (fun q => .int .i64 (f q)) := by
  rw [chs_len (Nat.le_refl m), rowsL_chs f m (Nat.le_refl m)] at h
  rcases h.2 with ⟨rfl, h0⟩ | ⟨g, cap, cur, rfl, r⟩
  · exact ⟨none, 0, by rw [h0], by rw [h0] at h ⊢; exact ⟨h, Nat.zero_le _⟩⟩
  · exact ⟨_, _, rfl, h, hm⟩
theorem infoOrd : (Try.prog.info? 28).map (fun i => (i.zero, i.size, i.bytes)) = some (some (.agg #[.int .i64 0, .int .i64 0, .int .i64 0, .int .i64 0]), 4, 32) := by kernel_rfl
def ordE (cs : Int) (M : Nat) (f : Nat → Int) : Int := if M % 4 ≠ 0 then 3 else if anyB (bdO f) (M / 4) = true then 3 else ckO cs (M / 4) f
def OrdRet (cs : Int) (M : Nat) (f : Nat → Int) (w : World) (e : Ending) (w' : World) : Prop :=
  Below w.heap.size w w' ∧ ((ordE cs M f ≠ 0 ∧ e = .returned (.tuple #[.slice none 0 0, .int .i64 (ordE cs M f)])) ∨ (ordE cs M f = 0 ∧ ∃ A c, e = .returned (.tuple #[.slice A (M / 4) c, .int .i64 0]) ∧ Rd w' A ((M / 4) * 4) (fun q => .int .i64 (f q)) ∧ M / 4 ≤ c ∧ c ≤ maxLen))
set_option maxRecDepth 100000 in
set_option maxHeartbeats 800000 in
theorem orders_in (F : Fence) (hFw : Hid (F = Fence.wide)) (n : Nat) (hro : F.round = none) (hn : 8 ≤ n) (hF : ∀ k, F.fn k) (cs : Int) (A : Option Addr) (m M c : Nat) (f : Nat → Int) (w : World) (hM : M = 4 * m) (hA : Rd w A M (fun i => .int .i64 (f i))) (hMc : M ≤ c) (hc : c ≤ maxLen) (hz : M * 8 ≤ 140737488351232) :
    CallsIn F n Try.prog 14 #[.int .i64 cs, .slice A M c] w (OrdRet cs M f w) := by
  have h1 : 1 ≤ n := by omega
  obtain ⟨i0, hi, hz0, hz1, hz2⟩ := info_parts infoOrd
  have hM4 : ((M : Nat) : Int) % 4 = 0 := by omega
  have HM := Lib.hid hM
  have HA := Lib.hid hA
  obtain ⟨b, off, hab⟩ : ∃ b off, 0 < m → A = some ⟨b, off, none⟩ ∧ b < w.heap.size ∧ ∀ i, i < M → w.cell? ⟨b, off + i, none⟩ = some (.int .i64 (f i)) := by
    rcases Nat.eq_zero_or_pos m with h0 | h0
    · exact ⟨0, 0, fun h => by omega⟩
    · obtain ⟨b, off, e1, e2, e3⟩ := hA (by omega)
      exact ⟨b, off, fun _ => ⟨e1, e2, e3⟩⟩
  have HAB := Lib.hid hab
  clear hM hA hab
  refine callsIn_of_wp_marks Try.func14 rfl (hF _) ?_ hro
  simp only [Try.ntmps14, List.size_toArray, List.length_cons, List.length_nil, Nat.reduceAdd, Nat.reduceSub, Array.replicate_succ, Array.replicate_zero, List.push_toArray, List.append_toArray, List.nil_append, List.cons_append]
  gi_wp2_with (gi_at_call 23; refine (chunk_in F (n - 1) (hF _) hro _ _ _ _).mono ?_; rintro e w' ⟨rfl, rfl⟩)
  have b0 := Boxed.new w 22 (.slice none 0 0)
  have b1 := Boxed.new (w.alloc (.cells #[.slice none 0 0] 22)) 24 (.int .i64 0)
  have b2 := Boxed.new ((w.alloc (.cells #[.slice none 0 0] 22)).alloc (.cells #[.int .i64 0] 24)) 22 (.slice none 0 0)
  have b3 := Boxed.new (((w.alloc (.cells #[.slice none 0 0] 22)).alloc (.cells #[.int .i64 0] 24)).alloc (.cells #[.slice none 0 0] 22)) 23 (.slice A M c)
  have b4 := Boxed.new ((((w.alloc (.cells #[.slice none 0 0] 22)).alloc (.cells #[.int .i64 0] 24)).alloc (.cells #[.slice none 0 0] 22)).alloc (.cells #[.slice A M c] 23)) 3 (.int .i64 4)
  simp only [World.size_alloc] at b1 b2 b3 b4
  have b0 := (((b0.alloc (.cells #[.int .i64 0] 24)).alloc (.cells #[.slice none 0 0] 22)).alloc (.cells #[.slice A M c] 23)).alloc (.cells #[.int .i64 4] 3)
  have b1 := ((b1.alloc (.cells #[.slice none 0 0] 22)).alloc (.cells #[.slice A M c] 23)).alloc (.cells #[.int .i64 4] 3)
  have b2 := (b2.alloc (.cells #[.slice A M c] 23)).alloc (.cells #[.int .i64 4] 3)
  have b3 := b3.alloc (.cells #[.int .i64 4] 3)
  have hB0 : Below w.heap.size w (((((w.alloc (.cells #[.slice none 0 0] 22)).alloc (.cells #[.int .i64 0] 24)).alloc (.cells #[.slice none 0 0] 22)).alloc (.cells #[.slice A M c] 23)).alloc (.cells #[.int .i64 4] 3)) :=
    (((((Below.refl _ w).alloc (Nat.le_refl _) _).alloc (by simp) _).alloc (by simp; omega) _).alloc (by simp; omega) _).alloc (by simp; omega) _
  have hsz0 : (((((w.alloc (.cells #[.slice none 0 0] 22)).alloc (.cells #[.int .i64 0] 24)).alloc (.cells #[.slice none 0 0] 22)).alloc (.cells #[.slice A M c] 23)).alloc (.cells #[.int .i64 4] 3)).heap.size = w.heap.size + 5 := by simp
  obtain ⟨W0, hW0⟩ : ∃ W0, (((((w.alloc (.cells #[.slice none 0 0] 22)).alloc (.cells #[.int .i64 0] 24)).alloc (.cells #[.slice none 0 0] 22)).alloc (.cells #[.slice A M c] 23)).alloc (.cells #[.int .i64 4] 3)) = W0 := ⟨_, rfl⟩
  rw [hW0] at b0 b1 b2 b3 b4 hB0 hsz0 ⊢
  clear hW0
  refine wpIn_rangeFunc_ownG hro h1 (gf := 25) (lb := #[.pointer (some ⟨w.heap.size + 1 + 1 + 1, 0, none⟩), .pointer (some ⟨w.heap.size + 1 + 1 + 1 + 1, 0, none⟩)]) rfl (hF _) (enters_of Try.func25 (by kernel_rfl) rfl)
    (chunk_stops F (n - 1) (hF _) hro (by omega) (w.heap.size + 1 + 1 + 1) (w.heap.size + 1 + 1 + 1 + 1) w.heap.size A b off m M c (fun h => (HAB.out h).1) HM.out (by omega) (fun h => (HAB.out h).2.1) hMc hc W0 (by omega) (by omega) (by omega) b3.cell b4.cell) KpC.t (KpC.b (by omega) (by omega) (by omega)) (Below.refl _ _) (fun _ => rfl)
    (fun pre W => ((∃ v, Boxed W (w.heap.size + 1 + 1) 22 v ∧ W.ownsRow w.heap.size 28 4 v pre.length (rowsL f pre) ∧ True) ∧ ((∀ x ∈ pre, bdO f x.1 = false) ∧ (Boxed W w.heap.size 22 (.slice none 0 0) ∧ (Boxed W (w.heap.size + 1) 24 (.int .i64 0) ∧ (Boxed W (w.heap.size + 1 + 1 + 1) 23 (.slice A M c) ∧ Boxed W (w.heap.size + 1 + 1 + 1 + 1) 3 (.int .i64 4)))))) ∧ Below w.heap.size w W)
    (fun cd pre W => (cd = .ret ∧ (∃ x ∈ pre, bdO f x.1 = true) ∧ (Boxed W w.heap.size 22 (.slice none 0 0) ∧ Boxed W (w.heap.size + 1) 24 (.int .i64 3))) ∧ Below w.heap.size w W)
    (OwnFrom.and (OwnFrom.and (Own.from (holdsRow_own w.heap.size (w.heap.size + 1 + 1) 22 28 4 (fun pre => pre.length) (fun pre => rowsL f pre) (fun _ _ => True)) _) (OwnFrom.and (ownFrom_pure _ _) (OwnFrom.and (Own.from (boxed_own _ _ _) _) (OwnFrom.and (Own.from (boxed_own _ _ _) _) (OwnFrom.and (Own.from (boxed_own _ _ _) _) (Own.from (boxed_own _ _ _) _)))))) (ownFrom_below (Nat.le_refl _) (by omega)))
    (fun cd => OwnFrom.and (OwnFrom.and (ownFrom_pure _ _) (OwnFrom.and (ownFrom_pure _ _) (OwnFrom.and (Own.from (boxed_own _ _ _) _) (Own.from (boxed_own _ _ _) _)))) (ownFrom_below (Nat.le_refl _) (by omega)))
    ⟨⟨⟨_, b2, World.ownsRow_nil _ _ _ _, trivial⟩, by simp, b0, b1, b3, b4⟩, hB0⟩
    (fun x => { tmps := #[.int .i64 cs, .slice A M c, undef, undef, .pointer (some ⟨w.heap.size, 0, none⟩), .pointer (some ⟨w.heap.size + 1, 0, none⟩), .pointer (some ⟨w.heap.size + 1 + 1, 0, none⟩), .slice (some ⟨b, off + 4 * x.1, none⟩) 4 4, undef, .slice A M c, .int .i64 M, .int .i64 0, .bool false, .slice A M c, .func (.func 25) #[] #[.pointer (some ⟨w.heap.size + 1 + 1 + 1, 0, none⟩), .pointer (some ⟨w.heap.size + 1 + 1 + 1 + 1, 0, none⟩)], .slice (some ⟨b, off + 4 * x.1, none⟩) 4 4, undef, undef, undef, undef, undef, undef, undef, undef, undef, undef, undef, undef, undef, undef, undef, undef, undef, undef, undef, undef, undef, undef, undef, undef, undef, undef, undef, undef, undef, undef, undef, undef, undef], defers := [] }) ?assign ?body ?done ?stop
  case assign =>
    intro l x W K hK
    gi_wp2
    exact hK
  case body =>
    rintro l pre ⟨x, hx⟩ W ⟨⟨⟨v, hv, hrow, _⟩, hok, g0, g1, g3, g4⟩, hB⟩ hlt
    obtain ⟨hAe, hbw, hcl⟩ := HAB.out (by omega)
    clear hAe
    have hcW : ∀ j, j < 4 → W.cell? ⟨b, off + 4 * x + j, none⟩ = some (.int .i64 (f (4 * x + j))) := fun j hj => by
      rw [hB.cell (p := ⟨b, off + 4 * x + j, none⟩) hbw, Nat.add_assoc]; exact hcl _ (by have := HM.out; omega)
    have d0 : W.cell? ⟨b, off + 4 * x, none⟩ = some (.int .i64 (f (4 * x))) := hcW 0 (by omega)
    have d1 := hcW 1 (by omega)
    have d2 := hcW 2 (by omega)
    have d3 := hcW 3 (by omega)
    have D : Hid (row4L f x = [.int .i64 (f (4 * x)), .int .i64 (f (4 * x + 1)), .int .i64 (f (4 * x + 2)), .int .i64 (f (4 * x + 3))]) := Lib.hid rfl
    have E : Hid (bdO f x = decide (f (4 * x) = 1 ∧ f (4 * x + 3) ≠ 0)) := Lib.hid rfl
    obtain ⟨x0, h0⟩ : ∃ y, y = f (4 * x) := ⟨_, rfl⟩
    obtain ⟨x1, h1'⟩ : ∃ y, y = f (4 * x + 1) := ⟨_, rfl⟩
    obtain ⟨x2, h2⟩ : ∃ y, y = f (4 * x + 2) := ⟨_, rfl⟩
    obtain ⟨x3, h3⟩ : ∃ y, y = f (4 * x + 3) := ⟨_, rfl⟩
    rw [← h0, ← h1', ← h2, ← h3] at D
    rw [← h0, ← h3] at E
    rw [← h0] at d0
    rw [← h1'] at d1
    rw [← h2] at d2
    rw [← h3] at d3
    have k0 := g0.cell
    have k0f := g0.frozen
    have k1 := g1.cell
    have k1f := g1.frozen
    have kv := hv.cell
    have kvf := hv.frozen
    have HOK := Lib.hid hok
    clear hcW h0 h1' h2 h3 hcl hok
    by_cases hbad : x0 = 1 ∧ x3 ≠ 0
    · have HE : Hid (bdO f x = true) := Lib.hid (by rw [E.out]; exact decide_eq_true hbad)
      have q0 : (x0 == 1) = true := by rw [beq_iff_eq]; exact hbad.1
      have q3 : (x3 != 0) = true := by rw [bne_iff_ne]; exact hbad.2
      clear hbad
      gi_wp2
      exact ⟨((KeepsOthers.setCell _ _ _).trans (KeepsOthers.setCell _ _ _)).from _, ⟨rfl, ⟨⟨x, hx⟩, List.mem_append.2 (.inr (by simp)), HE.out⟩, (g0.set _).other (by omega) _, (g1.other (by omega) _).set _⟩, (hB.setCell (p := ⟨w.heap.size, 0, none⟩) (Nat.le_refl _) _).setCell (p := ⟨w.heap.size + 1, 0, none⟩) (by simp) _⟩
    · have HE : Hid (bdO f x = false) := Lib.hid (by rw [E.out]; exact decide_eq_false hbad)
      have HS : (fun W' : World => W'.cell? ⟨b, off + 4 * x, none⟩ = some (.int .i64 x0) ∧ W'.cell? ⟨b, off + 4 * x + 1, none⟩ = some (.int .i64 x1) ∧ W'.cell? ⟨b, off + 4 * x + 2, none⟩ = some (.int .i64 x2) ∧ W'.cell? ⟨b, off + 4 * x + 3, none⟩ = some (.int .i64 x3)) W.drew := ⟨d0, d1, d2, d3⟩
      have hbB : b < W.heap.size := by have := hB.size; omega
      have HSB : ∀ W', Below w.heap.size W W' → (fun W' : World => W'.cell? ⟨b, off + 4 * x, none⟩ = some (.int .i64 x0) ∧ W'.cell? ⟨b, off + 4 * x + 1, none⟩ = some (.int .i64 x1) ∧ W'.cell? ⟨b, off + 4 * x + 2, none⟩ = some (.int .i64 x2) ∧ W'.cell? ⟨b, off + 4 * x + 3, none⟩ = some (.int .i64 x3)) W' := fun W' hW' => ⟨(hW'.cell hbw).trans d0, (hW'.cell hbw).trans d1, (hW'.cell hbw).trans d2, (hW'.cell hbw).trans d3⟩
      obtain ⟨v', w1, hrun, hown', hgrow, -, -⟩ := run_append_own_at (P := Try.prog) (W.drew.alloc (.cells #[.int .i64 x0, .int .i64 x1, .int .i64 x2, .int .i64 x3] 28)) w.heap.size 22 22 28 i0 (.agg #[.int .i64 0, .int .i64 0, .int .i64 0, .int .i64 0]) 4 32 Try.underlying22 hi hz0 hz1 hz2 rfl (by decide) v pre.length _ ((show W.drew.ownsRow w.heap.size 28 4 v pre.length (rowsL f pre) from hrow).alloc _) ⟨W.heap.size, 0, none⟩ 1 1 (row4L f x) rfl (fun j u hu => by
        rw [D.out] at hu
        have hj : j < 4 := by
          have := (List.getElem?_eq_some_iff.1 hu).1
          simpa using this
        rw [add_plain', Nat.zero_add, cell_of_row _ W.heap.size j #[.int .i64 x0, .int .i64 x1, .int .i64 x2, .int .i64 x3] 28 (0, 0) (heap_alloc_new W.drew _)]
        simpa using hu) (fun u hu => by rw [D.out] at hu; simp at hu; rcases hu with rfl | rfl | rfl | rfl <;> rfl) (by unfold maxLen at *; have := HM.out; omega) (by have := HM.out; omega) (by have := hB.size; simp; omega)
      obtain ⟨g', cap', rfl⟩ := ownsRow_succ hown'
      obtain ⟨hv1, hv2, hr2, hk2, hb2⟩ := Boxed.appended (W := W.drew) (w1 := w1) hv (by decide) hrow hB.size (show w.heap.size ≤ w.heap.size + 1 + 1 by omega) hown' hgrow
      have hc1 := hv1.cell
      have hf1 := hv1.frozen
      have o0 := (Boxed.kept (W := W.drew.alloc (.cells #[.int .i64 x0, .int .i64 x1, .int .i64 x2, .int .i64 x3] 28)) (Boxed.alloc (W := W.drew) g0 _) hgrow (Boxed.not_row (W := W) g0 (by decide) hrow)).other (show w.heap.size ≠ w.heap.size + 1 + 1 by omega) (.slice (some ⟨g', 0, none⟩) (pre.length + 1) cap')
      have o1 := (Boxed.kept (W := W.drew.alloc (.cells #[.int .i64 x0, .int .i64 x1, .int .i64 x2, .int .i64 x3] 28)) (Boxed.alloc (W := W.drew) g1 _) hgrow (Boxed.not_row (W := W) g1 (by decide) hrow)).other (show w.heap.size + 1 ≠ w.heap.size + 1 + 1 by omega) (.slice (some ⟨g', 0, none⟩) (pre.length + 1) cap')
      have o3 := (Boxed.kept (W := W.drew.alloc (.cells #[.int .i64 x0, .int .i64 x1, .int .i64 x2, .int .i64 x3] 28)) (Boxed.alloc (W := W.drew) g3 _) hgrow (Boxed.not_row (W := W) g3 (by decide) hrow)).other (show w.heap.size + 1 + 1 + 1 ≠ w.heap.size + 1 + 1 by omega) (.slice (some ⟨g', 0, none⟩) (pre.length + 1) cap')
      have o4 := (Boxed.kept (W := W.drew.alloc (.cells #[.int .i64 x0, .int .i64 x1, .int .i64 x2, .int .i64 x3] 28)) (Boxed.alloc (W := W.drew) g4 _) hgrow (Boxed.not_row (W := W) g4 (by decide) hrow)).other (show w.heap.size + 1 + 1 + 1 + 1 ≠ w.heap.size + 1 + 1 by omega) (.slice (some ⟨g', 0, none⟩) (pre.length + 1) cap')
      have KP : Hid (KeepsFrom W0.heap.size W (w1.setCell ⟨w.heap.size + 1 + 1, 0, none⟩ (.slice (some ⟨g', 0, none⟩) (pre.length + 1) cap')) ∧ KpC w.heap.size (w.heap.size + 1 + 1 + 1) (w.heap.size + 1 + 1 + 1 + 1) W (w1.setCell ⟨w.heap.size + 1 + 1, 0, none⟩ (.slice (some ⟨g', 0, none⟩) (pre.length + 1) cap')) ∧ ((∃ v, Boxed (w1.setCell ⟨w.heap.size + 1 + 1, 0, none⟩ (.slice (some ⟨g', 0, none⟩) (pre.length + 1) cap')) (w.heap.size + 1 + 1) 22 v ∧ (w1.setCell ⟨w.heap.size + 1 + 1, 0, none⟩ (.slice (some ⟨g', 0, none⟩) (pre.length + 1) cap')).ownsRow w.heap.size 28 4 v (pre ++ [(⟨x, hx⟩ : { k : Nat // k < m })]).length (rowsL f (pre ++ [(⟨x, hx⟩ : { k : Nat // k < m })])) ∧ True) ∧ ((∀ x' ∈ pre ++ [(⟨x, hx⟩ : { k : Nat // k < m })], bdO f x'.1 = false) ∧ (Boxed (w1.setCell ⟨w.heap.size + 1 + 1, 0, none⟩ (.slice (some ⟨g', 0, none⟩) (pre.length + 1) cap')) w.heap.size 22 (.slice none 0 0) ∧ (Boxed (w1.setCell ⟨w.heap.size + 1 + 1, 0, none⟩ (.slice (some ⟨g', 0, none⟩) (pre.length + 1) cap')) (w.heap.size + 1) 24 (.int .i64 0) ∧ (Boxed (w1.setCell ⟨w.heap.size + 1 + 1, 0, none⟩ (.slice (some ⟨g', 0, none⟩) (pre.length + 1) cap')) (w.heap.size + 1 + 1 + 1) 23 (.slice A M c) ∧ Boxed (w1.setCell ⟨w.heap.size + 1 + 1, 0, none⟩ (.slice (some ⟨g', 0, none⟩) (pre.length + 1) cap')) (w.heap.size + 1 + 1 + 1 + 1) 3 (.int .i64 4)))))) ∧ Below w.heap.size w (w1.setCell ⟨w.heap.size + 1 + 1, 0, none⟩ (.slice (some ⟨g', 0, none⟩) (pre.length + 1) cap'))) := Lib.hid
        ⟨((KeepsOthers.drew W).trans hk2).from _, ⟨((Below.refl _ W).drew).trans hb2, (show _ = _ from o3).trans (show _ = _ from g3).symm, (show _ = _ from o4).trans (show _ = _ from g4).symm⟩, ⟨⟨_, hv2, by rw [rowsL_snoc]; simpa using hr2, trivial⟩, fun x' hx' => by
          rcases List.mem_append.1 hx' with h | h
          · exact HOK.out x' h
          · simp at h; subst h; exact HE.out, o0, o1, o3, o4⟩, hB.trans (((Below.refl _ W).drew).trans hb2)⟩
      have HS1 := HSB _ ((((Below.refl w.heap.size W).drew).alloc hB.size (.cells #[.int .i64 x0, .int .i64 x1, .int .i64 x2, .int .i64 x3] 28)).grown hgrow (by have := hB.size; simp; omega) (fun g hg => (hrow.lt g hg).1))
      have HS2 := HSB _ (((Below.refl w.heap.size W).drew).trans hb2)
      have HSA := HSB _ (((Below.refl w.heap.size W).drew).alloc hB.size (.cells #[.int .i64 x0, .int .i64 x1, .int .i64 x2, .int .i64 x3] 28))
      have kv2 := (hv.alloc (.cells #[.int .i64 x0, .int .i64 x1, .int .i64 x2, .int .i64 x3] 28)).cell
      clear o0 o1 o3 o4 hv1 hv2 hr2 hk2 hb2 hown' hgrow
      by_cases e0 : x0 = 1
      case' pos =>
        have q0 : (x0 == 1) = true := by rw [beq_iff_eq]; exact e0
        have q3 : (x3 != 0) = false := by
          have : x3 = 0 := Classical.byContradiction fun h => hbad ⟨e0, h⟩
          rw [this]; rfl
        clear hbad e0
      case' neg =>
        have q0 : (x0 == 1) = false := by rw [beq_eq_false_iff_ne]; exact e0
        clear hbad e0
      all_goals
        gi_wp2
        refine wpIn_region_anyR hFw.out (fun W' : World => W'.cell? ⟨b, off + 4 * x, none⟩ = some (.int .i64 x0) ∧ W'.cell? ⟨b, off + 4 * x + 1, none⟩ = some (.int .i64 x1) ∧ W'.cell? ⟨b, off + 4 * x + 2, none⟩ = some (.int .i64 x2) ∧ W'.cell? ⟨b, off + 4 * x + 3, none⟩ = some (.int .i64 x3)) (by kernel_rfl) ?_
        show anyR _ _ _ _ _ _ _ 17 _ _ _
        refine anyR_take (i := 1) (v := (.slice (some ⟨b, off + 4 * x, none⟩) 4 4)) (by kernel_rfl) rfl (by kernel_rfl) (by kernel_rfl) (by kernel_rfl) (fun _ _ _ h => h) ⟨rfl, fun W' hW => ?_⟩ HS ?_
        · obtain ⟨s0, s1, s2, s3⟩ := hW
          go_simp
        refine anyR_take (i := 2) (v := (.pointer (some ⟨b, off + 4 * x, none⟩))) (by kernel_rfl) rfl (by kernel_rfl) (by kernel_rfl) (by kernel_rfl) (fun _ _ _ h => h) ⟨rfl, fun W' hW => ?_⟩ HS ?_
        · obtain ⟨s0, s1, s2, s3⟩ := hW
          go_simp
        refine anyR_take (i := 3) (v := (.int .i64 x0)) (by kernel_rfl) rfl (by kernel_rfl) (by kernel_rfl) (by kernel_rfl) (fun _ _ _ h => h) ⟨rfl, fun W' hW => ?_⟩ HS ?_
        · obtain ⟨s0, s1, s2, s3⟩ := hW
          go_simp
        refine anyR_take (i := 4) (v := (.slice (some ⟨b, off + 4 * x, none⟩) 4 4)) (by kernel_rfl) rfl (by kernel_rfl) (by kernel_rfl) (by kernel_rfl) (fun _ _ _ h => h) ⟨rfl, fun W' hW => ?_⟩ HS ?_
        · obtain ⟨s0, s1, s2, s3⟩ := hW
          go_simp
        refine anyR_take (i := 5) (v := (.pointer (some ⟨b, off + 4 * x + 1, none⟩))) (by kernel_rfl) rfl (by kernel_rfl) (by kernel_rfl) (by kernel_rfl) (fun _ _ _ h => h) ⟨rfl, fun W' hW => ?_⟩ HS ?_
        · obtain ⟨s0, s1, s2, s3⟩ := hW
          go_simp
        refine anyR_take (i := 6) (v := (.int .i64 x1)) (by kernel_rfl) rfl (by kernel_rfl) (by kernel_rfl) (by kernel_rfl) (fun _ _ _ h => h) ⟨rfl, fun W' hW => ?_⟩ HS ?_
        · obtain ⟨s0, s1, s2, s3⟩ := hW
          go_simp
        refine anyR_take (i := 7) (v := (.slice (some ⟨b, off + 4 * x, none⟩) 4 4)) (by kernel_rfl) rfl (by kernel_rfl) (by kernel_rfl) (by kernel_rfl) (fun _ _ _ h => h) ⟨rfl, fun W' hW => ?_⟩ HS ?_
        · obtain ⟨s0, s1, s2, s3⟩ := hW
          go_simp
        refine anyR_take (i := 8) (v := (.pointer (some ⟨b, off + 4 * x + 2, none⟩))) (by kernel_rfl) rfl (by kernel_rfl) (by kernel_rfl) (by kernel_rfl) (fun _ _ _ h => h) ⟨rfl, fun W' hW => ?_⟩ HS ?_
        · obtain ⟨s0, s1, s2, s3⟩ := hW
          go_simp
        refine anyR_take (i := 9) (v := (.int .i64 x2)) (by kernel_rfl) rfl (by kernel_rfl) (by kernel_rfl) (by kernel_rfl) (fun _ _ _ h => h) ⟨rfl, fun W' hW => ?_⟩ HS ?_
        · obtain ⟨s0, s1, s2, s3⟩ := hW
          go_simp
        refine anyR_take (i := 10) (v := (.slice (some ⟨b, off + 4 * x, none⟩) 4 4)) (by kernel_rfl) rfl (by kernel_rfl) (by kernel_rfl) (by kernel_rfl) (fun _ _ _ h => h) ⟨rfl, fun W' hW => ?_⟩ HS ?_
        · obtain ⟨s0, s1, s2, s3⟩ := hW
          go_simp
        refine anyR_take (i := 11) (v := (.pointer (some ⟨b, off + 4 * x + 3, none⟩))) (by kernel_rfl) rfl (by kernel_rfl) (by kernel_rfl) (by kernel_rfl) (fun _ _ _ h => h) ⟨rfl, fun W' hW => ?_⟩ HS ?_
        · obtain ⟨s0, s1, s2, s3⟩ := hW
          go_simp
        refine anyR_take (i := 12) (v := (.int .i64 x3)) (by kernel_rfl) rfl (by kernel_rfl) (by kernel_rfl) (by kernel_rfl) (fun _ _ _ h => h) ⟨rfl, fun W' hW => ?_⟩ HS ?_
        · obtain ⟨s0, s1, s2, s3⟩ := hW
          go_simp
        refine anyR_take (i := 13) (v := (.agg #[.int .i64 x0, .int .i64 x1, .int .i64 x2, .int .i64 x3])) (by kernel_rfl) rfl (by kernel_rfl) (by kernel_rfl) (by kernel_rfl) (fun _ _ _ h => h) ⟨rfl, fun W' hW => ?_⟩ HS ?_
        · obtain ⟨s0, s1, s2, s3⟩ := hW
          go_simp
        refine anyR_all (rs := [0, 14]) (by kernel_rfl) (by simp) (fun i hi => ?_)
        rcases (by simpa using hi : i = 0 ∨ i = 14) with rfl | rfl
        · refine wpOpIn_go rfl rfl rfl (v := v) (w' := W.drew) (by go_simp) ⟨HS, ?_⟩
          refine anyR_all (rs := [14]) (by kernel_rfl) (by simp) (fun i hi => ?_)
          obtain rfl : i = 14 := by simpa using hi
          refine wpOpIn_go rfl rfl rfl (v := .slice (some ⟨W.heap.size, 0, none⟩) 1 1) (w' := W.drew.alloc (.cells #[.int .i64 x0, .int .i64 x1, .int .i64 x2, .int .i64 x3] 28)) (by go_simp) ⟨HSA, ?_⟩
          refine anyR_all (rs := [15]) (by kernel_rfl) (by simp) (fun i hi => ?_)
          obtain rfl : i = 15 := by simpa using hi
          refine wpOpIn_go (v := .slice (some ⟨g', 0, none⟩) (pre.length + 1) cap') (w' := w1) rfl rfl rfl ?_ ⟨HS1, ?_⟩
          · exact run_app_op (v1 := v) (v2 := .slice (some ⟨W.heap.size, 0, none⟩) 1 1) (.tmp 26) (.tmp 40) 22 rfl (by go_simp) (by go_simp) hrun
          refine anyR_all (rs := [16]) (by kernel_rfl) (by simp) (fun i hi => ?_)
          obtain rfl : i = 16 := by simpa using hi
          refine wpOpIn_skip rfl rfl rfl (w' := w1.setCell ⟨w.heap.size + 1 + 1, 0, none⟩ (.slice (some ⟨g', 0, none⟩) (pre.length + 1) cap')) (by go_simp) ⟨HS2, ?_⟩
          refine anyR_done (by kernel_rfl) ?_ _
          gi_wp2
          exact KP.out
        · refine wpOpIn_go rfl rfl rfl (v := .slice (some ⟨W.heap.size, 0, none⟩) 1 1) (w' := W.drew.alloc (.cells #[.int .i64 x0, .int .i64 x1, .int .i64 x2, .int .i64 x3] 28)) (by go_simp) ⟨HSA, ?_⟩
          refine anyR_all (rs := [0]) (by kernel_rfl) (by simp) (fun i hi => ?_)
          obtain rfl : i = 0 := by simpa using hi
          refine wpOpIn_go rfl rfl rfl (v := v) (w' := W.drew.alloc (.cells #[.int .i64 x0, .int .i64 x1, .int .i64 x2, .int .i64 x3] 28)) (by go_simp) ⟨HSA, ?_⟩
          refine anyR_all (rs := [15]) (by kernel_rfl) (by simp) (fun i hi => ?_)
          obtain rfl : i = 15 := by simpa using hi
          refine wpOpIn_go (v := .slice (some ⟨g', 0, none⟩) (pre.length + 1) cap') (w' := w1) rfl rfl rfl ?_ ⟨HS1, ?_⟩
          · exact run_app_op (v1 := v) (v2 := .slice (some ⟨W.heap.size, 0, none⟩) 1 1) (.tmp 26) (.tmp 40) 22 rfl (by go_simp) (by go_simp) hrun
          refine anyR_all (rs := [16]) (by kernel_rfl) (by simp) (fun i hi => ?_)
          obtain rfl : i = 16 := by simpa using hi
          refine wpOpIn_skip rfl rfl rfl (w' := w1.setCell ⟨w.heap.size + 1 + 1, 0, none⟩ (.slice (some ⟨g', 0, none⟩) (pre.length + 1) cap')) (by go_simp) ⟨HS2, ?_⟩
          refine anyR_done (by kernel_rfl) ?_ _
          gi_wp2
          exact KP.out
  case done =>
    rintro D ys W hD rfl ⟨⟨⟨v, hv, hrow, _⟩, hok, g0, g1, g3, g4⟩, hB⟩ hK
    obtain ⟨A2, c2, rfl, hown⟩ := own_rowsL hrow (by unfold maxLen at *; have := HM.out; omega)
    have kv := hv.cell
    have hle := hown.le
    have hown_le := hown.2
    have hchk : CallsIn F (n - 1) Try.prog 12 #[.int .i64 cs, .slice A2 m c2] W fun e w' => e = .returned (.int .i64 (ckO cs m f)) ∧ Below W.heap.size W w' := by
      rw [hFw.out]
      exact callsIn_wide.2 (check_any cs A2 m c2 f W (by rw [Nat.mul_comm]; exact hown.rd) (by unfold maxLen at *; have := HM.out; omega))
    gi_wp2
    refine hchk.mono ?_
    rintro e w3 ⟨rfl, hb3⟩
    have o0 : Boxed w3 w.heap.size 22 (.slice none 0 0) := (hb3.block _ g0.lt).trans g0
    have o1 : Boxed w3 (w.heap.size + 1) 24 (.int .i64 0) := (hb3.block _ g1.lt).trans g1
    have ov : Boxed w3 (w.heap.size + 1 + 1) 22 (.slice A2 m c2) := (hb3.block _ hv.lt).trans hv
    have hDl : D < W.heap.size := (Array.getElem?_eq_some_iff.1 hK).1
    have hK3 : w3.heap[D]? = some (.deferred (some [])) := (hb3.block D hDl).trans hK
    have hB3 := hB.trans (hb3.mono hB.size)
    have own3 := hown.below hb3
    have hm4 : M / 4 = m := by have := HM.out; omega
    have hz4 : ¬ M % 4 ≠ 0 := by have := HM.out; omega
    have hno : anyB (bdO f) m = false := anyB_false.2 fun k hk => hok ⟨k, hk⟩ (mem_chs hk (Nat.le_refl m))
    have HOE : Hid (ordE cs M f = ckO cs m f) := Lib.hid (by unfold ordE; rw [if_neg hz4, hm4, if_neg (by rw [hno]; decide)])
    have l0 := o0.cell
    have l0f := o0.frozen
    have l1 := o1.cell
    have l1f := o1.frozen
    have lv := ov.cell
    clear hok hno hz4 kv hchk g0 g1 g3 g4 hrow hv hown
    obtain ⟨E, hE⟩ : ∃ E, E = ckO cs m f := ⟨_, rfl⟩
    rw [← hE] at HOE ⊢
    clear hE
    by_cases h0 : E = 0
    · have q0 : (E != 0) = false := by rw [h0]; rfl
      have HE0 : Hid (ordE cs M f = 0) := Lib.hid (by rw [HOE.out, h0])
      clear h0 HOE
      gi_wp2
      have e0 := (o0.set (.slice A2 m c2)).other (show w.heap.size ≠ w.heap.size + 1 by omega) (.int .i64 0)
      have e1 := (o1.other (show w.heap.size + 1 ≠ w.heap.size by omega) (.slice A2 m c2)).set (.int .i64 0)
      have r1 := own3.1.kept (grownBy_setCell' w3 w.heap.size (.slice A2 m c2)) (.inr (o0.not_row (by decide) own3.1).symm)
      have r2 := r1.kept (grownBy_setCell' (w3.setCell ⟨w.heap.size, 0, none⟩ (.slice A2 m c2)) (w.heap.size + 1) (.int .i64 0)) (.inr ((o1.other (show w.heap.size + 1 ≠ w.heap.size by omega) (.slice A2 m c2)).not_row (by decide) r1).symm)
      have hKs := ((KeepsOthers.setCell w3 ⟨w.heap.size, 0, none⟩ (.slice A2 m c2)).trans (KeepsOthers.setCell _ ⟨w.heap.size + 1, 0, none⟩ (.int .i64 0))).same D _ hK3 rfl
      refine ⟨by simp, .inl ⟨_, _, rfl, run_takeDeferred hKs, ?_⟩⟩
      have c0 := cell_kept e0.cell (grownBy_putObj' _ D (.deferred none)) (fun r e => by cases e; exact ⟨_, hKs, rfl⟩)
      have c1 := cell_kept e1.cell (grownBy_putObj' _ D (.deferred none)) (fun r e => by cases e; exact ⟨_, hKs, rfl⟩)
      refine ⟨.tuple #[.slice A2 m c2, .int .i64 0], ?_, ((hB3.setCell (p := ⟨w.heap.size, 0, none⟩) (Nat.le_refl _) _).setCell (p := ⟨w.heap.size + 1, 0, none⟩) (by simp) _).trans (belowK_b (w := w) (Nat.le_refl _) _ D _ _ (by omega) hKs rfl rfl), .inr ⟨HE0.out, A2, c2, by rw [hm4], ?_, by rw [hm4]; exact hle.1, hle.2⟩⟩
      · simp [results, Try.f14, go_sem, c0, c1]
      · rw [hm4, Nat.mul_comm]
        exact (show Own _ w.heap.size 28 4 A2 m c2 (4 * m) (fun q => .int .i64 (f q)) from ⟨ownsRow_putObj r2 _ hKs rfl, hown_le⟩).rd
    · have q0 : (E != 0) = true := by rw [bne_iff_ne]; exact h0
      have HE0 := Lib.hid h0
      clear h0
      gi_wp2
      have e0 := (o0.set (.slice none 0 0)).other (show w.heap.size ≠ w.heap.size + 1 by omega) (.int .i64 E)
      have e1 := (o1.other (show w.heap.size + 1 ≠ w.heap.size by omega) (.slice none 0 0)).set (.int .i64 E)
      have hKs := ((KeepsOthers.setCell w3 ⟨w.heap.size, 0, none⟩ (.slice none 0 0)).trans (KeepsOthers.setCell _ ⟨w.heap.size + 1, 0, none⟩ (.int .i64 E))).same D _ hK3 rfl
      refine ⟨by simp, .inl ⟨_, _, rfl, run_takeDeferred hKs, ?_⟩⟩
      have c0 := cell_kept e0.cell (grownBy_putObj' _ D (.deferred none)) (fun r e => by cases e; exact ⟨_, hKs, rfl⟩)
      have c1 := cell_kept e1.cell (grownBy_putObj' _ D (.deferred none)) (fun r e => by cases e; exact ⟨_, hKs, rfl⟩)
      refine ⟨.tuple #[.slice none 0 0, .int .i64 E], ?_, ((hB3.setCell (p := ⟨w.heap.size, 0, none⟩) (Nat.le_refl _) _).setCell (p := ⟨w.heap.size + 1, 0, none⟩) (by simp) _).trans (belowK_b (w := w) (Nat.le_refl _) _ D _ _ (by omega) hKs rfl rfl), .inl ⟨by rw [HOE.out]; exact HE0.out, by rw [HOE.out]⟩⟩
      simp [results, Try.f14, go_sem, c0, c1]
  case stop =>
    rintro D cd pre W hD hpre ⟨⟨rfl, ⟨x, hx, hbx⟩, g0, g1⟩, hB⟩ hK
    gi_wp2
    refine ⟨by simp, .inl ⟨_, _, rfl, run_takeDeferred hK, ?_⟩⟩
    have c0 := cell_kept g0.cell (grownBy_putObj' _ D (.deferred none)) (fun r e => by cases e; exact ⟨_, hK, rfl⟩)
    have c1 := cell_kept g1.cell (grownBy_putObj' _ D (.deferred none)) (fun r e => by cases e; exact ⟨_, hK, rfl⟩)
    have hm4 : M / 4 = m := by have := HM.out; omega
    have hz4 : ¬ M % 4 ≠ 0 := by have := HM.out; omega
    have hyes : anyB (bdO f) m = true := anyB_yes x.2 hbx
    have hoe : ordE cs M f = 3 := by unfold ordE; rw [if_neg hz4, hm4, if_pos hyes]
    refine ⟨.tuple #[.slice none 0 0, .int .i64 3], ?_, hB.trans (belowK_b (w := w) (Nat.le_refl _) W D _ _ (by omega) hK rfl rfl), .inl ⟨by rw [hoe]; decide, by rw [hoe]⟩⟩
    simp [results, Try.f14, go_sem, c0, c1]
set_option maxRecDepth 100000 in
theorem orders_form (cs : Int) (A : Option Addr) (M c : Nat) (f : Nat → Int) (w : World) (hz : M * 8 ≤ 140737488351232) (h4 : M % 4 ≠ 0) :
    Calls Try.prog 14 #[.int .i64 cs, .slice A M c] w (OrdRet cs M f w) := by
  have hM4 : ((M : Nat) : Int) % 4 ≠ 0 := by omega
  have hq : (((M : Nat) : Int) % 4 != 0) = true := by rw [bne_iff_ne]; exact hM4
  have HOE : Hid (ordE cs M f = 3) := Lib.hid (if_pos h4)
  clear hM4 h4
  go_enter Try.func14, Try.ntmps14
  go_wp2_with fail
  have c0 := ((Boxed.new w 22 (.slice none 0 0)).alloc (.cells #[.int .i64 3] 24)).cell
  have c1 := (Boxed.new (w.alloc (.cells #[.slice none 0 0] 22)) 24 (.int .i64 3)).cell
  simp only [World.size_alloc] at c1
  exact bodyPost_ret (v := .tuple #[.slice none 0 0, .int .i64 3]) (by simp [results, Try.results14, go_sem, c0, c1]) rfl ⟨((Below.refl _ w).alloc (Nat.le_refl _) _).alloc (by simp) _, .inl ⟨by rw [HOE.out]; decide, by rw [HOE.out]⟩⟩
theorem orders_any (cs : Int) (A : Option Addr) (M c : Nat) (f : Nat → Int) (w : World) (hA : Rd w A M (fun i => .int .i64 (f i))) (hMc : M ≤ c) (hc : c ≤ maxLen) (hz : M * 8 ≤ 140737488351232) :
    Calls Try.prog 14 #[.int .i64 cs, .slice A M c] w (OrdRet cs M f w) := by
  by_cases h4 : M % 4 = 0
  · exact callsIn_wide.1 (orders_in Fence.wide (Lib.hid rfl) 8 rfl (Nat.le_refl _) (fun _ => trivial) cs A (M / 4) M c f w (by omega) hA hMc hc hz)
  · exact orders_form cs A M c f w hz h4
end Go.Proofs.Ytmdcfbofjlpbmaa
