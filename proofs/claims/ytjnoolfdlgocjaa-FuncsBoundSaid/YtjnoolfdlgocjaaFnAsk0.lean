/- funcs.ask, general: no fuel; zero, next, pick. Condition: the list is good and reads as told. -/
import Derived.Test.YtjnoolfdlgocjaaFnCheck
import Derived.Test.YtjnoolfdlgocjaaFnRk
import Derived.Test.YtjnoolfdlgocjaaClone
import Derived.IntWalk
import Derived.BigQuiet
namespace Go.Proofs.Ytjnoolfdlgocjaa
open Go.ChangeShapes Go.WideShapes Go.ChangeAt Go.RowKit
set_option linter.unusedVariables false
set_option linter.unusedSimpArgs false
def b2f (v0 v1 : Value) (q : Nat) : Value := if q = 0 then v0 else v1
/-- the asker lies in block a; the list reads; what was there before w is as it was -/
structure AkG (D : Nat → SF) (b off n c : Nat) (w W : World) (a : Nat) (k : Int) : Prop where
  row : W.rowIs a 42 2 (b2f (.slice (some ⟨b, off, none⟩) n c) (.int .i64 k))
  ale : w.heap.size ≤ a
  bel : Below w.heap.size w W
  rd : Rd w (some ⟨b, off, none⟩) (n * 6) (fcF D)
  good : ∀ i, (D i).good w
theorem AkG.more {D : Nat → SF} {b off n c : Nat} {w W : World} {a : Nat} {k : Int} (h : AkG D b off n c w W a k) (k' : Int) : AkG D b off n c w (W.setCell ⟨a, 1, none⟩ (.int .i64 k')) a k' :=
  ⟨(h.row.set 1 _).congr fun i hi => by
    match i, hi with
    | 0, _ => rfl
    | 1, _ => rfl, h.ale, h.bel.setCell h.ale _, h.rd, h.good⟩
theorem AkG.below {D : Nat → SF} {b off n c : Nat} {w W W' : World} {a : Nat} {k : Int} (h : AkG D b off n c w W a k) (hb : Below W.heap.size W W') : AkG D b off n c w W' a k :=
  ⟨h.row.of_block (hb.block _ h.row.lt), h.ale, h.bel.trans (hb.mono h.bel.size), h.rd, h.good⟩
/-- nothing but block a has turned -/
def Kp (a : Nat) (W W' : World) : Prop := W.heap.size ≤ W'.heap.size ∧ ∀ g, g < W.heap.size → g ≠ a → W'.heap[g]? = W.heap[g]?
theorem Kp.refl (a : Nat) (W : World) : Kp a W W := ⟨Nat.le_refl _, fun _ _ _ => rfl⟩
theorem Kp.trans {a : Nat} {W W1 W2 : World} (h : Kp a W W1) (k : Kp a W1 W2) : Kp a W W2 := ⟨Nat.le_trans h.1 k.1, fun g hg hn => (k.2 g (Nat.lt_of_lt_of_le hg h.1) hn).trans (h.2 g hg hn)⟩
theorem Kp.below {a : Nat} {W W' : World} (h : Below W.heap.size W W') : Kp a W W' := ⟨h.size, fun g hg _ => h.block g hg⟩
theorem Kp.set (a : Nat) (W : World) (v : Value) : Kp a W (W.setCell ⟨a, 1, none⟩ v) := ⟨by simp [World.setCell], fun g _ hn => Below.heap_setCell _ _ _ _ hn⟩
def Off (m : Nat) (A : Option Addr) (a : Nat) : Prop := 0 < m → ∀ g o, A = some ⟨g, o, none⟩ → g ≠ a
theorem Rd.kp {a : Nat} {W W' : World} {A : Option Addr} {n : Nat} {C : Nat → Value} (h : Rd W A n C) (hk : Kp a W W') (ho : Off n A a) : Rd W' A n C := fun hn => by
  obtain ⟨b, off, e, hb, hc⟩ := h hn
  refine ⟨b, off, e, Nat.lt_of_lt_of_le hb hk.1, fun i hi => ?_⟩
  rw [← hc i hi]
  exact World.cell?_of_block (hk.2 b hb (ho hn b off e))
theorem Kp.low {a base : Nat} {W W1 W2 : World} (h : Kp a W W1) (hb : Below base W1 W2) (hle : W.heap.size ≤ base) : Kp a W W2 := ⟨Nat.le_trans h.1 hb.size, fun g hg hn => (hb.block g (Nat.lt_of_lt_of_le hg hle)).trans (h.2 g hg hn)⟩
theorem AkG.low {D : Nat → SF} {b off n c : Nat} {w W W' : World} {a base : Nat} {k : Int} (h : AkG D b off n c w W a k) (hb : Below base W W') (ha : a < base) : AkG D b off n c w W' a k :=
  ⟨h.row.of_block (hb.block _ ha), h.ale, h.bel.trans (hb.mono (by have := h.ale; omega)), h.rd, h.good⟩
theorem row_kp {a : Nat} {W W' : World} {b : Nat} {t : TypeId} {n : Nat} {F : Nat → Value} (h : W.rowIs b t n F) (hk : Kp a W W') (hb : b ≠ a) : W'.rowIs b t n F := h.of_block (hk.2 b h.lt hb)
theorem Own.kp {a base : Nat} {W W' : World} {e : TypeId} {s : Nat} {A : Option Addr} {n c k : Nat} {C : Nat → Value} (h : Own W base e s A n c k C) (hk : Kp a W W') (hb : a < base) : Own W' base e s A n c k C :=
  h.of_block fun g hg => hk.2 g (h.lt g hg).2 (by have := (h.lt g hg).1; omega)
theorem Own.off {a base : Nat} {W : World} {e : TypeId} {s : Nat} {A : Option Addr} {n c k : Nat} {C : Nat → Value} (h : Own W base e s A n c k C) (m : Nat) (hb : a < base) : Off m A a := fun _ g o e => by
  subst e
  have := (h.lt g rfl).1
  omega
theorem rowF (w : World) (t : TypeId) (a b c d e f : Value) (F : Nat → Value) (h0 : F 0 = a) (h1 : F 1 = b) (h2 : F 2 = c) (h3 : F 3 = d) (h4 : F 4 = e) (h5 : F 5 = f) : (w.alloc (.cells #[a, b, c, d, e, f] t)).rowIs w.heap.size t 6 F :=
  World.rowIs_alloc w #[a, b, c, d, e, f] t F fun i hi => by
    have : i < 6 := hi
    match i, this with
    | 0, _ => simp [h0]
    | 1, _ => simp [h1]
    | 2, _ => simp [h2]
    | 3, _ => simp [h3]
    | 4, _ => simp [h4]
    | 5, _ => simp [h5]
/-- one function's cells -/
def f6 (K a p u y : Int) (s : Value) (q : Nat) : Value := match q with | 0 => .int .i64 K | 1 => .int .i64 a | 2 => .int .i64 p | 3 => .int .i64 u | 4 => .int .i64 y | _ => s
/-- what ask leaves -/
def AskR (D : Nat → SF) (b off n c i : Nat) (w W : World) (a : Nat) (k : Int) (m : Nat) (V : Nat → Int) (e : Ending) (w' : World) : Prop :=
  ∃ x k', e = .returned (.int .i64 x) ∧ AkG D b off n c w w' a k' ∧ Kp a W w' ∧ AskP D i m V x k k'
theorem AskR.of {D : Nat → SF} {b off n c i : Nat} {w W : World} {a : Nat} {k : Int} {m : Nat} {V : Nat → Int} {e : Ending} {w' : World} (x k' : Int) (h : e = .returned (.int .i64 x)) (h1 : AkG D b off n c w w' a k' ∧ Kp a W w') (h2 : AskP D i m V x k k') : AskR D b off n c i w W a k m V e w' := ⟨x, k', h, h1.1, h1.2, h2⟩
/-- the contract of ask at function i -/
def AskC (D : Nat → SF) (b off n c i : Nat) : Prop := ∀ (w W : World) (a : Nat) (k : Int) (A : Option Addr) (m ca : Nat) (V : Nat → Int), ((m : Nat) : Int) = (D i).a → AkG D b off n c w W a k → 0 ≤ k ∧ k ≤ 20000 → Rd W A m (fun q => .int .i64 (V q)) → Off m A a → m ≤ ca → ca ≤ maxLen → (∀ q, q < m → 0 ≤ V q ∧ V q ≤ 1000) →
    Calls Try.prog 15 #[.pointer (some ⟨a, 0, none⟩), .int .i64 (i : Nat), .slice A m ca] W fun e w' => AskR D b off n c i w W a k m V e w'
set_option maxRecDepth 100000 in
set_option maxHeartbeats 2000000 in
theorem askOut
    (D : Nat → SF) (b off n c i : Nat) (w W : World) (a : Nat) (k : Int) (A : Option Addr) (m ca : Nat) (V : Nat → Int) (hin : i < n) (hn : n ≤ 12) (hok : okFn D i) (hm : ((m : Nat) : Int) = (D i).a) (h : AkG D b off n c w W a k) (hk : 0 ≤ k ∧ k ≤ 20000) (hk0 : k < 1) (hA : Rd W A m (fun q => .int .i64 (V q))) (ho : Off m A a) (hmc : m ≤ ca) (hca : ca ≤ maxLen) (hV : ∀ q, q < m → 0 ≤ V q ∧ V q ≤ 1000) :
    Calls Try.prog 15 #[.pointer (some ⟨a, 0, none⟩), .int .i64 (i : Nat), .slice A m ca] W fun e w' => AskR D b off n c i w W a k m V e w' := by
  have HV := Lib.hid hV
  have HO := Lib.hid ho
  have HOK := Lib.hid hok
  have HMA := Lib.hid hm
  have k0 : W.cell? ⟨a, 0, none⟩ = some (.slice (some ⟨b, off, none⟩) n c) := h.row.cell (i := 0) (by omega)
  have k1 : W.cell? ⟨a, 1, none⟩ = some (.int .i64 k) := h.row.cell (i := 1) (by omega)
  have z1 := h.row.frozen 1
  have HM := Lib.hid (h.more (k - 1))
  have hs1 : (W.setCell ⟨a, 1, none⟩ (.int .i64 (k - 1))).heap.size = W.heap.size := by simp [World.setCell]
  have k0' : (W.setCell ⟨a, 1, none⟩ (.int .i64 (k - 1))).cell? ⟨a, 0, none⟩ = some (.slice (some ⟨b, off, none⟩) n c) := HM.out.row.cell (i := 0) (by omega)
  have la : a < W.heap.size := h.row.lt
  have wk : IntKind.i64.wrap (k - 1) = k - 1 := IntWalk.i64_in _ (by omega)
  unfold maxLen at hca
  clear h ho hA hs1 hV hok hm
  go_enter Try.func15, Try.ntmps15
  go_wp2_with fail
  go_ret
  exact AskR.of (-1) (k - 1) rfl ⟨HM.out, Kp.set a W _⟩ (AskP.none D i m V k (k - 1) ⟨by omega, by omega⟩)
set_option maxRecDepth 100000 in
set_option maxHeartbeats 2000000 in
theorem askZero
    (D : Nat → SF) (b off n c i : Nat) (w W : World) (a : Nat) (k : Int) (A : Option Addr) (m ca : Nat) (V : Nat → Int) (hin : i < n) (hn : n ≤ 12) (hok : okFn D i) (hkind : (D i).k = 1) (hm : ((m : Nat) : Int) = (D i).a) (h : AkG D b off n c w W a k) (hk : 1 ≤ k ∧ k ≤ 20000) (hA : Rd W A m (fun q => .int .i64 (V q))) (ho : Off m A a) (hmc : m ≤ ca) (hca : ca ≤ maxLen) (hV : ∀ q, q < m → 0 ≤ V q ∧ V q ≤ 1000) :
    Calls Try.prog 15 #[.pointer (some ⟨a, 0, none⟩), .int .i64 (i : Nat), .slice A m ca] W fun e w' => AskR D b off n c i w W a k m V e w' := by
  have HV := Lib.hid hV
  have HO := Lib.hid ho
  have HOK := Lib.hid hok
  have HMA := Lib.hid hm
  have k0 : W.cell? ⟨a, 0, none⟩ = some (.slice (some ⟨b, off, none⟩) n c) := h.row.cell (i := 0) (by omega)
  have k1 : W.cell? ⟨a, 1, none⟩ = some (.int .i64 k) := h.row.cell (i := 1) (by omega)
  have z1 := h.row.frozen 1
  have HM := Lib.hid (h.more (k - 1))
  have hs1 : (W.setCell ⟨a, 1, none⟩ (.int .i64 (k - 1))).heap.size = W.heap.size := by simp [World.setCell]
  have k0' : (W.setCell ⟨a, 1, none⟩ (.int .i64 (k - 1))).cell? ⟨a, 0, none⟩ = some (.slice (some ⟨b, off, none⟩) n c) := HM.out.row.cell (i := 0) (by omega)
  have la : a < W.heap.size := h.row.lt
  have wk : IntKind.i64.wrap (k - 1) = k - 1 := IntWalk.i64_in _ (by omega)
  unfold maxLen at hca
  have HRL := Lib.hid (h.rd.below HM.out.bel)
  obtain ⟨c0, c1, c2, c3, c4, c5⟩ := fc_at HRL.out hin
  have lb : b < W.heap.size := by
    obtain ⟨b', o', e, hh, _⟩ := h.rd.at_ (show 0 < n * 6 by omega)
    cases e
    have := h.bel.size
    omega
  obtain ⟨f, hf⟩ : ∃ f, f = D i := ⟨_, rfl⟩
  have hsg := (h.good i).2.below h.bel
  rw [← hf] at c0 c1 c2 c3 c4 c5 hkind hsg hm
  obtain ⟨fk, fa, fp, fx, fy, ⟨sA, sn, sc, sf⟩⟩ := f
  change _ = some (Value.slice sA sn sc) at c5
  simp only [] at c0 c1 c2 c3 c4 hkind hm
  subst hkind
  obtain ⟨hsr, _, hsl, hsm⟩ := hsg
  change Rd W sA sn (fun i => .int .i64 (sf i)) at hsr
  change sn ≤ sc at hsl
  change sc ≤ maxLen at hsm
  unfold maxLen at hsm
  have HSR := Lib.hid hsr
  have HF := Lib.hid hf
  have e0 : (D i).k = 1 := by rw [← hf]
  have e1 : (D i).a = fa := by rw [← hf]
  have e2 : (D i).p = fp := by rw [← hf]
  have e3 : (D i).x = fx := by rw [← hf]
  have e4 : (D i).y = fy := by rw [← hf]
  have e5 : (D i).s.n = sn := by rw [← hf]
  have e6 : (D i).s.f = sf := by rw [← hf]
  have hok' := hok
  unfold okFn at hok'
  rw [e0, e1, e2, e3, e4, e5, e6] at hok'
  have HE := Lib.hid (And.intro e0 (And.intro e1 (And.intro e2 (And.intro e3 (And.intro e4 (And.intro e5 e6))))))
  clear hsr hf e0 e1 e2 e3 e4 e5 e6
  have HR1 := Lib.hid (hA.kp (Kp.set a W (.int .i64 (k - 1))) ho)
  have HZ := Lib.hid hs1
  clear h ho hA hs1 hV hok
  clear hok' hm
  go_enter Try.func15, Try.ntmps15
  go_wp2_with fail
  go_ret
  exact AskR.of 0 (k - 1) rfl ⟨HM.out.below ((Below.refl _ _).alloc (Nat.le_refl _) _), (Kp.set a W _).trans (Kp.below ((Below.refl _ _).alloc (Nat.le_refl _) _))⟩ (AskP.low ⟨by omega, by omega⟩ (by omega) fun M h0 _ => h0)
set_option maxRecDepth 100000 in
set_option maxHeartbeats 2000000 in
theorem askNext
    (D : Nat → SF) (b off n c i : Nat) (w W : World) (a : Nat) (k : Int) (A : Option Addr) (m ca : Nat) (V : Nat → Int) (hin : i < n) (hn : n ≤ 12) (hok : okFn D i) (hkind : (D i).k = 2) (hm : ((m : Nat) : Int) = (D i).a) (h : AkG D b off n c w W a k) (hk : 1 ≤ k ∧ k ≤ 20000) (hA : Rd W A m (fun q => .int .i64 (V q))) (ho : Off m A a) (hmc : m ≤ ca) (hca : ca ≤ maxLen) (hV : ∀ q, q < m → 0 ≤ V q ∧ V q ≤ 1000) :
    Calls Try.prog 15 #[.pointer (some ⟨a, 0, none⟩), .int .i64 (i : Nat), .slice A m ca] W fun e w' => AskR D b off n c i w W a k m V e w' := by
  have HV := Lib.hid hV
  have HO := Lib.hid ho
  have HOK := Lib.hid hok
  have HMA := Lib.hid hm
  have k0 : W.cell? ⟨a, 0, none⟩ = some (.slice (some ⟨b, off, none⟩) n c) := h.row.cell (i := 0) (by omega)
  have k1 : W.cell? ⟨a, 1, none⟩ = some (.int .i64 k) := h.row.cell (i := 1) (by omega)
  have z1 := h.row.frozen 1
  have HM := Lib.hid (h.more (k - 1))
  have hs1 : (W.setCell ⟨a, 1, none⟩ (.int .i64 (k - 1))).heap.size = W.heap.size := by simp [World.setCell]
  have k0' : (W.setCell ⟨a, 1, none⟩ (.int .i64 (k - 1))).cell? ⟨a, 0, none⟩ = some (.slice (some ⟨b, off, none⟩) n c) := HM.out.row.cell (i := 0) (by omega)
  have la : a < W.heap.size := h.row.lt
  have wk : IntKind.i64.wrap (k - 1) = k - 1 := IntWalk.i64_in _ (by omega)
  unfold maxLen at hca
  have HRL := Lib.hid (h.rd.below HM.out.bel)
  obtain ⟨c0, c1, c2, c3, c4, c5⟩ := fc_at HRL.out hin
  have lb : b < W.heap.size := by
    obtain ⟨b', o', e, hh, _⟩ := h.rd.at_ (show 0 < n * 6 by omega)
    cases e
    have := h.bel.size
    omega
  obtain ⟨f, hf⟩ : ∃ f, f = D i := ⟨_, rfl⟩
  have hsg := (h.good i).2.below h.bel
  rw [← hf] at c0 c1 c2 c3 c4 c5 hkind hsg hm
  obtain ⟨fk, fa, fp, fx, fy, ⟨sA, sn, sc, sf⟩⟩ := f
  change _ = some (Value.slice sA sn sc) at c5
  simp only [] at c0 c1 c2 c3 c4 hkind hm
  subst hkind
  obtain ⟨hsr, _, hsl, hsm⟩ := hsg
  change Rd W sA sn (fun i => .int .i64 (sf i)) at hsr
  change sn ≤ sc at hsl
  change sc ≤ maxLen at hsm
  unfold maxLen at hsm
  have HSR := Lib.hid hsr
  have HF := Lib.hid hf
  have e0 : (D i).k = 2 := by rw [← hf]
  have e1 : (D i).a = fa := by rw [← hf]
  have e2 : (D i).p = fp := by rw [← hf]
  have e3 : (D i).x = fx := by rw [← hf]
  have e4 : (D i).y = fy := by rw [← hf]
  have e5 : (D i).s.n = sn := by rw [← hf]
  have e6 : (D i).s.f = sf := by rw [← hf]
  have hok' := hok
  unfold okFn at hok'
  rw [e0, e1, e2, e3, e4, e5, e6] at hok'
  have HE := Lib.hid (And.intro e0 (And.intro e1 (And.intro e2 (And.intro e3 (And.intro e4 (And.intro e5 e6))))))
  clear hsr hf e0 e1 e2 e3 e4 e5 e6
  have HR1 := Lib.hid (hA.kp (Kp.set a W (.int .i64 (k - 1))) ho)
  have HZ := Lib.hid hs1
  have hm1 : m = 1 := by have := hok'.2.2.1 rfl; omega
  subst hm1
  obtain ⟨g, o, rfl, lg, hcv⟩ := HR1.out.at_ (show 0 < 1 by omega)
  obtain ⟨v, hv'⟩ : ∃ v, v = V 0 := ⟨_, rfl⟩
  have hvb := hV 0 (by omega)
  rw [← hv'] at hcv hvb
  have HVV := Lib.hid hv'
  rw [hs1] at lg
  rw [Nat.add_zero] at hcv
  clear hv' hok' hm
  clear h ho hA hs1 hV hok
  by_cases hv : v < 1000
  · go_enter Try.func15, Try.ntmps15
    go_wp2_with fail
    go_ret
    exact AskR.of (v + 1) (k - 1) rfl ⟨HM.out.below ((Below.refl _ _).alloc (Nat.le_refl _) _), (Kp.set a W _).trans (Kp.below ((Below.refl _ _).alloc (Nat.le_refl _) _))⟩ (by rw [HVV.out]; exact AskP.next (HMA.out.symm) (by omega) (by rw [← HVV.out]; omega) (by omega))
  · go_enter Try.func15, Try.ntmps15
    go_wp2_with fail
    go_ret
    exact AskR.of (-1) (k - 1) rfl ⟨HM.out.below ((Below.refl _ _).alloc (Nat.le_refl _) _), (Kp.set a W _).trans (Kp.below ((Below.refl _ _).alloc (Nat.le_refl _) _))⟩ (AskP.none D i 1 V k (k - 1) ⟨by omega, by omega⟩)
set_option maxRecDepth 100000 in
set_option maxHeartbeats 2000000 in
theorem askPick
    (D : Nat → SF) (b off n c i : Nat) (w W : World) (a : Nat) (k : Int) (A : Option Addr) (m ca : Nat) (V : Nat → Int) (hin : i < n) (hn : n ≤ 12) (hok : okFn D i) (hkind : (D i).k = 3) (hm : ((m : Nat) : Int) = (D i).a) (h : AkG D b off n c w W a k) (hk : 1 ≤ k ∧ k ≤ 20000) (hA : Rd W A m (fun q => .int .i64 (V q))) (ho : Off m A a) (hmc : m ≤ ca) (hca : ca ≤ maxLen) (hV : ∀ q, q < m → 0 ≤ V q ∧ V q ≤ 1000) :
    Calls Try.prog 15 #[.pointer (some ⟨a, 0, none⟩), .int .i64 (i : Nat), .slice A m ca] W fun e w' => AskR D b off n c i w W a k m V e w' := by
  have HV := Lib.hid hV
  have HO := Lib.hid ho
  have HOK := Lib.hid hok
  have HMA := Lib.hid hm
  have k0 : W.cell? ⟨a, 0, none⟩ = some (.slice (some ⟨b, off, none⟩) n c) := h.row.cell (i := 0) (by omega)
  have k1 : W.cell? ⟨a, 1, none⟩ = some (.int .i64 k) := h.row.cell (i := 1) (by omega)
  have z1 := h.row.frozen 1
  have HM := Lib.hid (h.more (k - 1))
  have hs1 : (W.setCell ⟨a, 1, none⟩ (.int .i64 (k - 1))).heap.size = W.heap.size := by simp [World.setCell]
  have k0' : (W.setCell ⟨a, 1, none⟩ (.int .i64 (k - 1))).cell? ⟨a, 0, none⟩ = some (.slice (some ⟨b, off, none⟩) n c) := HM.out.row.cell (i := 0) (by omega)
  have la : a < W.heap.size := h.row.lt
  have wk : IntKind.i64.wrap (k - 1) = k - 1 := IntWalk.i64_in _ (by omega)
  unfold maxLen at hca
  have HRL := Lib.hid (h.rd.below HM.out.bel)
  obtain ⟨c0, c1, c2, c3, c4, c5⟩ := fc_at HRL.out hin
  have lb : b < W.heap.size := by
    obtain ⟨b', o', e, hh, _⟩ := h.rd.at_ (show 0 < n * 6 by omega)
    cases e
    have := h.bel.size
    omega
  obtain ⟨f, hf⟩ : ∃ f, f = D i := ⟨_, rfl⟩
  have hsg := (h.good i).2.below h.bel
  rw [← hf] at c0 c1 c2 c3 c4 c5 hkind hsg hm
  obtain ⟨fk, fa, fp, fx, fy, ⟨sA, sn, sc, sf⟩⟩ := f
  change _ = some (Value.slice sA sn sc) at c5
  simp only [] at c0 c1 c2 c3 c4 hkind hm
  subst hkind
  obtain ⟨hsr, _, hsl, hsm⟩ := hsg
  change Rd W sA sn (fun i => .int .i64 (sf i)) at hsr
  change sn ≤ sc at hsl
  change sc ≤ maxLen at hsm
  unfold maxLen at hsm
  have HSR := Lib.hid hsr
  have HF := Lib.hid hf
  have e0 : (D i).k = 3 := by rw [← hf]
  have e1 : (D i).a = fa := by rw [← hf]
  have e2 : (D i).p = fp := by rw [← hf]
  have e3 : (D i).x = fx := by rw [← hf]
  have e4 : (D i).y = fy := by rw [← hf]
  have e5 : (D i).s.n = sn := by rw [← hf]
  have e6 : (D i).s.f = sf := by rw [← hf]
  have hok' := hok
  unfold okFn at hok'
  rw [e0, e1, e2, e3, e4, e5, e6] at hok'
  have HE := Lib.hid (And.intro e0 (And.intro e1 (And.intro e2 (And.intro e3 (And.intro e4 (And.intro e5 e6))))))
  clear hsr hf e0 e1 e2 e3 e4 e5 e6
  have HR1 := Lib.hid (hA.kp (Kp.set a W (.int .i64 (k - 1))) ho)
  have HZ := Lib.hid hs1
  obtain ⟨pp, hpp⟩ : ∃ pp : Nat, fp = pp := ⟨fp.toNat, by have := hok'.2.2.2.1 rfl; omega⟩
  subst hpp
  have hpm : pp < m := by have := hok'.2.2.2.1 rfl; omega
  have hpmI : (pp : Int) < (m : Int) := by omega
  obtain ⟨g, o, rfl, lg, hcv⟩ := HR1.out.at_ hpm
  obtain ⟨v, hv'⟩ : ∃ v, v = V pp := ⟨_, rfl⟩
  have hvb := hV pp hpm
  rw [← hv'] at hcv hvb
  have HVV := Lib.hid hv'
  rw [hs1] at lg
  clear hv' hok' hm
  clear h ho hA hs1 hV hok
  go_enter Try.func15, Try.ntmps15
  go_wp2_with fail
  go_ret
  exact AskR.of v (k - 1) rfl ⟨HM.out.below ((Below.refl _ _).alloc (Nat.le_refl _) _), (Kp.set a W _).trans (Kp.below ((Below.refl _ _).alloc (Nat.le_refl _) _))⟩ (AskP.low ⟨by omega, by omega⟩ (by omega) fun M h0 hM => by have := hM pp hpm; have := HVV.out; omega)
end Go.Proofs.Ytjnoolfdlgocjaa
