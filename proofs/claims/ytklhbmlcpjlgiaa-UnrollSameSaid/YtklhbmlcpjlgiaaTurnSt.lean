/- The state of a function that puts gates while it grows two lists of numbers. No condition. -/
import Derived.Test.YtklhbmlcpjlgiaaPut
import Derived.Test.YtklhbmlcpjlgiaaGrowLaw
namespace Go.Proofs.Ytklhbmlcpjlgiaa
open Go.ChangeShapes Go.WideShapes Go.ChangeAt Go.RowKit Go.Maps
set_option linter.unusedVariables false
theorem EIt : Elem Try.prog 49 3 1 8 := Elem.of Try.underlying49 (by kernel_rfl : (Try.prog.info? 3).map (fun i => (i.zero, i.size, i.bytes)) = some (some (.int .i64 0), 1, 8)) rfl (by omega)
theorem intG : (3 : TypeId) ≠ 59 := by decide
theorem PutR.g {T N B base n : Nat} {F : Nat → Int} {A : Option Addr} {c : Nat} {M : Option Nat} {R : Nat → Value} {kd a b : Int} {w w' : World} {e : Ending} (h : PutR T N B base n F A c M R kd a b w e w') :
    ∃ (i n' : Nat) (F' : Nat → Int) (A' : Option Addr) (c' : Nat) (M' : Option Nat) (R' : Nat → Value), e = .returned (.int .i64 (i : Nat)) ∧ PutG n n' i F F' kd a b ∧ Mk w' T N B base n' F' A' c' M' R' ∧ (∀ j, 2 ≤ j → R' j = R j) ∧ Below base w w' ∧ KeepW B (.slice A n c) M w w' := by
  obtain ⟨i, n', F', A', c', M', R', h1, h2, h3, h4, h5, h6, h7, h8, h9, h10, h11, h12, h13⟩ := h
  exact ⟨i, n', F', A', c', M', R', h1, ⟨h2, h3, h4, h5, h6, h7, h8, h9⟩, h10, h11, h12, h13⟩
theorem Own.sepT {W : World} {base s : Nat} {e T B N : Nat} {A : Option Addr} {n c k : Nat} {C R : Nat → Value} (h : Own W base e s A n c k C) (hr : W.rowIs B T N R) (he : T ≠ e) : ∀ g, (Value.slice A n c).ownBlock = some g → g ≠ B := fun g hg e' => by
  subst e'
  obtain ⟨cur, hc⟩ := h.objG g hg
  obtain ⟨cs, h1, _⟩ := hr
  rw [h1] at hc
  cases hc
  exact he rfl
theorem Mk.grown {W W' : World} {T N B base n : Nat} {F : Nat → Int} {A : Option Addr} {c : Nat} {M : Option Nat} {R : Nat → Value} {row : Option Nat} {e : TypeId} (h : Mk W T N B base n F A c M R) (hg : W.grownBy W' row) (he : e ≠ 59) (hT : e ≠ T) (hr : ∀ g, row = some g → ∃ cur, W.heap[g]? = some (.cells cur e (0, 0))) : Mk W' T N B base n F A c M R := by
  refine ⟨h.row.of_block (hg.block B h.row.lt fun e' => ?_), h.two, h.typ, h.ge, h.r0, h.r1, h.own.kept hg fun g hg' e' => ?_, fun b hb => ?_⟩
  · obtain ⟨cur, hc⟩ := hr B e'.symm
    obtain ⟨cs, h1, _⟩ := h.row
    rw [h1] at hc; cases hc; exact hT rfl
  · obtain ⟨cur, hc⟩ := hr g e'.symm
    obtain ⟨cur', hc'⟩ := h.own.objG g hg'
    rw [hc] at hc'; cases hc'; exact he rfl
  · obtain ⟨h1, m, h2, h3⟩ := h.map b hb
    refine ⟨h1, m, h2, h3.kept hg fun e' => ?_⟩
    obtain ⟨cur, hc⟩ := hr b e'.symm
    obtain ⟨es, cl, ho⟩ := h3.obj
    rw [ho] at hc; cases hc
theorem Mk.keepG {w w' : World} {T N B base n : Nat} {F : Nat → Int} {A : Option Addr} {c : Nat} {M : Option Nat} {R : Nat → Value} (h : Mk w T N B base n F A c M R) (k : KeepW B (.slice A n c) M w w') : KeepG B w w' := ⟨k.1, fun g cs t z h1 h2 h3 => k.2 g (Array.getElem?_eq_some_iff.1 h1).1 h3 (fun e => by
  obtain ⟨cur, hc⟩ := h.own.objG g e
  rw [h1] at hc; cases hc; exact h2 rfl) (fun e => by
  obtain ⟨_, m, _, hm⟩ := h.map g e
  obtain ⟨es, cl, ho⟩ := hm.obj
  rw [h1] at ho; cases ho)⟩
structure TS (inn : Int) (F0 : Nat → Int) (w wr : World) (B q k ny : Nat) (F : Nat → Int) (A : Option Addr) (c : Nat) (M : Option Nat) (R : Nat → Value) (Ay : Option Addr) (cy : Nat) (Y : Nat → Nat) (An : Option Addr) (cn : Nat) (Z : Nat → Nat) : Prop where
  mm : Mk wr 48 2 B w.heap.size ny F A c M R
  le : ny ≤ q
  oy : Own wr w.heap.size 3 1 Ay k cy k (fun j => .int .i64 (Y j : Nat))
  on : Own wr w.heap.size 3 1 An k cn k (fun j => .int .i64 (Z j : Nat))
  dis : ∀ g, (Value.slice Ay k cy).ownBlock = some g → (Value.slice An k cn).ownBlock ≠ some g
  ti : TI inn F0 F ny k Y Z
  bel : Below w.heap.size w wr
section
variable {inn : Int} {F0 : Nat → Int} {w wr : World} {B q k ny : Nat} {F : Nat → Int} {A : Option Addr} {c : Nat} {M : Option Nat} {R : Nat → Value} {Ay : Option Addr} {cy : Nat} {Y : Nat → Nat} {An : Option Addr} {cn : Nat} {Z : Nat → Nat}
theorem TS.below {wr' : World} (h : TS inn F0 w wr B q k ny F A c M R Ay cy Y An cn Z) (hb : Below wr.heap.size wr wr') : TS inn F0 w wr' B q k ny F A c M R Ay cy Y An cn Z :=
  ⟨h.mm.below hb, h.le, h.oy.below hb, h.on.below hb, h.dis, h.ti, h.bel.trans (hb.mono h.bel.size)⟩
theorem TS.put {wr' : World} {i n' : Nat} {F' : Nat → Int} {A' : Option Addr} {c' : Nat} {M' : Option Nat} {R' : Nat → Value} {kd a b : Int} (h : TS inn F0 w wr B q k ny F A c M R Ay cy Y An cn Z) (p : PutG ny n' i F F' kd a b) (hm : Mk wr' 48 2 B w.heap.size n' F' A' c' M' R') (hb : Below w.heap.size wr wr') (hk : KeepG B wr wr')
    (h1 : 1 ≤ kd ∧ kd ≤ 4) (h2 : kd = 1 → 0 ≤ a ∧ a < inn) (h3 : 1 < kd → 0 ≤ a ∧ a < ny) (h4 : 2 < kd → 0 ≤ b ∧ b < ny) : TS inn F0 w wr' B (q + 1) k n' F' A' c' M' R' Ay cy Y An cn Z :=
  ⟨hm, by have := p.le1; have := h.le; omega, h.oy.keepG hk intG (h.oy.sepT h.mm.row (by decide)), h.on.keepG hk intG (h.on.sepT h.mm.row (by decide)), h.dis, h.ti.ext p (p.gw h.ti.gw h1 h2 h3 h4), h.bel.trans hb⟩
end
end Go.Proofs.Ytklhbmlcpjlgiaa
