/- append to a slice of one's own, in a fenced walk. No condition. -/
import Derived.Test.YtmnleblbandghaaApp
import Derived.OwnWalkIn
namespace Go.Proofs.Ytmnleblbandghaa
open Go.ChangeShapes Go.WideShapes Go.ChangeAt Go.RowKit
set_option linter.unusedVariables false
theorem wpListIn_app {F : Fence} {nn : Nat} {P : Program} (w : World) {ops : Array Oper} {rest : List Oper} {o : Oper} {a : Act} {Q : Exit → Act → World → Prop} (hgd : o.guard = none) (sx x : Operand) (t : TypeId)
    (ho : o.op = .call { callee := .builtin .append, args := #[sx, x], argTypes := #[t, t] }) {e : TypeId} {s bytes base : Nat} (E : Elem P t e s bytes) {A : Option Addr} {n c k : Nat} {C : Nat → Value} (hs : a.eval sx = .slice A n c) (hown : Own w base e s A n c k C)
    {B : Option Addr} {m d l : Nat} {D : Nat → Value} (hx : a.eval x = .slice B m d) (hl : l = m * s) (hr : Rd w B l D) (h1 : ∀ i, i < l → (D i).oneCell' = true)
    (h63 : n + m ≤ maxLen) (hbytes : (n + m) * bytes ≤ 140737488355328) (hbase : base ≤ w.heap.size) (q kq : Nat) (hq : q = n + m) (hkq : kq = k + l)
    (h : ∀ A' c' w', Own w' base e s A' q c' kq (cat k C D) → w.grownBy w' (Value.slice A n c).ownBlock → ((Value.slice A' q c').ownBlock = (Value.slice A n c).ownBlock ∨ (Value.slice A' q c').ownBlock = some w.heap.size) → Below base w w' → wpListIn F nn P ops Q rest (a.put o.dst (.slice A' q c')) w') : wpListIn F nn P ops Q (o :: rest) a w := by
  subst hq; subst hkq
  refine wpListIn_plain hgd fun K hK' => ?_
  obtain ⟨A', c', w', hrun, h2, h3, h4⟩ := run_app (P := P) w (ty := o.type) (d := d) E hown hl hr h1 h63 hbytes hbase
  unfold Oper.wpIn
  refine ⟨?_, ?_⟩
  · simp [Oper.about, ho, resolve, Target.leads, Sem.run_pure]
  · rw [Oper.semAt_plain F _ _ (by rw [ho]; intro c hc'; cases hc')]
    simp [execOp, ho, resolve, invoke, builtin, hs, hx, hrun, Result.andThen]
    exact hK' _ _ (h A' c' w' h2 h3 h4 ((Below.refl _ _).grown h3 hbase fun g hg => (hown.lt g hg).1))
end Go.Proofs.Ytmnleblbandghaa
