/- A region that draws its order, in a round of a loop over an iterator: reads first, one writer last (the kit's law for the plain walk, carried over to the round). No condition. -/
import Derived.Test.YtmdcfbofjlpbmaaLib
import Derived.StillTailTactics
import Derived.OrdersIn
import Derived.RangeFuncCalls
import Derived.TacticsIn
namespace Go.Proofs.Ytmdcfbofjlpbmaa
open Go.RowKit
set_option linter.unusedVariables false
def noDefer (o : Oper) : Bool := match o.op with
  | .defer _ => false
  | _ => true
theorem noDefer_spec {o : Oper} (h : noDefer o = true) : ∀ c, o.op ≠ .defer c := fun c e => by
  unfold noDefer at h; rw [e] at h; cases h
section
variable {l n : Nat} {P : Program} {ops : Array Oper} {md : Region.Mode} {w : World}
theorem wpIn_of_still {o : Oper} {a : Act} {K : Act → Prop} {K' : Act → World → Prop} {Q' : Exit → Act → World → Prop} (hd : noDefer o = true) (h : ∀ a, K a → K' a w) (hh : o.still P a w K) : o.wpIn (Fence.wide.inRound l) n P a w K' Q' := by
  unfold Oper.still at hh
  unfold Oper.wpIn
  refine ⟨fun _ _ => trivial, ?_⟩
  rw [show (Fence.wide.inRound l).round = some l from rfl, Oper.semAt_some l _ _ (noDefer_spec hd)]
  generalize (execOp a.eval o).run P w = r at *
  cases r with
  | ok x w' =>
    cases x <;> simp only [Oper.stillUpon] at hh <;> simp only [Oper.uponIn]
    case enter f args =>
      obtain ⟨rfl, v, hc, hn⟩ := hh
      refine ⟨fun h => (by cases h), CallsIn.inRound l (callsIn_wide.2 (hc.mono fun e w'' ⟨he, hw⟩ => ?_))⟩
      subst he; subst hw; exact h _ hn
    all_goals (obtain ⟨rfl, h2⟩ := hh; exact h _ h2)
  | halt x w' => simp only [Oper.stillUpon] at hh
theorem wpOpIn_of_stOp {i : Nat} {a : Act} {K : Act → Prop} {K' : Act → World → Prop} {Q' : Exit → Act → World → Prop} (hd : ∀ (i : Nat) (o : Oper), ops[i]? = some o → noDefer o = true) (h : ∀ a, K a → K' a w) (hh : stOp P ops w i K a) : wpOpIn (Fence.wide.inRound l) n P ops Q' i K' a w := by
  unfold stOp at hh
  unfold wpOpIn
  split
  · rename_i ho; simp only [ho] at hh; exact h _ hh
  · rename_i o ho
    simp only [ho] at hh
    split
    · rename_i hw; simp only [hw, if_true] at hh; exact wpIn_of_still (hd i o ho) h hh
    · rename_i hw; simp only [hw] at hh; exact ⟨fun _ _ => trivial, h _ hh⟩
theorem wpAnyIn_of_head {k g : Nat} {L : Array Bool → Act → Prop} {Q' : Exit → Act → World → Prop} (hd : ∀ (i : Nat) (o : Oper), ops[i]? = some o → noDefer o = true) (hL : ∀ listed a, L listed a → wpAnyIn (Fence.wide.inRound l) n P md ops Q' g listed a w) :
    ∀ (f : Nat) (listed : Array Bool) (a : Act), wpAnyL P md ops w k L f listed a → wpAnyIn (Fence.wide.inRound l) n P md ops Q' (f + g) listed a w
  | 0, listed, a, h => by rw [Nat.zero_add]; exact hL _ _ h
  | f + 1, listed, a, h => by
    rw [show f + 1 + g = (f + g) + 1 by omega]
    exact ⟨fun h0 => absurd h0 h.1, fun i hi => wpOpIn_of_stOp hd (fun a' h' => wpAnyIn_of_head hd hL f _ a' h') (h.2 i hi).2⟩
theorem wpAnyIn_of_seq {Q' : Exit → Act → World → Prop} : ∀ (t : List Oper) (k : Nat) (listed : Array Bool) (a : Act) (w : World), (∀ j, t[j]? = ops[k + j]?) →
    Region.seqB md ops t.length k listed = true → wpListIn (Fence.wide.inRound l) n P ops Q' t a w → wpAnyIn (Fence.wide.inRound l) n P md ops Q' t.length listed a w
  | [], _, _, _, _, _, hB, h => ⟨by simpa [Region.seqB] using hB, h⟩
  | o :: t, k, listed, a, w, hl, hB, h => by
    have h0 : ops[k]? = some o := by simpa using (hl 0).symm
    simp only [List.length_cons, Region.seqB, Bool.and_eq_true, decide_eq_true_eq] at hB
    refine ⟨fun h1 => (by rw [hB.1] at h1; cases h1), fun i hi => ?_⟩
    rw [hB.1] at hi
    have hik : i = k := by simpa using hi
    subst hik
    have hw : wpOpIn (Fence.wide.inRound l) n P ops Q' i (wpListIn (Fence.wide.inRound l) n P ops Q' t) a w := by unfold wpOpIn; simp only [h0]; exact h
    exact wpOpIn_mono (fun a' w' h' => wpAnyIn_of_seq t (i + 1) _ a' w' (fun j => by have := hl (j + 1); simpa [Nat.add_assoc, Nat.add_comm 1 j] using this) hB.2 h') hw
theorem wpIn_region_still_tail {F : Fence} (hF : F = Fence.wide) {id : Nat} {Q : Exit → Act → World → Prop} {a : Act} {w : World} {t : List Oper} (k : Nat) (hm : P.follows .mixedOrders = true) (hB : Region.lexTailB .any t.toArray k = true) (hD : t.all noDefer = true)
    (h : wpStill P t.toArray w.drew (fun a' => wpListIn (F.inRound l) n P t.toArray Q (t.drop k) a' w.drew) (t.take k) a) : (Code.region id t.toArray true).wpIn (F.inRound l) n P Q a w := by
  subst hF
  simp only [Region.lexTailB, Bool.and_eq_true, decide_eq_true_eq] at hB
  obtain ⟨⟨⟨⟨hsel, hn⟩, hs⟩, hc⟩, hlex⟩ := hB
  have hd : ∀ (i : Nat) (o : Oper), t.toArray[i]? = some o → noDefer o = true := fun i o ho => by
    have : t[i]? = some o := by simpa using ho
    exact List.all_eq_true.1 hD o (List.mem_of_getElem? this)
  have hn' : k < t.length := by simpa using hn
  have htl : (t.take k).length = k := by simp; omega
  have hdl : (t.drop k).length = t.toArray.size - k := by simp
  have inv0 : HeadInv .any t.toArray k (Array.replicate t.toArray.size false) :=
    ⟨by simp, fun j oj _ hl => (by rw [getD_replicate_false] at hl; cases hl), fun t _ ht => getD_in (by simpa using ht) (getD_replicate_false _ _)⟩
  have H := wpAnyL_lex (md := .any) (g := t.toArray.size - k) hsel hs hc hn (t.take k) 0 _ a (fun j hj => by
    have hj' : j < k := by rw [htl] at hj; exact hj
    simp [hj']) (by simpa using htl) inv0 (by rw [htl]; exact hlex) h
  refine wpIn_region_any hm ?_
  have := wpAnyIn_of_head (l := l) (n := n) (Q' := Q) (g := t.toArray.size - k) hd (fun listed a' hL => by
    have := wpAnyIn_of_seq (l := l) (n := n) (md := .any) (Q' := Q) (t.drop k) k listed a' w.drew (fun j => by simp [List.getElem?_drop]) (by rw [hdl]; exact hL.1) hL.2
    rwa [hdl] at this) _ _ _ H
  rw [htl, show k + (t.toArray.size - k) = t.toArray.size by omega] at this
  exact this
/-- in each world with S the operation gives v and leaves the world -/
def GivesIf (P : Program) (S : World → Prop) (o : Oper) (v : Value) (a : Act) : Prop := o.guard = none ∧ ∀ w, S w → (execOp a.eval o).run P w = .ok (.value v) w
theorem wanted_of {o : Oper} {f : Nat → Option Bool} (h : o.guard = none) : Region.wanted o f = true := by simp [Region.wanted, h]
theorem GivesIf.wpOpIn {S : World → Prop} {i : Nat} {o : Oper} {v : Value} {a : Act} {Q : Exit → Act → World → Prop} (hd : noDefer o = true) (hi : ops[i]? = some o) (hy : GivesIf P S o v a) {K : Act → World → Prop} (hS : S w) (h : K (a.put o.dst v) w) : wpOpIn (Fence.wide.inRound l) n P ops Q i K a w := by
  unfold Go.wpOpIn
  simp only [hi, wanted_of hy.1, if_true]
  refine ⟨fun _ _ => trivial, ?_⟩
  rw [show (Fence.wide.inRound l).round = some l from rfl, Oper.semAt_some l _ _ (noDefer_spec hd), hy.2 w hS]
  exact h
theorem wpOpIn_besides {S : World → Prop} {j : Nat} {oi oj : Oper} {v : Value} {Q : Exit → Act → World → Prop} (hd : noDefer oj = true) (hj : ops[j]? = some oj) (hap : oi.apart ops oj = true) (hsi : ∀ cs b, oi.op ≠ .select cs b) (hsj : ∀ cs b, oj.op ≠ .select cs b)
    (hQ : ∀ c a w, Q (.panic c) (a.put oi.dst v) w → Q (.panic c) a w) {K : Act → World → Prop} {a : Act} (hy : GivesIf P S oi v a) (h : wpOpIn (Fence.wide.inRound l) n P ops Q j K (a.put oi.dst v) w) :
    wpOpIn (Fence.wide.inRound l) n P ops Q j (fun a' w' => GivesIf P S oi v a' ∧ K (a'.put oi.dst v) w') a w := by
  obtain ⟨h1, h2, h3⟩ := Oper.apart_spec hap
  have keep : ∀ u, GivesIf P S oi v (a.put oj.dst u) := fun u => ⟨hy.1, by rw [execOp_put oi hsi a oj.dst u h3]; exact hy.2⟩
  unfold Go.wpOpIn at *
  simp only [hj] at *
  rw [wanted_put oj a oi.dst v h1] at h
  split
  · rename_i hw
    simp only [hw, if_true] at h
    refine ⟨fun _ _ => trivial, ?_⟩
    have h := h.2
    rw [show (Fence.wide.inRound l).round = some l from rfl, Oper.semAt_some l _ _ (noDefer_spec hd)] at h ⊢
    rw [execOp_put oj hsj a oi.dst v h1] at h
    generalize (execOp a.eval oj).run P w = r at *
    cases r with
    | ok x w' =>
      cases x <;> simp only [Oper.uponIn] at h ⊢
      case value u => exact ⟨keep u, by rw [← Act.put_comm a v u h2]; exact h⟩
      case skip => exact ⟨keep _, by rw [← Act.put_comm a v undef h2]; exact h⟩
      case defer d => exact ⟨⟨hy.1, by rw [execOp_put oi hsi { a with defers := d :: a.defers } oj.dst undef h3]; exact hy.2⟩, by rw [← Act.put_comm _ v undef h2, ← Act.put_defers]; exact h⟩
      case enter f args =>
        refine ⟨h.1, CallsIn.mono h.2 fun e w'' he => ?_⟩
        cases e with
        | returned u => exact ⟨keep u, by rw [← Act.put_comm a v u h2]; exact he⟩
        | panicked c => exact hQ _ _ _ he
        | outgrown => exact he
      case row row args => exact ⟨h.1, RowsIn.mono h.2 fun u w'' he => ⟨keep u, by rw [← Act.put_comm a v u h2]; exact he⟩⟩
      case round l f tmps assign body =>
        refine ⟨h.1, RoundIn.mono h.2 fun e w'' he => ?_⟩
        cases e with
        | returned u => exact ⟨keep u, by rw [← Act.put_comm a v u h2]; exact he⟩
        | panicked c => exact hQ _ _ _ he
        | outgrown => exact he
    | halt x w' =>
      cases x <;> simp only [Oper.uponIn] at h ⊢
      case panic u => exact hQ _ _ _ h
  · rename_i hw
    simp only [hw] at h
    exact ⟨fun _ _ => trivial, keep _, by rw [← Act.put_comm a v undef h2]; exact h.2⟩
/-- whatever comes up, in a round; behind each operation S holds -/
def anyR (l n : Nat) (P : Program) (md : Region.Mode) (ops : Array Oper) (Q : Exit → Act → World → Prop) (S : World → Prop) : Nat → Array Bool → Act → World → Prop
  | 0, listed, a, w => Region.ready md ops listed = [] ∧ Q .normal a w
  | f + 1, listed, a, w => (Region.ready md ops listed = [] → Q .normal a w) ∧ ∀ i ∈ Region.ready md ops listed, wpOpIn (Fence.wide.inRound l) n P ops Q i (fun a' w' => S w' ∧ anyR l n P md ops Q S f (listed.setIfInBounds i true) a' w') a w
theorem wpAnyIn_of_anyR {Q : Exit → Act → World → Prop} {S : World → Prop} : ∀ (f : Nat) (listed : Array Bool) (a : Act) (w : World), anyR l n P md ops Q S f listed a w → wpAnyIn (Fence.wide.inRound l) n P md ops Q f listed a w
  | 0, _, _, _, h => h
  | f + 1, _, _, _, h => ⟨h.1, fun i hi => wpOpIn_mono (fun a' w' h' => wpAnyIn_of_anyR f _ a' w' h'.2) (h.2 i hi)⟩
theorem anyR_first {Q : Exit → Act → World → Prop} {S : World → Prop} {i : Nat} {oi : Oper} {v : Value} (hd : ∀ (i : Nat) (o : Oper), ops[i]? = some o → noDefer o = true) (hi : ops[i]? = some oi) (hsel : ∀ (j : Nat) (o : Oper) cs b, ops[j]? = some o → o.op ≠ .select cs b)
    (hQ : ∀ c a w, Q (.panic c) (a.put oi.dst v) w → Q (.panic c) a w) : ∀ (f : Nat) (listed : Array Bool) (a : Act) (w : World),
      (∀ j oj, ops[j]? = some oj → j ≠ i → listed.getD j true = false → (∀ e ∈ oj.after, Region.binds md e = true → e.on ≠ i) → oi.apart ops oj = true) →
      i ∈ Region.ready md ops listed → GivesIf P S oi v a → S w → anyR l n P md ops Q S f (listed.setIfInBounds i true) (a.put oi.dst v) w → anyR l n P md ops Q S (f + 1) listed a w := by
  intro f
  induction f with
  | zero =>
    intro listed a w _ hr hy hS H
    refine ⟨fun h => (by rw [h] at hr; cases hr), fun j hj => ?_⟩
    by_cases hji : j = i
    · subst hji; exact hy.wpOpIn (hd j oi hi) hi hS ⟨hS, H⟩
    · have := ready_mono hj hji
      rw [H.1] at this
      cases this
  | succ f ih =>
    intro listed a w hfree hr hy hS H
    refine ⟨fun h => (by rw [h] at hr; cases hr), fun j hj => ?_⟩
    by_cases hji : j = i
    · subst hji; exact hy.wpOpIn (hd j oi hi) hi hS ⟨hS, H⟩
    · obtain ⟨hjun, oj, hoj, hall⟩ := mem_ready.1 hj
      have hnot : ∀ e ∈ oj.after, Region.binds md e = true → e.on ≠ i := fun e he hb heq => by
        have h1 := hall e he hb
        rw [heq, getD_both (mem_ready.1 hr).1] at h1
        cases h1
      have h2 := wpOpIn_besides (hd j oj hoj) hoj (hfree j oj hoj hji hjun hnot) (fun cs b => hsel i oi cs b hi) (fun cs b => hsel j oj cs b hoj) hQ hy (H.2 j (ready_mono hj hji))
      refine wpOpIn_mono (fun a' w' h3 => ⟨h3.2.1, ih (listed.setIfInBounds j true) a' w' (fun k ok hk hki hun hno => ?_) (ready_mono hr (Ne.symm hji)) h3.1 h3.2.1 ?_⟩) h2
      · refine hfree k ok hk hki ?_ hno
        by_cases hjk : j = k
        · subst hjk; exact hjun
        · rw [getD_set_ne true hjk] at hun; exact hun
      · rw [Array.setIfInBounds_comm _ _ hji]
        exact h3.2.2
theorem anyR_take {t : List Oper} {Q : Exit → Act → World → Prop} {S : World → Prop} {i : Nat} {oi : Oper} {v : Value} {f : Nat} {listed : Array Bool} {a : Act} (hD : t.all noDefer = true) (hi : t.toArray[i]? = some oi) (hs : Region.noSelect t.toArray = true) (hf : Region.free md t.toArray listed i = true) (hr : (Region.ready md t.toArray listed).contains i = true)
    (hQ : ∀ c a w, Q (.panic c) (a.put oi.dst v) w → Q (.panic c) a w) (hy : GivesIf P S oi v a) (hS : S w) (h : anyR l n P md t.toArray Q S f (listed.setIfInBounds i true) (a.put oi.dst v) w) : anyR l n P md t.toArray Q S (f + 1) listed a w :=
  anyR_first (fun i o ho => by
    have : t[i]? = some o := by simpa using ho
    exact List.all_eq_true.1 hD o (List.mem_of_getElem? this)) hi (Region.noSelect_spec hs) hQ f listed a w (Region.free_spec hi hf) (by simpa using hr) hy hS h
theorem anyR_all {rs : List Nat} {Q : Exit → Act → World → Prop} {S : World → Prop} {f : Nat} {listed : Array Bool} {a : Act} (hr : Region.ready md ops listed = rs) (hne : rs ≠ []) (h : ∀ i ∈ rs, wpOpIn (Fence.wide.inRound l) n P ops Q i (fun a' w' => S w' ∧ anyR l n P md ops Q S f (listed.setIfInBounds i true) a' w') a w) : anyR l n P md ops Q S (f + 1) listed a w :=
  ⟨fun h0 => absurd (hr ▸ h0) hne, hr ▸ h⟩
theorem anyR_done {Q : Exit → Act → World → Prop} {S : World → Prop} {listed : Array Bool} {a : Act} (hr : Region.ready md ops listed = []) (h : Q .normal a w) : ∀ f, anyR l n P md ops Q S f listed a w
  | 0 => ⟨hr, h⟩
  | _ + 1 => ⟨fun _ => h, by rw [hr]; simp⟩
/-- an operation of no guard, no deferral: as in the plain walk -/
theorem wpOpIn_go {i : Nat} {o : Oper} {Q : Exit → Act → World → Prop} {K : Act → World → Prop} {a : Act} (hi : ops[i]? = some o) (hd : noDefer o = true) (hg : o.guard = none) {v : Value} {w' : World} (hrun : (execOp a.eval o).run P w = .ok (.value v) w') (h : K (a.put o.dst v) w') : wpOpIn (Fence.wide.inRound l) n P ops Q i K a w := by
  unfold Go.wpOpIn
  simp only [hi, wanted_of hg, if_true]
  refine ⟨fun _ _ => trivial, ?_⟩
  rw [show (Fence.wide.inRound l).round = some l from rfl, Oper.semAt_some l _ _ (noDefer_spec hd), hrun]
  exact h
theorem wpOpIn_skip {i : Nat} {o : Oper} {Q : Exit → Act → World → Prop} {K : Act → World → Prop} {a : Act} (hi : ops[i]? = some o) (hd : noDefer o = true) (hg : o.guard = none) {w' : World} (hrun : (execOp a.eval o).run P w = .ok .skip w') (h : K (a.put o.dst undef) w') : wpOpIn (Fence.wide.inRound l) n P ops Q i K a w := by
  unfold Go.wpOpIn
  simp only [hi, wanted_of hg, if_true]
  refine ⟨fun _ _ => trivial, ?_⟩
  rw [show (Fence.wide.inRound l).round = some l from rfl, Oper.semAt_some l _ _ (noDefer_spec hd), hrun]
  exact h
theorem run_app_op {o : Oper} {a : Act} {w' : World} (sx x : Operand) (t : TypeId) (ho : o.op = .call { callee := .builtin .append, args := #[sx, x], argTypes := #[t, t] }) {v1 v2 v' : Value} (hs : a.eval sx = v1) (hx : a.eval x = v2) (hrun : (Builtin.append_ #[t, t] o.type #[v1, v2]).run P w = .ok v' w') : (execOp a.eval o).run P w = .ok (.value v') w' := by
  unfold execOp
  simp only [ho, resolve, invoke, builtin, Sem.run_bind, Sem.run_pure, Result.andThen_ok, List.map_toArray, List.map_cons, List.map_nil, hs, hx, hrun]
theorem wpIn_region_anyR {F : Fence} (hF : F = Fence.wide) {id : Nat} {Q : Exit → Act → World → Prop} {a : Act} {w : World} {t : List Oper} (S : World → Prop) (hm : P.follows .mixedOrders = true) (h : anyR l n P .any t.toArray Q S t.length (Array.replicate t.length false) a w.drew) : (Code.region id t.toArray true).wpIn (F.inRound l) n P Q a w := by
  subst hF
  exact wpIn_region_any hm (wpAnyIn_of_anyR _ _ _ _ (by simpa using h))
end
end Go.Proofs.Ytmdcfbofjlpbmaa
