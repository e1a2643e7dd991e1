/- A region that draws: a value that a later operation waits for through others; two operations that may come up. No condition. -/
import Derived.Test.YtcbcbanknjhhhaaHeldTill
namespace Go.Proofs.Ytcbcbanknjhhhaa
open Go
set_option linter.unusedVariables false
section
variable {P : Program} {ops : Array Oper} {Q : Exit → Act → World → Prop} {md : Region.Mode} {S : World → Prop} {c : Nat}
/-- each of the list waits for the one ahead of it -/
def linked (md : Region.Mode) (ops : Array Oper) : Nat → List Nat → Bool
  | _, [] => true
  | i, x :: L => waits md ops x i && linked md ops x L
theorem linked_not {listed : Array Bool} : ∀ (L : List Nat) (i : Nat), linked md ops i L = true → listed.getD i true = false → (∀ x ∈ L, listed.getD x true = false) → ∀ x ∈ L, x ∉ Region.ready md ops listed
  | [], _, _, _, _ => fun x hx => by cases hx
  | y :: L, i, hl, hi, hp => fun x hx => by
    simp only [linked, Bool.and_eq_true] at hl
    rcases List.mem_cons.1 hx with e | e
    · rw [e]; exact not_ready hl.1 hi
    · exact linked_not L y hl.2 (hp y (List.mem_cons_self ..)) (fun z hz => hp z (List.mem_cons_of_mem _ hz)) x e
theorem anyT_firstL {i : Nat} {oi : Oper} {v : Value} {L : List Nat} (hi : ops[i]? = some oi) (hsel : ∀ (j : Nat) (o : Oper) cs b, ops[j]? = some o → o.op ≠ .select cs b)
    (hQ : ∀ c a w, Q (.panic c) (a.put oi.dst v) w → Q (.panic c) a w) (hl : linked md ops i L = true) (hc : c ∈ L) :
    ∀ (fuel : Nat) (listed : Array Bool) (a : Act) (w : World),
      (∀ j oj, ops[j]? = some oj → j ≠ i → listed.getD j true = false → (∀ e ∈ oj.after, Region.binds md e = true → e.on ≠ i) → oi.apart ops oj = true) →
      i ∈ Region.ready md ops listed → (∀ x ∈ L, listed.getD x true = false) → YieldsIf P ops S oi v a → S w →
      anyT P md ops Q S c fuel (listed.setIfInBounds i true) (a.put oi.dst v) w → anyT P md ops Q S c (fuel + 1) listed a w := by
  intro fuel
  induction fuel with
  | zero =>
    intro listed a w _ hr _ hy hS H
    refine ⟨fun h => (by rw [h] at hr; cases hr), fun j hj => ?_⟩
    by_cases hji : j = i
    · subst hji; exact hy.wpOp hi hS ⟨fun _ => hS, H⟩
    · have := ready_mono hj hji
      rw [H.1] at this
      cases this
  | succ fuel ih =>
    intro listed a w hfree hr hp hy hS H
    have hip := (mem_ready.1 hr).1
    have nL := linked_not (listed := listed) L i hl hip hp
    have cni : i ≠ c := fun e => nL c hc (e ▸ hr)
    refine ⟨fun h => (by rw [h] at hr; cases hr), fun j hj => ?_⟩
    by_cases hji : j = i
    · subst hji; exact hy.wpOp hi hS ⟨fun _ => hS, H⟩
    · have h1 := H.2 j (ready_mono hj hji)
      have jL : j ∉ L := fun e => nL j e hj
      have jc : j ≠ c := fun e => jL (e ▸ hc)
      obtain ⟨hjun, oj, hoj, hall⟩ := mem_ready.1 hj
      have hnot : ∀ e ∈ oj.after, Region.binds md e = true → e.on ≠ i := fun e he hb heq => by
        refine not_ready (md := md) (ops := ops) (d := j) (i := i) ?_ hip hj
        unfold waits
        rw [hoj]
        exact Array.any_eq_true'.2 ⟨e, he, by simp [hb, heq]⟩
      have h2 := wpOp_putIf hoj (hfree j oj hoj hji hjun hnot) (fun cs b => hsel i oi cs b hi) (fun cs b => hsel j oj cs b hoj) hQ hy h1
      refine wpOp_mono (fun a' w' h3 => ?_) h2
      have hS' : S w' := h3.2.1 (by rw [getD_set_ne true jc, getD_set_ne true cni]; exact hp c hc)
      refine ⟨fun _ => hS', ih (listed.setIfInBounds j true) a' w' (fun k ok hk hki hun hno => ?_) (ready_mono hr (Ne.symm hji)) (fun x hx => by rw [getD_set_ne true (show j ≠ x from fun e => jL (by rw [e]; exact hx))]; exact hp x hx) h3.1 hS' ?_⟩
      · refine hfree k ok hk hki ?_ hno
        by_cases hjk : j = k
        · subst hjk; exact hjun
        · rw [getD_set_ne true hjk] at hun; exact hun
      · rw [Array.setIfInBounds_comm _ _ hji]
        exact h3.2.2
/-- Take number i first: the list's numbers wait for it, each for the one ahead of it; c is one of them; till c has come up S holds. -/
theorem anyT_takeL {i : Nat} {oi : Oper} {v : Value} {fuel : Nat} {listed : Array Bool} {a : Act} {w : World} (L : List Nat) (hi : ops[i]? = some oi) (hs : Region.noSelect ops = true) (hf : Region.free md ops listed i = true) (hr : (Region.ready md ops listed).contains i = true)
    (hl : linked md ops i L = true) (hc : L.contains c = true) (hp : L.all (fun x => listed.getD x true == false) = true)
    (hQ : ∀ c a w, Q (.panic c) (a.put oi.dst v) w → Q (.panic c) a w) (hy : YieldsIf P ops S oi v a) (hS : S w)
    (h : anyT P md ops Q S c fuel (listed.setIfInBounds i true) (a.put oi.dst v) w) : anyT P md ops Q S c (fuel + 1) listed a w :=
  anyT_firstL hi (Region.noSelect_spec hs) hQ hl (by simpa using hc) fuel listed a w (Region.free_spec hi hf) (by simpa using hr) (fun x hx => by simpa using List.all_eq_true.1 hp x hx) hy hS h
/-- Two may come up. -/
theorem anyT_two {i j : Nat} {o p : Oper} {fuel : Nat} {listed : Array Bool} {a : Act} {w : World} (hr : Region.ready md ops listed = [i, j]) (ho : ops[i]? = some o) (hp : ops[j]? = some p)
    (h1 : ∀ K' : Act → World → Prop, Shut (∀ a w, ((listed.setIfInBounds i true).getD c true = false → S w) → anyT P md ops Q S c fuel (listed.setIfInBounds i true) a w → K' a w) → if Region.wanted o (yielded ops a.tmps) = true then Oper.wp P o a w K' Q else K' (a.put o.dst undef) w)
    (h2 : ∀ K' : Act → World → Prop, Shut (∀ a w, ((listed.setIfInBounds j true).getD c true = false → S w) → anyT P md ops Q S c fuel (listed.setIfInBounds j true) a w → K' a w) → if Region.wanted p (yielded ops a.tmps) = true then Oper.wp P p a w K' Q else K' (a.put p.dst undef) w) : anyT P md ops Q S c (fuel + 1) listed a w :=
  ⟨(fun h0 => by rw [hr] at h0; cases h0), fun k hk => by
    rw [hr] at hk
    rcases List.mem_cons.1 hk with e | e
    · rw [e]; exact wpOp_step ho (fun K' hK => h1 K' (fun a w hS hW => hK a w ⟨hS, hW⟩))
    · obtain rfl : k = j := by simpa using e
      exact wpOp_step hp (fun K' hK => h2 K' (fun a w hS hW => hK a w ⟨hS, hW⟩))⟩
end
end Go.Proofs.Ytcbcbanknjhhhaa
