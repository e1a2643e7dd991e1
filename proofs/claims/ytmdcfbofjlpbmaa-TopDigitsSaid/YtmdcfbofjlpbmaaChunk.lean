/- slices.Chunk at ints, four by four: the iterator's contract. Conditions: the list's length is four times a number, as each theorem states. -/
import Derived.Test.YtmdcfbofjlpbmaaLib
import Derived.RangeFuncBox
import Derived.RangeFuncLeaves
import Derived.RangeFuncNested
import Derived.RangeFuncBound
import Derived.RangeFuncCalls
import Derived.Shelf.Abstract
import Derived.Shelf.RegionOpen
import Derived.WalkKit
import Derived.OwnWalkIn
import Derived.TacticsInMore
import Derived.LoopNIn
import Derived.LoopIn
import Derived.Maps.AppendAt
namespace Go.Proofs.Ytmdcfbofjlpbmaa
open Go.RowKit Go.Shelf
set_option linter.unusedVariables false
attribute [local go_sem] Oper.semAt_some
/-- the first k chunks' numbers, of m -/
def chs (m : Nat) : Nat → List { k : Nat // k < m }
  | 0 => []
  | k + 1 => if h : k < m then chs m k ++ [⟨k, h⟩] else chs m k
theorem chs_succ {m k : Nat} (h : k < m) : chs m (k + 1) = chs m k ++ [⟨k, h⟩] := dif_pos h
theorem chs_len {m : Nat} : ∀ {k : Nat}, k ≤ m → (chs m k).length = k
  | 0, _ => rfl
  | k + 1, h => by rw [chs_succ (by omega), List.length_append, chs_len (by omega)]; rfl
theorem mem_chs {m : Nat} : ∀ {k j : Nat} (hj : j < k) (hk : k ≤ m), (⟨j, by omega⟩ : { k : Nat // k < m }) ∈ chs m k
  | 0, _, hj, _ => absurd hj (Nat.not_lt_zero _)
  | k + 1, j, hj, hk => by
    rw [chs_succ (by omega)]
    by_cases e : j = k
    · subst e; exact List.mem_append.2 (.inr (by simp))
    · exact List.mem_append.2 (.inl (mem_chs (by omega) (by omega)))
theorem chs_pre {m : Nat} : ∀ {k : Nat} (j : Nat), k + j ≤ m → chs m k <+: chs m (k + j)
  | k, 0, _ => List.prefix_refl _
  | k, j + 1, h => by
    rw [← Nat.add_assoc, chs_succ (by omega)]
    exact (chs_pre j (by omega)).trans (List.prefix_append _ _)
/-- what a round leaves as it lay: whatever lies below n₀, and the iterator's two boxes -/
def KpC (n₀ Bs Bn : Nat) (W W' : World) : Prop := Below n₀ W W' ∧ W'.heap[Bs]? = W.heap[Bs]? ∧ W'.heap[Bn]? = W.heap[Bn]?
theorem KpC.refl (n₀ Bs Bn : Nat) (W : World) : KpC n₀ Bs Bn W W := ⟨Below.refl _ _, rfl, rfl⟩
theorem KpC.drew {n₀ Bs Bn : Nat} {W W' : World} (h : KpC n₀ Bs Bn W W') : KpC n₀ Bs Bn W W'.drew := ⟨h.1.drew, h.2.1, h.2.2⟩
theorem KpC.t {n₀ Bs Bn : Nat} {A B C : World} (h : KpC n₀ Bs Bn A B) (k : KpC n₀ Bs Bn B C) : KpC n₀ Bs Bn A C := ⟨h.1.trans k.1, k.2.1.trans h.2.1, k.2.2.trans h.2.2⟩
theorem KpC.trans {n₀ Bs Bn : Nat} {A B C : World} (h : KpC n₀ Bs Bn A B) (k : KpC n₀ Bs Bn B C) : KpC n₀ Bs Bn A C := h.t k
theorem KpC.b {n₀ Bs Bn : Nat} {w : World} (hn : n₀ ≤ w.heap.size) (hs : Bs < w.heap.size) (hb : Bn < w.heap.size) (W : World) (l : Nat) (o o' : Obj) (hl : w.heap.size ≤ l) (h : W.heap[l]? = some o) (h1 : o.isCells = false) (h2 : o.isWalk = false) : KpC n₀ Bs Bn W (W.putObj l o') :=
  ⟨belowK_b (w := w) hn W l o o' hl h h1 h2, (grownBy_putObj' W l o').block Bs (by have := (Array.getElem?_eq_some_iff.1 h).1; omega) (by intro e; have := Option.some.inj e; omega), (grownBy_putObj' W l o').block Bn (by have := (Array.getElem?_eq_some_iff.1 h).1; omega) (by intro e; have := Option.some.inj e; omega)⟩
theorem KpC.cs {n₀ Bs Bn : Nat} {W W' : World} (h : KpC n₀ Bs Bn W W') : W'.cell? ⟨Bs, 0, none⟩ = W.cell? ⟨Bs, 0, none⟩ := World.cell?_of_block h.2.1
theorem KpC.cn {n₀ Bs Bn : Nat} {W W' : World} (h : KpC n₀ Bs Bn W W') : W'.cell? ⟨Bn, 0, none⟩ = W.cell? ⟨Bn, 0, none⟩ := World.cell?_of_block h.2.2
set_option maxRecDepth 100000 in
set_option maxHeartbeats 2000000 in
theorem chunk1_in (F : Fence) (n : Nat) (h7 : F.fn 25) (hro : F.round = none) (hn : 1 ≤ n) (l Bs Bn n₀ b off m M cap : Nat) (hM : M = 4 * m) (hreach : M ≤ 140737488351232) (hb : b < n₀) (hcap : M ≤ cap) (hcm : cap ≤ maxLen) (J Jx : List { k : Nat // k < m } → World → Prop)
    (hJd : ∀ pre W, J pre W → J pre W.drew)
    (hY : ∀ pre x W, J pre W → pre.length < m → YieldAt F (n - 1) Try.prog l #[.slice (some ⟨b, off + 4 * x.1, none⟩) 4 4] W fun e W' =>
      (e = .returned (.bool true) ∧ J (pre ++ [x]) W' ∧ KpC n₀ Bs Bn W W') ∨ (e = .returned (.bool false) ∧ Jx (pre ++ [x]) W'))
    (W : World) (hBs : W.cell? ⟨Bs, 0, none⟩ = some (.slice (some ⟨b, off, none⟩) M cap)) (hBn : W.cell? ⟨Bn, 0, none⟩ = some (.int .i64 4)) (h0 : J [] W) :
    CallsIn F n Try.prog 25 #[.func (.yield l) #[] #[], .pointer (some ⟨Bs, 0, none⟩), .pointer (some ⟨Bn, 0, none⟩)] W fun e W' => (∃ v, e = .returned v) ∧
      ((∃ ys, ys = chs m m ∧ J ys W') ∨ (∃ pre, (∃ k, k ≤ m ∧ pre = chs m k) ∧ Jx pre W')) := by
  unfold maxLen at hcm
  have HM := Lib.hid hM
  have HY := Lib.hid hY
  clear hM hY
  refine callsIn_of_wp Try.func25 rfl h7 ?_ hro
  simp only [Try.ntmps25, List.size_toArray, List.length_cons, List.length_nil, Nat.reduceAdd, Nat.reduceSub, Array.replicate_succ, Array.replicate_zero, List.push_toArray, List.append_toArray, List.nil_append, List.cons_append]
  gi_wp2
  gi_loopw [4] (fun i wr => ∃ k x : Nat, k ≤ m ∧ Hid (x = 4 * k) ∧ x ≤ M ∧ i = .int .i64 (x : Int) ∧ J (chs m k) wr ∧ KpC n₀ Bs Bn W wr)
    (fun i _ => M - (intOf i).toNat)
  case atStart => exact ⟨0, 0, Nat.zero_le _, Lib.hid rfl, Nat.zero_le _, rfl, h0, KpC.refl _ _ _ _⟩
  case round =>
    obtain ⟨k, x, hk, HX, hxM, rfl, hJs, hnx⟩ := hrel
    have c1 := hnx.cs.trans hBs
    have c2 := hnx.cn.trans hBn
    by_cases hlt : k < m
    · have hx4 : x + 4 ≤ M := by have := HX.out; have := HM.out; omega
      obtain ⟨fn, tmps, assign, body, hy, hR⟩ := HY.out _ ⟨k, hlt⟩ wr.drew (hJd _ _ hJs) (by rw [chs_len hk]; exact hlt)
      dsimp only at hy
      rw [← HX.out] at hy
      have i1 : (x : Int) < (M : Int) := by omega
      have i2 : (x : Int) ≤ (M : Int) := by omega
      have i3 : (0 : Int) ≤ (x : Int) := by omega
      have i4 : (4 : Int) ≤ (M : Int) - (x : Int) := by omega
      gi_wp2
      gi_region
      all_goals
        gi_wp2
        refine hR.mono ?_
        rintro e W3 (⟨rfl, hJ3, hk3⟩ | ⟨rfl, hJx3⟩)
        · have hnx3 : KpC n₀ Bs Bn W W3 := (hnx.drew).trans hk3
          have d2 := hnx3.cn.trans hBn
          have HJ3 := Lib.hid hJ3
          clear hR hy hJ3 hk3 c1 c2 hJs hnx
          gi_wp2
          go_roundw
          case rel => exact ⟨k + 1, x + 4, by omega, Lib.hid (by have := HX.out; omega), hx4, by go_num, by rw [chs_succ hlt]; exact HJ3.out, hnx3⟩
          case measure => simp [intOf]; omega
        · gi_wp2
          refine bodyPost_ret (results_none rfl _ _ _) rfl ?_
          exact ⟨⟨_, rfl⟩, .inr ⟨_, ⟨k + 1, by omega, (chs_succ hlt).symm⟩, hJx3⟩⟩
    · have hxe : x = M := by have := HX.out; have := HM.out; omega
      obtain rfl : k = m := by omega
      subst hxe
      gi_wp2
      go_end0
      exact ⟨⟨_, rfl⟩, .inl ⟨_, rfl, hJs⟩⟩
theorem chunk1_nil_in (F : Fence) (n : Nat) (h7 : F.fn 25) (hro : F.round = none) (l Bs Bn : Nat) (A : Option Addr) (cap m : Nat) (J : List { k : Nat // k < m } → World → Prop) (W : World) (hBs : W.cell? ⟨Bs, 0, none⟩ = some (.slice A 0 cap)) (h0 : J [] W) :
    CallsIn F n Try.prog 25 #[.func (.yield l) #[] #[], .pointer (some ⟨Bs, 0, none⟩), .pointer (some ⟨Bn, 0, none⟩)] W fun e W' => (∃ v, e = .returned v) ∧ J [] W' := by
  refine callsIn_of_wp Try.func25 rfl h7 ?_ hro
  simp only [Try.ntmps25, List.size_toArray, List.length_cons, List.length_nil, Nat.reduceAdd, Nat.reduceSub, Array.replicate_succ, Array.replicate_zero, List.push_toArray, List.append_toArray, List.nil_append, List.cons_append]
  gi_wp2
  gi_loopw [4] (fun i wr => i = .int .i64 0 ∧ wr = W) (fun _ _ => 0)
  case atStart => exact ⟨rfl, rfl⟩
  case round =>
    obtain ⟨rfl, rfl⟩ := hrel
    gi_wp2
    go_end0
    exact ⟨⟨_, rfl⟩, h0⟩
theorem chunk_in (F : Fence) (n : Nat) (h5 : F.fn 23) (hro : F.round = none) (a : Option Addr) (len cap : Nat) (w : World) :
    CallsIn F n Try.prog 23 #[.slice a len cap, .int .i64 4] w fun e w' => e = .returned (.func (.func 25) #[] #[.pointer (some ⟨w.heap.size, 0, none⟩), .pointer (some ⟨w.heap.size + 1, 0, none⟩)]) ∧ w' = (w.alloc (.cells #[.slice a len cap] 23)).alloc (.cells #[.int .i64 4] 3) := by
  refine callsIn_of_wp Try.func23 rfl h5 ?_ hro
  simp only [Try.ntmps23, List.size_toArray, List.length_cons, List.length_nil, Nat.reduceAdd, Nat.reduceSub, Array.replicate_succ, Array.replicate_zero, List.push_toArray, List.append_toArray, List.nil_append, List.cons_append]
  gi_wp2
  go_ret
  exact ⟨rfl, rfl⟩
theorem chunk_stops (F : Fence) (n : Nat) (h7 : F.fn 25) (hro : F.round = none) (hn : 1 ≤ n) (Bs Bn n₀ : Nat) (A : Option Addr) (b off m M cap : Nat) (hA : 0 < m → A = some ⟨b, off, none⟩) (hM : M = 4 * m) (hreach : M ≤ 140737488351232) (hb : 0 < m → b < n₀) (hcap : M ≤ cap) (hcm : cap ≤ maxLen)
    (w : World) (hBs : Bs < w.heap.size) (hBn : Bn < w.heap.size) (hn₀ : n₀ ≤ w.heap.size) (c1 : w.cell? ⟨Bs, 0, none⟩ = some (.slice A M cap)) (c2 : w.cell? ⟨Bn, 0, none⟩ = some (.int .i64 4)) :
    SeqStopsK F n Try.prog 25 #[.pointer (some ⟨Bs, 0, none⟩), .pointer (some ⟨Bn, 0, none⟩)] (fun x : { k : Nat // k < m } => #[.slice (some ⟨b, off + 4 * x.1, none⟩) 4 4]) (KpC n₀ Bs Bn) (fun ys => ys = chs m m) (fun pre => pre <+: chs m m) m w := fun l J Jx W hW hJ _ hY h0 => by
  have d1 := (hW.cell (p := ⟨Bs, 0, none⟩) (by show Bs < _; omega)).trans c1
  have d2 := (hW.cell (p := ⟨Bn, 0, none⟩) (by show Bn < _; omega)).trans c2
  rcases Nat.eq_zero_or_pos m with hm | hm
  · subst hm
    subst hM
    exact (chunk1_nil_in F n h7 hro l Bs Bn A cap 0 J W d1 h0).mono fun e W' ⟨he, hj⟩ => ⟨he, .inl ⟨_, rfl, hj⟩⟩
  · rw [hA hm] at d1
    refine (chunk1_in F n h7 hro hn l Bs Bn n₀ b off m M cap hM hreach (hb hm) hcap hcm J Jx (fun pre W1 h => hJ pre W1 W1.drew none h ⟨rfl, rfl, rfl, Nat.le_refl _, fun _ _ _ => rfl⟩ (fun r e => by cases e)) hY W d1 d2 h0).mono ?_
    rintro e W' ⟨he, ⟨ys, rfl, hj⟩ | ⟨pre, ⟨k, hk, rfl⟩, hj⟩⟩
    · exact ⟨he, .inl ⟨_, rfl, hj⟩⟩
    · refine ⟨he, .inr ⟨_, ?_, hj⟩⟩
      have := chs_pre (m := m) (k := k) (m - k) (by omega)
      rwa [show k + (m - k) = m by omega] at this
end Go.Proofs.Ytmdcfbofjlpbmaa
