/- What busy.Build computes. Conditions: as each theorem states. -/
import Derived.Test.YtlnaplebhlcpaaaBusyNum
import Derived.Test.YtlnaplebhlcpaaaApp
import Derived.Test.YtlnaplebhlcpaaaRow
import Derived.Test.YtlnaplebhlcpaaaGrow
namespace Go.Proofs.Ytlnaplebhlcpaaa
open Go.ChangeShapes Go.WideShapes Go.ChangeAt Go.RowKit
set_option linter.unusedVariables false
def zeroM : Value := .agg #[.int .i64 0, .int .i64 0, .slice none 0 0]
def bdE (n k : Int) : Int := if n < 1 ∨ 2 < n then 1 else if k < 0 ∨ (pwB n.toNat : Int) ≤ k then 4 else 0
set_option maxRecDepth 100000 in
set_option maxHeartbeats 2000000 in
theorem build_bad (n k : Int) (w : World) (h : bdE n k ≠ 0) :
    Calls Try.prog 5 #[.int .i64 n, .int .i64 k] w fun e w' => e = .returned (.tuple #[zeroM, .int .i64 (bdE n k)]) ∧ Below w.heap.size w w' := by
  by_cases hn : n < 1 ∨ 2 < n
  · have e1 : bdE n k = 1 := if_pos hn
    rw [e1]
    clear h e1
    by_cases n1 : n < 1
    · go_enter Try.func5, Try.ntmps5
      go_wp2_with fail
      (try simp only [Exit.inBlock, Exit.then])
      refine bodyPost_ret (v := .tuple #[zeroM, .int .i64 1]) (by rw [results_cell_tmp rfl]; go_simp; rfl) rfl ⟨rfl, ?_⟩
      exact ((Below.refl _ _).alloc (Nat.le_refl _) _)
    · have n2 : 2 < n := by omega
      go_enter Try.func5, Try.ntmps5
      go_wp2_with fail
      (try simp only [Exit.inBlock, Exit.then])
      refine bodyPost_ret (v := .tuple #[zeroM, .int .i64 1]) (by rw [results_cell_tmp rfl]; go_simp; rfl) rfl ⟨rfl, ?_⟩
      exact ((Below.refl _ _).alloc (Nat.le_refl _) _)
  · obtain ⟨m, rfl⟩ := Int.eq_ofNat_of_zero_le (show 0 ≤ n by omega)
    have hm : m = 1 ∨ m = 2 := by omega
    have e0 : bdE m k = if k < 0 ∨ (pwB m : Int) ≤ k then 4 else 0 := by unfold bdE; rw [if_neg hn, Int.toNat_natCast]
    have hk : k < 0 ∨ (pwB m : Int) ≤ k := by
      by_cases e : k < 0 ∨ (pwB m : Int) ≤ k
      · exact e
      · rw [e0, if_neg e] at h; exact absurd rfl h
    rw [e0, if_pos hk]
    obtain ⟨P, hP⟩ : ∃ P, P = pwB m := ⟨_, rfl⟩
    rw [← hP] at hk
    have hPb : P ≤ 20736 := by rw [hP]; unfold pwB; split <;> omega
    have HP := Lib.hid hP
    have HM := Lib.hid hm
    have m1 : 1 ≤ m ∧ m ≤ 2 := by omega
    obtain ⟨ma, mb⟩ := m1
    clear e0 h hP hm hn
    by_cases k0 : k < 0
    · go_enter Try.func5, Try.ntmps5
      go_wp2_with fail
      (try simp only [Exit.inBlock, Exit.then])
      refine bodyPost_ret (v := .tuple #[zeroM, .int .i64 4]) (by rw [results_cell_tmp rfl]; go_simp; rfl) rfl ⟨rfl, ?_⟩
      exact ((Below.refl _ _).alloc (Nat.le_refl _) _)
    · have k1 : (P : Int) ≤ k := by omega
      go_enter Try.func5, Try.ntmps5
      go_wp2_with fail
      refine (power_any m _ HM.out).mono ?_
      rintro e w' ⟨rfl, rfl⟩
      rw [← HP.out]
      go_wp2_with fail
      (try simp only [Exit.inBlock, Exit.then])
      refine bodyPost_ret (v := .tuple #[zeroM, .int .i64 4]) (by rw [results_cell_tmp rfl]; go_simp; rfl) rfl ⟨rfl, ?_⟩
      exact ((Below.refl _ _).alloc (Nat.le_refl _) _)
theorem ER : Elem Try.prog 22 35 1 24 := Elem.of Try.underlying22 (by kernel_rfl : (Try.prog.info? 35).map (fun i => (i.zero, i.size, i.bytes)) = some (some (.slice none 0 0), 1, 24)) rfl (by omega)
/-- a table under way: i rows of two rules each, each row in its own block -/
structure Tb (W : World) (B : Nat) (S : Option Addr) (i sc : Nat) (r : Nat → Nat) (F : Nat → Nat → Int) : Prop where
  own : Own W B 35 1 S i sc i (fun q => .slice (some ⟨r q, 0, none⟩) 2 2)
  row : ∀ q, q < i → B ≤ r q ∧ W.rowIs (r q) 37 6 (fun t => .int .i64 (F q t))
  sep : ∀ q p, q < i → p < i → q ≠ p → r q ≠ r p
  apart : ∀ q, q < i → ∀ g, (Value.slice S i sc).ownBlock = some g → g ≠ r q
theorem make2 (W : World) : Sem.run Try.prog (Instr.makeSlice 35 (.int .i64 2) (.int .i64 2)) W = .ok (.slice (some ⟨W.heap.size, 0, none⟩) 2 2) (W.alloc (.cells #[.int .i64 0, .int .i64 0, .int .i64 0, .int .i64 0, .int .i64 0, .int .i64 0] 37)) := by
  have hinfo : (Try.prog.info? 37).map (fun i => (i.zero, i.size, i.bytes)) = some (some (.agg #[.int .i64 0, .int .i64 0, .int .i64 0]), 3, 24) := by kernel_rfl
  obtain ⟨i, hi, hzz⟩ := Option.map_eq_some_iff.1 hinfo
  simp only [Prod.mk.injEq] at hzz
  obtain ⟨hz, hs, hb⟩ := hzz
  have hr := run_make (P := Try.prog) W 35 37 i _ Try.underlying35 hi hz .i64 .i64 2 2 (by omega) (Int.le_refl _) (by rw [hb]; decide) (by omega)
  rw [hs] at hr
  have e : madeCells (Value.agg #[Value.int IntKind.i64 0, Value.int IntKind.i64 0, Value.int IntKind.i64 0]).cells (Int.toNat 2 * 3) = #[.int .i64 0, .int .i64 0, .int .i64 0, .int .i64 0, .int .i64 0, .int .i64 0] := by kernel_rfl
  rw [e] at hr
  exact hr
theorem rd_one' (W : World) (v : Value) (e : TypeId) (K : Nat) (hK : W.heap.size = K) : Rd (W.alloc (.cells #[v] e)) (some ⟨K, 0, none⟩) 1 (fun _ => v) := by subst hK; exact Rd.one W v e
theorem row6 (w : World) (t : TypeId) : (w.alloc (.cells #[.int .i64 0, .int .i64 0, .int .i64 0, .int .i64 0, .int .i64 0, .int .i64 0] t)).rowIs w.heap.size t 6 (fun _ => .int .i64 0) :=
  World.rowIs_alloc w #[.int .i64 0, .int .i64 0, .int .i64 0, .int .i64 0, .int .i64 0, .int .i64 0] t (fun _ => .int .i64 0) fun i hi => by
    have : i < 6 := hi
    match i, this with
    | 0, _ => rfl
    | 1, _ => rfl
    | 2, _ => rfl
    | 3, _ => rfl
    | 4, _ => rfl
    | 5, _ => rfl
theorem Tb.more {wo w3 : World} {B i sc c2 : Nat} {S A2 : Option Addr} {r : Nat → Nat} {F : Nat → Nat → Int} {o2 : Obj} (hT : Tb wo B S i sc r F) (hB : B ≤ wo.heap.size)
    (hown2 : Own w3 B 35 1 A2 (i + 1) c2 (i + 1) (cat i (fun q => .slice (some ⟨r q, 0, none⟩) 2 2) (fun _ => .slice (some ⟨wo.heap.size, 0, none⟩) 2 2)))
    (hg2 : (((wo.alloc (.cells #[.int .i64 0, .int .i64 0, .int .i64 0, .int .i64 0, .int .i64 0, .int .i64 0] 37)).alloc o2).drew).grownBy w3 (Value.slice S i sc).ownBlock)
    (hat2 : (Value.slice A2 (i + 1) c2).ownBlock = (Value.slice S i sc).ownBlock ∨ (Value.slice A2 (i + 1) c2).ownBlock = some (((wo.alloc (.cells #[.int .i64 0, .int .i64 0, .int .i64 0, .int .i64 0, .int .i64 0, .int .i64 0] 37)).alloc o2).drew).heap.size) :
    Tb w3 B A2 (i + 1) c2 (fun q => if q = i then wo.heap.size else r q) (fun q => if q = i then fun _ => 0 else F q) := by
  have hlt : ∀ q, q < i → r q < wo.heap.size := fun q hq => (hT.row q hq).2.lt
  have hol : ∀ g, (Value.slice S i sc).ownBlock = some g → g < wo.heap.size := fun g hg => (hT.own.lt g hg).2
  have hsz : (((wo.alloc (.cells #[.int .i64 0, .int .i64 0, .int .i64 0, .int .i64 0, .int .i64 0, .int .i64 0] 37)).alloc o2).drew).heap.size = wo.heap.size + 2 := by simp
  refine ⟨hown2.congr fun q hq => ?_, fun q hq => ?_, fun q p hq hp hne => ?_, fun q hq g hg => ?_⟩
  · by_cases e : q < i
    · rw [cat_lt e, if_neg (by omega)]
    · obtain rfl : q = i := by omega
      rw [cat_ge (Nat.le_refl _), if_pos rfl]
  · by_cases e : q = i
    · subst e
      rw [if_pos rfl, if_pos rfl]
      exact ⟨hB, (((row6 wo 37).alloc o2).drew).of_block (hg2.block _ (by rw [hsz]; omega) fun h => by have := hol _ h.symm; omega)⟩
    · rw [if_neg e, if_neg e]
      obtain ⟨b1, b2⟩ := hT.row q (by omega)
      exact ⟨b1, (((b2.alloc _).alloc o2).drew).of_block (hg2.block _ (by rw [hsz]; have := b2.lt; omega) fun h => hT.apart q (by omega) _ h.symm rfl)⟩
  · show (if q = i then _ else _) ≠ (if p = i then _ else _)
    by_cases e : q = i
    · rw [if_pos e, if_neg (by omega)]; have := hlt p (by omega); omega
    · rw [if_neg e]
      by_cases e2 : p = i
      · rw [if_pos e2]; have := hlt q (by omega); omega
      · rw [if_neg e2]; exact hT.sep q p (by omega) (by omega) hne
  · show g ≠ (if q = i then _ else _)
    rw [hsz] at hat2
    rcases hat2 with h | h
    · rw [h] at hg
      by_cases e : q = i
      · rw [if_pos e]; have := hol g hg; omega
      · rw [if_neg e]; exact hT.apart q (by omega) g hg
    · rw [h] at hg
      obtain rfl : wo.heap.size + 2 = g := by simpa using hg
      by_cases e : q = i
      · rw [if_pos e]; omega
      · rw [if_neg e]; have := hlt q (by omega); omega
theorem Tb.setOther {w : World} {B i sc : Nat} {S : Option Addr} {r : Nat → Nat} {F : Nat → Nat → Int} (hT : Tb w B S i sc r F) {a : Addr} (ha : a.block < B) (v : Value) : Tb (w.setCell a v) B S i sc r F :=
  ⟨hT.own.of_block fun g hg => Deep.blk_setCell_other _ _ _ _ (by have := (hT.own.lt g hg).1; omega), fun q hq => ⟨(hT.row q hq).1, (hT.row q hq).2.setOther (by have := (hT.row q hq).1; omega) v⟩, hT.sep, hT.apart⟩
def bx (n : Nat) (v : Value) (t : Nat) : Value := if t = 0 then .int .i64 n else if t = 1 then .int .i64 2 else v
theorem row3 (w : World) (t : TypeId) (a b c : Value) (F : Nat → Value) (h0 : F 0 = a) (h1 : F 1 = b) (h2 : F 2 = c) : (w.alloc (.cells #[a, b, c] t)).rowIs w.heap.size t 3 F :=
  World.rowIs_alloc w #[a, b, c] t F fun i hi => by
    have : i < 3 := hi
    match i, this with
    | 0, _ => simp [h0]
    | 1, _ => simp [h1]
    | 2, _ => simp [h2]
theorem Tb.drew {w : World} {B i sc : Nat} {S : Option Addr} {r : Nat → Nat} {F : Nat → Nat → Int} (h : Tb w B S i sc r F) : Tb w.drew B S i sc r F := ⟨h.own.drew, fun q hq => ⟨(h.row q hq).1, (h.row q hq).2.drew⟩, h.sep, h.apart⟩
theorem Tb.put {w : World} {B i sc p j : Nat} {S : Option Addr} {r : Nat → Nat} {F : Nat → Nat → Int} (hT : Tb w B S i sc r F) (hp : p < i) (v0 v1 v2 : Int) :
    Tb (((w.setCell ⟨r p, j * 3, none⟩ (.int .i64 v0)).setCell ⟨r p, j * 3 + 1, none⟩ (.int .i64 v1)).setCell ⟨r p, j * 3 + 2, none⟩ (.int .i64 v2)) B S i sc r (fun q => if q = p then fun t => if t = j * 3 + 2 then v2 else if t = j * 3 + 1 then v1 else if t = j * 3 then v0 else F q t else F q) := by
  refine ⟨hT.own.of_block fun g hg => ?_, fun q hq => ⟨(hT.row q hq).1, ?_⟩, hT.sep, hT.apart⟩
  · have hne := hT.apart p hp g hg
    rw [Deep.blk_setCell_other _ _ _ _ (by exact hne), Deep.blk_setCell_other _ _ _ _ (by exact hne), Deep.blk_setCell_other _ _ _ _ (by exact hne)]
  · by_cases e : q = p
    · subst e
      rw [if_pos rfl]
      exact ((((hT.row q hq).2.set (j * 3) _).set (j * 3 + 1) _).set (j * 3 + 2) _).congr fun t ht => by
        by_cases e2 : t = j * 3 + 2
        · rw [if_pos e2, if_pos e2]
        · rw [if_neg e2, if_neg e2]
          by_cases e1 : t = j * 3 + 1
          · rw [if_pos e1, if_pos e1]
          · rw [if_neg e1, if_neg e1]
            by_cases e0 : t = j * 3
            · rw [if_pos e0, if_pos e0]
            · rw [if_neg e0, if_neg e0]
    · rw [if_neg e]
      have hne := hT.sep q p hq hp e
      exact (((hT.row q hq).2.setOther (by exact hne) _).setOther (by exact hne) _).setOther (by exact hne) _
def kdB (n : Nat) (k : Int) : Nat → Int
  | 0 => k
  | d + 1 => kdB n k d / (4 * (n + 1))
theorem kdB_bd {n : Nat} {k : Int} (k0 : 0 ≤ k) (k1 : k ≤ 20736) : ∀ d, 0 ≤ kdB n k d ∧ kdB n k d ≤ 20736 := by
  intro d
  induction d with
  | zero => exact ⟨k0, k1⟩
  | succ d ih =>
    show 0 ≤ kdB n k d / (4 * (n + 1)) ∧ kdB n k d / (4 * (n + 1)) ≤ 20736
    have h1 := Int.ediv_nonneg ih.1 (show (0 : Int) ≤ 4 * (n + 1) by omega)
    have h2 := Int.ediv_le_self (4 * ((n : Int) + 1)) ih.1
    omega
/-- what Build writes for the rule at x, of the number's digit there -/
def wrB (n : Nat) (D : Int) (f : Nat → Int) (j : Nat) : Prop := f (3 * j) = D / (n + 1) / 2 ∧ f (3 * j + 1) = D / (n + 1) % 2 * 2 - 1 ∧ f (3 * j + 2) = D % (n + 1)
theorem wrB_bd {n : Nat} {D : Int} {f : Nat → Int} {j : Nat} (hn : n = 1 ∨ n = 2) (h0 : 0 ≤ D) (h1 : D < 4 * ((n : Int) + 1)) (h : wrB n D f j) :
    ((0 ≤ f (3 * j) ∧ f (3 * j) ≤ 1) ∧ (f (3 * j + 1) = -1 ∨ f (3 * j + 1) = 1) ∧ (0 ≤ f (3 * j + 2) ∧ f (3 * j + 2) ≤ n)) ∧ (2 * f (3 * j) + (f (3 * j + 1) + 1) / 2) * (n + 1) + f (3 * j + 2) = D := by
  obtain ⟨a, b, c⟩ := h
  rw [a, b, c]
  rcases hn with rfl | rfl
  · simp at *; omega
  · simp at *; omega
theorem bk_law {n : Nat} {k : Int} {R : Nat → SI} (hn : n = 1 ∨ n = 2) (k0 : 0 ≤ k) (k1 : k < pwB n) (hl : ∀ q, q < n → (R q).n = 2)
    (h : ∀ x, x < 2 * n → wrB n (kdB n k (2 * n - 1 - x) % (4 * ((n : Int) + 1))) (R (x / 2)).f (x % 2)) : BkR n R ∧ nmB n R (2 * n) = k := by
  have k2 : k ≤ 20736 := by unfold pwB at k1; split at k1 <;> omega
  have hD : ∀ x, 0 ≤ kdB n k (2 * n - 1 - x) % (4 * ((n : Int) + 1)) ∧ kdB n k (2 * n - 1 - x) % (4 * ((n : Int) + 1)) < 4 * ((n : Int) + 1) := fun x => ⟨Int.emod_nonneg _ (by omega), Int.emod_lt_of_pos _ (by omega)⟩
  have hv : ∀ x, x < 2 * n → vlB n R x = kdB n k (2 * n - 1 - x) % (4 * ((n : Int) + 1)) := fun x hx => (wrB_bd hn (hD x).1 (hD x).2 (h x hx)).2
  refine ⟨fun q hq => ⟨hl q hq, fun j hj => ?_⟩, ?_⟩
  · have := (wrB_bd hn (hD (2 * q + j)).1 (hD (2 * q + j)).2 (h (2 * q + j) (by omega))).1
    rw [show (2 * q + j) / 2 = q by omega, show (2 * q + j) % 2 = j by omega] at this
    exact this
  · have step : ∀ x, x ≤ 2 * n → nmB n R x = kdB n k (2 * n - x) := by
      intro x
      induction x with
      | zero =>
        intro _
        show 0 = kdB n k (2 * n)
        rcases hn with rfl | rfl
        · show 0 = k / (4 * (1 + 1)) / (4 * (1 + 1)); unfold pwB at k1; simp at k1; omega
        · show 0 = k / (4 * (2 + 1)) / (4 * (2 + 1)) / (4 * (2 + 1)) / (4 * (2 + 1)); unfold pwB at k1; simp at k1; omega
      | succ x ih =>
        intro hx
        show nmB n R x * (4 * (n + 1)) + vlB n R x = _
        rw [ih (by omega), hv x (by omega), show 2 * n - x = (2 * n - 1 - x) + 1 by omega, show 2 * n - (x + 1) = 2 * n - 1 - x by omega]
        show kdB n k (2 * n - 1 - x) / (4 * (n + 1)) * (4 * (n + 1)) + _ = _
        have := Int.mul_ediv_add_emod (kdB n k (2 * n - 1 - x)) (4 * ((n : Int) + 1))
        rw [Int.mul_comm] at this
        exact this
    rw [step (2 * n) (Nat.le_refl _), Nat.sub_self]
    rfl
set_option maxRecDepth 100000 in
set_option maxHeartbeats 2000000 in
theorem build_good (n : Nat) (k : Int) (w : World) (hn : n = 1 ∨ n = 2) (k0 : 0 ≤ k) (k1 : k < pwB n) :
    Calls Try.prog 5 #[.int .i64 n, .int .i64 k] w fun e w' => (∃ (T : Option Addr) (tc : Nat) (R : Nat → SI), e = .returned (.tuple #[.agg #[.int .i64 n, .int .i64 2, .slice T n tc], .int .i64 0]) ∧ n ≤ tc ∧ tc ≤ maxLen ∧ Tm w' T n R ∧ BkR n R ∧ nmB n R (2 * n) = k) ∧ Below w.heap.size w w' := by
  have HM := Lib.hid hn
  have m1 : 1 ≤ n ∧ n ≤ 2 := by omega
  obtain ⟨na, nb⟩ := m1
  obtain ⟨P, hP⟩ : ∃ P, P = pwB n := ⟨_, rfl⟩
  rw [← hP] at k1
  have hPb : P ≤ 20736 := by rw [hP]; unfold pwB; split <;> omega
  have HP := Lib.hid hP
  clear hP hn
  go_enter Try.func5, Try.ntmps5
  go_wp2_with fail
  refine (power_any n _ HM.out).mono ?_
  rintro e w' ⟨rfl, rfl⟩
  rw [← HP.out]
  go_wp2_with fail
  have hB2 := ((Below.refl w.heap.size w).alloc (Nat.le_refl _) (.cells #[.int .i64 0, .int .i64 0, .slice none 0 0] 24)).alloc (by simp) (.cells #[.int .i64 n, .int .i64 2, .slice none 0 0] 24)
  have hbox := row3 (w.alloc (.cells #[.int .i64 0, .int .i64 0, .slice none 0 0] 24)) 24 (.int .i64 n) (.int .i64 2) (.slice none 0 0) (bx n (.slice none 0 0)) rfl rfl rfl
  have hres := (row3 w 24 (.int .i64 0) (.int .i64 0) (.slice none 0 0) (fun t => if t = 0 then .int .i64 0 else if t = 1 then .int .i64 0 else .slice none 0 0) rfl rfl rfl).alloc (.cells #[.int .i64 n, .int .i64 2, .slice none 0 0] 24)
  obtain ⟨W2, hW2⟩ : ∃ W, W = (w.alloc (.cells #[.int .i64 0, .int .i64 0, .slice none 0 0] 24)).alloc (.cells #[.int .i64 n, .int .i64 2, .slice none 0 0] 24) := ⟨_, rfl⟩
  rw [show (w.alloc (.cells #[.int .i64 0, .int .i64 0, .slice none 0 0] 24)).heap.size = w.heap.size + 1 by simp] at hbox
  rw [← hW2] at hB2 hbox hres ⊢
  obtain ⟨g, hg⟩ : ∃ g, g = w.heap.size + 1 := ⟨_, rfl⟩
  have hgw : w.heap.size ≤ g := by omega
  have hgh : w.heap.size < g := by omega
  rw [← hg] at hbox ⊢
  clear hW2 hg
  go_loopw [28] (fun s28 wr => ∃ (i : Nat) (S : Option Addr) (sc : Nat) (r : Nat → Nat) (F : Nat → Nat → Int), i ≤ n ∧ s28 = .int .i64 i ∧ Tb wr (g + 1) S i sc r F ∧ wr.rowIs g 24 3 (bx n (.slice S i sc)) ∧ Below w.heap.size w wr ∧ ∃ V, wr.rowIs w.heap.size 24 3 V) (fun s28 _ => n - (intOf s28).toNat)
  case atStart => exact ⟨0, none, 0, fun _ => 0, fun _ _ => 0, Nat.zero_le _, rfl, ⟨Own.nil _ _ _ _ _, fun q hq => absurd hq (Nat.not_lt_zero _), fun q p hq => absurd hq (Nat.not_lt_zero _), fun q hq => absurd hq (Nat.not_lt_zero _)⟩, hbox, hB2, _, hres⟩
  case round =>
    obtain ⟨wo, rfl⟩ : ∃ wo : World, wo = wr := ⟨_, rfl⟩
    clear hres
    obtain ⟨i, S, sc, r, F, hi, rfl, hT, hbx, hbel, V, hres⟩ := hrel
    have sz := hbel.size
    have sg := hbx.lt
    by_cases hlt : i < n
    · have b2 := hbx.cell (i := 2) (by omega)
      have b2' : wo.cell? ⟨g, 2, none⟩ = some (.slice S i sc) := b2
      have fz := hbx.frozen 2
      clear b2
      go_wp2_with fail
      have hmk := make2
      go_region_law (first
        | (refine step_app _ rfl (.tmp 31) (.tmp 33) 22 rfl ER rfl (((hT.own.alloc _).alloc _).drew) rfl (l := 1) rfl (rd_one' _ (.slice (some ⟨wo.heap.size, 0, none⟩) 2 2) _ _ (by simp)).drew (fun _ _ => rfl) (by unfold maxLen; omega) (by omega) (by simp; omega) (i + 1) (i + 1) rfl rfl ?_; intro A2 c2 w3 hown2 hg2 hat2 hbl2; have hT3 := hT.more (by omega) hown2 hg2 hat2; have hbx3 := (((hbx.alloc (.cells #[.int .i64 0, .int .i64 0, .int .i64 0, .int .i64 0, .int .i64 0, .int .i64 0] 37)).alloc (.cells #[.slice (some ⟨wo.heap.size, 0, none⟩) 2 2] 35)).drew).of_block (hg2.block g (by simp; omega) fun h => by have := (hT.own.lt g h.symm).1; omega); have hres3 := (((hres.alloc (.cells #[.int .i64 0, .int .i64 0, .int .i64 0, .int .i64 0, .int .i64 0, .int .i64 0] 37)).alloc (.cells #[.slice (some ⟨wo.heap.size, 0, none⟩) 2 2] 35)).drew).of_block (hg2.block w.heap.size (by simp; omega) fun h => by have := (hT.own.lt _ h.symm).1; omega); have hc3 : w3.cell? ⟨g, 2, none⟩ = some (.slice S i sc) := hbx3.cell (i := 2) (by omega); have hf3 := hbx3.frozen 2; have hb3 := (((hbel.alloc sz (.cells #[.int .i64 0, .int .i64 0, .int .i64 0, .int .i64 0, .int .i64 0, .int .i64 0] 37)).alloc (by simp; omega) (.cells #[.slice (some ⟨wo.heap.size, 0, none⟩) 2 2] 35)).drew).trans (hbl2.mono (by omega))))
      all_goals
        go_wp2_with fail
        go_roundw
        case rel => exact ⟨i + 1, A2, c2, _, _, by omega, by go_num, hT3.setOther (by show g < g + 1; omega) _, (hbx3.set 2 _).congr fun t ht => by
          unfold bx
          by_cases e : t = 2
          · subst e; rw [if_pos rfl, if_neg (by omega), if_neg (by omega)]
          · have : t = 0 ∨ t = 1 := by omega
            rcases this with rfl | rfl <;> simp, hb3.setCell (by simpa using hgw) _, V, hres3.setOther (by show w.heap.size ≠ g; omega) _⟩
        case measure => simp [intOf]; omega
    · obtain rfl : i = n := by omega
      have k2 : k ≤ 20736 := by omega
      go_wp2_with fail
      go_loopw [1, 7] (fun s1 s7 wr => ∃ (y : Nat) (F : Nat → Nat → Int), y ≤ 2 * i ∧ s7 = .int .i64 ((y : Int) - 1) ∧ s1 = .int .i64 (kdB i k (2 * i - y)) ∧ Tb wr (g + 1) S i sc r F ∧ wr.rowIs g 24 3 (bx i (.slice S i sc)) ∧ Below w.heap.size w wr ∧ (∃ V, wr.rowIs w.heap.size 24 3 V) ∧ ∀ x, y ≤ x → x < 2 * i → wrB i (kdB i k (2 * i - 1 - x) % (4 * (i + 1))) (F (x / 2)) (x % 2)) (fun _ s7 _ => ((intOf s7) + 1).toNat)
      case atStart => exact ⟨2 * i, F, Nat.le_refl _, by go_num, by rw [Nat.sub_self]; rfl, hT, hbx, hbel, ⟨V, hres⟩, fun x h1 h2 => by omega⟩
      case round =>
        clear hT hbx hbel hres sg sz hi hlt
        obtain ⟨wo, rfl⟩ : ∃ wo : World, wo = wr := ⟨_, rfl⟩
        obtain ⟨y, F, hy, rfl, rfl, hT, hbx, hbel, ⟨V, hres⟩, hdone⟩ := hrel
        have sz := hbel.size
        have sg := hbx.lt
        have HDONE := Lib.hid hdone
        clear hdone
        have c0 : wo.cell? ⟨g, 0, none⟩ = some (.int .i64 i) := hbx.cell (i := 0) (by omega)
        have c1 : wo.cell? ⟨g, 1, none⟩ = some (.int .i64 2) := hbx.cell (i := 1) (by omega)
        have c2 : wo.cell? ⟨g, 2, none⟩ = some (.slice S i sc) := hbx.cell (i := 2) (by omega)
        rcases y with _ | x
        · have f0 := hres.frozen 0
          have f1 := hres.frozen 1
          have f2 := hres.frozen 2
          have r0 := hres.cell (i := 0) (by omega)
          have r1 := hres.cell (i := 1) (by omega)
          have r2 := hres.cell (i := 2) (by omega)
          have hne : w.heap.size ≠ g := by omega
          have hTe := ((hT.setOther (a := ⟨w.heap.size, 0, none⟩) (by show w.heap.size < g + 1; omega) (.int .i64 i)).setOther (a := ⟨w.heap.size, 1, none⟩) (by show w.heap.size < g + 1; omega) (.int .i64 2)).setOther (a := ⟨w.heap.size, 2, none⟩) (by show w.heap.size < g + 1; omega) (.slice S i sc)
          have HTE := Lib.hid hTe
          have HBK := Lib.hid (bk_law (R := fun q => ⟨some ⟨r q, 0, none⟩, 2, 2, F q⟩) HM.out k0 (by rw [← HP.out]; exact k1) (fun _ _ => rfl) (fun x hx => HDONE.out x (Nat.zero_le _) hx))
          have hl0 : Below w.heap.size w (wo.setCell ⟨w.heap.size, 0, none⟩ (.int .i64 i)) := hbel.setCell (Nat.le_refl _) _
          have hl1 : Below w.heap.size w ((wo.setCell ⟨w.heap.size, 0, none⟩ (.int .i64 i)).setCell ⟨w.heap.size, 1, none⟩ (.int .i64 2)) := hl0.setCell (Nat.le_refl _) _
          have hl2 : Below w.heap.size w (((wo.setCell ⟨w.heap.size, 0, none⟩ (.int .i64 i)).setCell ⟨w.heap.size, 1, none⟩ (.int .i64 2)).setCell ⟨w.heap.size, 2, none⟩ (.slice S i sc)) := hl1.setCell (Nat.le_refl _) _
          have HBL := Lib.hid hl2
          clear hl0 hl1 hl2
          clear hT hTe
          go_wp2_with fail
          (try simp only [Exit.inBlock, Exit.then])
          refine bodyPost_ret (v := .tuple #[.agg #[.int .i64 i, .int .i64 2, .slice S i sc], .int .i64 0]) (by rw [results_cell_tmp rfl]; go_simp) rfl ⟨⟨S, sc, fun q => ⟨some ⟨r q, 0, none⟩, 2, 2, F q⟩, rfl, HTE.out.own.le.1, HTE.out.own.le.2, ⟨HTE.out.own.rd, fun q hq => ⟨Rd.of_row (HTE.out.row q hq).2 (Nat.le_refl 6), by unfold maxLen; show 2 ≤ _; omega⟩⟩, HBK.out.1, HBK.out.2⟩, HBL.out⟩
        · have hs : (((x + 1 : Nat) : Int) - 1) = (x : Int) := by omega
          rw [hs]
          have hkb := kdB_bd (n := i) k0 k2 (2 * i - (x + 1))
          have hnext : kdB i k (2 * i - x) = kdB i k (2 * i - (x + 1)) / (4 * ((i : Int) + 1)) := by rw [show 2 * i - x = (2 * i - (x + 1)) + 1 by omega]; rfl
          have hsame : kdB i k (2 * i - 1 - x) = kdB i k (2 * i - (x + 1)) := by rw [show 2 * i - 1 - x = 2 * i - (x + 1) by omega]
          obtain ⟨K, hK⟩ : ∃ K, K = kdB i k (2 * i - (x + 1)) := ⟨_, rfl⟩
          rw [← hK] at hkb hnext hsame ⊢
          obtain ⟨Q, hQ⟩ : ∃ Q, 4 * ((i : Int) + 1) = Q := ⟨_, rfl⟩
          rw [hQ] at hnext
          obtain ⟨hk0, hk1⟩ := hkb
          have hQb : 8 ≤ Q ∧ Q ≤ 12 := by omega
          obtain ⟨Q0, Q1⟩ := hQb
          obtain ⟨D, hD⟩ : ∃ D, K % Q = D := ⟨_, rfl⟩
          have hDb : 0 ≤ D ∧ D < Q := by rw [← hD]; exact ⟨Int.emod_nonneg _ (by omega), Int.emod_lt_of_pos _ (by omega)⟩
          obtain ⟨D0, D1⟩ := hDb
          obtain ⟨E, hE⟩ : ∃ E, D / ((i : Int) + 1) = E := ⟨_, rfl⟩
          have hEb : 0 ≤ E ∧ E ≤ 3 := by
            rw [← hE]
            rcases HM.out with rfl | rfl <;> simp <;> omega
          obtain ⟨E0, E1⟩ := hEb
          obtain ⟨Z, hZ⟩ : ∃ Z, D % ((i : Int) + 1) = Z := ⟨_, rfl⟩
          obtain ⟨K2, hK2⟩ : ∃ K2, K / Q = K2 := ⟨_, rfl⟩
          obtain ⟨p, hp⟩ : ∃ p, p = x / 2 := ⟨_, rfl⟩
          obtain ⟨j, hj⟩ : ∃ j, j = x % 2 := ⟨_, rfl⟩
          have hx2 : (x : Int) / 2 = (p : Int) := by omega
          have hxm : (x : Int) % 2 = (j : Int) := by omega
          have hpi : p < i := by omega
          have hj2 : j < 2 := by omega
          obtain ⟨tb, to, rfl, htb, htc⟩ := hT.own.rd.at_ hpi
          have hrow := (hT.row p hpi).2
          have hrg := (hT.row p hpi).1
          have z0 := hrow.frozen (j * 3)
          have z1 := hrow.frozen (j * 3 + 1)
          have z2 := hrow.frozen (j * 3 + 2)
          have y0 := hrow.cell (i := j * 3) (by omega)
          have y1 := hrow.cell (i := j * 3 + 1) (by omega)
          have y2 := hrow.cell (i := j * 3 + 2) (by omega)
          have HNEXT := Lib.hid hnext
          have HSAME := Lib.hid hsame
          have HPX := Lib.hid hp
          have HJX := Lib.hid hj
          have HPUT := Lib.hid (hT.put (p := p) (j := j) hpi (E / 2) (E % 2 * 2 - 1) Z)
          have hbx2 := ((hbx.setOther (a := ⟨r p, j * 3, none⟩) (by show g ≠ r p; omega) (.int .i64 (E / 2))).setOther (a := ⟨r p, j * 3 + 1, none⟩) (by show g ≠ r p; omega) (.int .i64 (E % 2 * 2 - 1))).setOther (a := ⟨r p, j * 3 + 2, none⟩) (by show g ≠ r p; omega) (.int .i64 Z)
          have hres2 := ((hres.setOther (a := ⟨r p, j * 3, none⟩) (by show w.heap.size ≠ r p; omega) (.int .i64 (E / 2))).setOther (a := ⟨r p, j * 3 + 1, none⟩) (by show w.heap.size ≠ r p; omega) (.int .i64 (E % 2 * 2 - 1))).setOther (a := ⟨r p, j * 3 + 2, none⟩) (by show w.heap.size ≠ r p; omega) (.int .i64 Z)
          have hl0 : Below w.heap.size w (wo.setCell ⟨r p, j * 3, none⟩ (.int .i64 (E / 2))) := hbel.setCell (by show w.heap.size ≤ r p; omega) _
          have hl1 : Below w.heap.size w ((wo.setCell ⟨r p, j * 3, none⟩ (.int .i64 (E / 2))).setCell ⟨r p, j * 3 + 1, none⟩ (.int .i64 (E % 2 * 2 - 1))) := hl0.setCell (by show w.heap.size ≤ r p; omega) _
          have hl2 : Below w.heap.size w (((wo.setCell ⟨r p, j * 3, none⟩ (.int .i64 (E / 2))).setCell ⟨r p, j * 3 + 1, none⟩ (.int .i64 (E % 2 * 2 - 1))).setCell ⟨r p, j * 3 + 2, none⟩ (.int .i64 Z)) := hl1.setCell (by show w.heap.size ≤ r p; omega) _
          have HBX := Lib.hid hbx2
          have HRES := Lib.hid hres2
          have HL := Lib.hid hl2
          have HQ := Lib.hid hQ
          have HD := Lib.hid hD
          have HE2 := Lib.hid hE
          have HZ := Lib.hid hZ
          have HK2 := Lib.hid hK2
          clear hnext hsame hp hj hT hbx hres hbx2 hres2 hl0 hl1 hl2 hK hs
          go_wp2_with fail
          go_region
          go_wp2_with fail
          go_roundw
          case rel => exact ⟨x, _, by omega, rfl, by rw [HNEXT.out, HK2.out], HPUT.out.drew, HBX.out.drew, HL.out.drew, ⟨V, HRES.out.drew⟩, fun y hy1 hy2 => by
            by_cases e : y = x
            · subst e
              rw [← HPX.out, ← HJX.out, HSAME.out, HQ.out, HD.out, if_pos rfl]
              unfold wrB
              rw [HE2.out, HZ.out]
              refine ⟨?_, ?_, ?_⟩
              · show (if 3 * j = j * 3 + 2 then _ else _) = _
                rw [if_neg (by omega), if_neg (by omega), if_pos (by omega)]
              · show (if 3 * j + 1 = j * 3 + 2 then _ else _) = _
                rw [if_neg (by omega), if_pos (by omega)]
              · show (if 3 * j + 2 = j * 3 + 2 then _ else _) = _
                rw [if_pos (by omega)]
            · have hd := HDONE.out y (by omega) hy2
              by_cases ep : y / 2 = p
              · rw [if_pos ep]
                have hne : y % 2 ≠ j := fun h => e (by have := HPX.out; have := HJX.out; omega)
                have hy2' : y % 2 < 2 := by omega
                rw [ep] at hd
                unfold wrB at hd ⊢
                rw [ep]
                obtain ⟨d0, d1, d2⟩ := hd
                refine ⟨?_, ?_, ?_⟩
                · show (if 3 * (y % 2) = j * 3 + 2 then _ else _) = _
                  rw [if_neg (by omega), if_neg (by omega), if_neg (by omega)]; exact d0
                · show (if 3 * (y % 2) + 1 = j * 3 + 2 then _ else _) = _
                  rw [if_neg (by omega), if_neg (by omega), if_neg (by omega)]; exact d1
                · show (if 3 * (y % 2) + 2 = j * 3 + 2 then _ else _) = _
                  rw [if_neg (by omega), if_neg (by omega), if_neg (by omega)]; exact d2
              · rw [if_neg ep]; exact hd⟩
          case measure => simp [intOf]
end Go.Proofs.Ytlnaplebhlcpaaa
