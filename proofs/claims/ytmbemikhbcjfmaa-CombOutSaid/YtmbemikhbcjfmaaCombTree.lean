/- Terms of two letters as trees in the heap; what comb's size computes. Conditions: the tree lies as told. -/
import Derived.Test.YtmbemikhbcjfmaaApp
import Derived.BigQuiet
import Derived.Deep.QuietTactic
import Derived.StillTailTactics
import Derived.Deep.RegionLaw
import Derived.Deep.RegionHeld3
namespace Go.Proofs.Ytmbemikhbcjfmaa
open Go.ChangeShapes Go.WideShapes Go.ChangeAt Go.RowKit
set_option linter.unusedVariables false
set_option linter.unusedSimpArgs false
/-- a term: a letter or a variable; or one put to another -/
inductive Tm
  | lf (k v : Int)
  | ap (a b : Tm)
def Tm.sz : Tm → Nat
  | .lf _ _ => 1
  | .ap a b => 1 + a.sz + b.sz
theorem Tm.sz_pos : ∀ t : Tm, 1 ≤ t.sz
  | .lf _ _ => Nat.le_refl _
  | .ap a b => by unfold Tm.sz; omega
def ndC (k v : Int) (p q : Value) (i : Nat) : Value := if i = 0 then .int .i64 k else if i = 1 then .int .i64 v else if i = 2 then p else q
def ptrV (g : Nat) : Value := .pointer (some ⟨g, 0, none⟩)
/-- the tree lies at block g -/
def TAt (e : TypeId) (W : World) : Tm → Nat → Prop
  | .lf k v, g => k ≠ 4 ∧ 1 ≤ k ∧ k ≤ 3 ∧ W.rowIs g e 4 (ndC k v (.pointer none) (.pointer none))
  | .ap a b, g => ∃ ga gb, W.rowIs g e 4 (ndC 4 0 (ptrV ga) (ptrV gb)) ∧ TAt e W a ga ∧ TAt e W b gb
theorem TAt.lt {e : TypeId} {W : World} {t : Tm} {g : Nat} (h : TAt e W t g) : g < W.heap.size := by
  cases t with
  | lf k v => exact h.2.2.2.lt
  | ap a b => obtain ⟨_, _, h1, _, _⟩ := h; exact h1.lt
theorem TAt.keep {e : TypeId} {W W' : World} (hk : ∀ g, g < W.heap.size → W'.heap[g]? = W.heap[g]?) : ∀ {t : Tm} {g : Nat}, TAt e W t g → TAt e W' t g
  | .lf k v, g, h => ⟨h.1, h.2.1, h.2.2.1, h.2.2.2.of_block (hk g h.2.2.2.lt)⟩
  | .ap a b, g, ⟨ga, gb, h1, h2, h3⟩ => ⟨ga, gb, h1.of_block (hk g h1.lt), h2.keep hk, h3.keep hk⟩
theorem TAt.below {e : TypeId} {W W' : World} {t : Tm} {g : Nat} (h : TAt e W t g) (hb : Below W.heap.size W W') : TAt e W' t g := h.keep fun g hg => hb.block g hg
theorem TAt.drewN {e : TypeId} {W : World} {t : Tm} {g : Nat} (h : TAt e W t g) (k : Nat) : TAt e (W.drewN k) t g := TAt.keep (W := W) (W' := W.drewN k) (fun _ _ => rfl) h
set_option maxRecDepth 100000 in
set_option maxHeartbeats 400000 in
theorem size_any : ∀ (t : Tm) (g : Nat) (W : World), TAt 58 W t g → t.sz ≤ 100000 → Calls Try.prog 21 #[.pointer (some ⟨g, 0, none⟩)] W fun e w' => e = .returned (.int .i64 (t.sz : Nat)) ∧ ∃ m, w' = W.drewN m
  | .lf kd v, g, W, h, hs => by
    obtain ⟨k4, k1, k3, hr⟩ := h
    have c0 : W.cell? ⟨g, 0, none⟩ = some (.int .i64 kd) := hr.cell (i := 0) (by omega)
    have q : (kd != 4) = true := by rw [bne_iff_ne]; exact k4
    clear hr
    rw [show (Tm.lf kd v).sz = 1 from rfl]
    go_enter Try.func21, Try.ntmps21
    go_wp2_with fail
    go_ret
    exact ⟨rfl, 0, rfl⟩
  | .ap a b, g, W, h, hs => by
    obtain ⟨ga, gb, hr, ha, hb⟩ := h
    have c0 : W.cell? ⟨g, 0, none⟩ = some (.int .i64 4) := hr.cell (i := 0) (by omega)
    have c2 : W.cell? ⟨g, 2, none⟩ = some (.pointer (some ⟨ga, 0, none⟩)) := hr.cell (i := 2) (by omega)
    have c3 : W.cell? ⟨g, 3, none⟩ = some (.pointer (some ⟨gb, 0, none⟩)) := hr.cell (i := 3) (by omega)
    have hsz : (Tm.ap a b).sz = 1 + a.sz + b.sz := rfl
    rw [hsz] at hs ⊢
    have HA := Lib.hid (fun m => Calls.quiet_of (size_any a ga (W.drewN m) (ha.drewN m) (by omega)))
    have HB := Lib.hid (fun m => Calls.quiet_of (size_any b gb (W.drewN m) (hb.drewN m) (by omega)))
    obtain ⟨x, hx⟩ : ∃ x, x = a.sz := ⟨_, rfl⟩
    obtain ⟨y, hy⟩ : ∃ y, y = b.sz := ⟨_, rfl⟩
    rw [← hx] at hs HA ⊢
    rw [← hy] at hs HB ⊢
    clear hr ha hb hsz hx hy
    go_enter Try.func21, Try.ntmps21
    go_wp2_with fail
    go_quiet (first | (go_at_call 21; with_reducible exact HA.out _) | (go_at_call 21; with_reducible exact HB.out _))
    go_wp2_with fail
    go_ret
    exact ⟨ret_int (by omega), _, rfl⟩
def cbC (k v a b : Int) (i : Nat) : Value := if i = 0 then .int .i64 k else if i = 1 then .int .i64 a else if i = 2 then .int .i64 b else .int .i64 v
end Go.Proofs.Ytmbemikhbcjfmaa
