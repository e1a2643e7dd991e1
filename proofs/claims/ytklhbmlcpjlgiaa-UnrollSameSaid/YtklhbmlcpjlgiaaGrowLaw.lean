/- Values of gates in a list that grows; what a gate that was put is. No condition. -/
import Derived.Test.YtklhbmlcpjlgiaaGateValue
namespace Go.Proofs.Ytklhbmlcpjlgiaa
set_option linter.unusedVariables false
def val (F : Nat → Int) (g : Nat → Bool) (i : Nat) : Bool := VA F g (i + 1) i
theorem VA_val (F : Nat → Int) (g : Nat → Bool) : ∀ {n i : Nat}, i < n → VA F g n i = val F g i
  | 0, _, h => absurd h (Nat.not_lt_zero _)
  | n + 1, i, h => by
    by_cases e : i = n
    · subst e; rfl
    · show (if i = n then _ else VA F g n i) = _
      rw [if_neg e, VA_val F g (by omega)]
theorem val_eq (F : Nat → Int) (g : Nat → Bool) (i : Nat) : val F g i = gv F g i (VA F g i) := by
  show (if i = i then _ else _) = _
  rw [if_pos rfl]
theorem VA_ext {F F' : Nat → Int} (g : Nat → Bool) : ∀ {n : Nat}, (∀ q, q < 3 * n → F' q = F q) → VA F' g n = VA F g n
  | 0, _ => rfl
  | n + 1, h => by
    have ih := VA_ext (F := F) (F' := F') g (n := n) (fun q hq => h q (by omega))
    funext z
    show (if z = n then gv F' g n (VA F' g n) else VA F' g n z) = if z = n then gv F g n (VA F g n) else VA F g n z
    rw [ih]
    unfold gv
    rw [h _ (by omega), h (3 * n + 1) (by omega), h (3 * n + 2) (by omega)]
theorem val_ext {F F' : Nat → Int} {n i : Nat} (g : Nat → Bool) (h : ∀ q, q < 3 * n → F' q = F q) (hi : i < n) : val F' g i = val F g i := by
  unfold val; rw [VA_ext g (n := i + 1) (F := F) (F' := F') (fun q hq => h q (by omega))]
theorem gE_ext {inn : Int} {F F' : Nat → Int} {n i : Nat} (h : ∀ q, q < 3 * n → F' q = F q) (hi : i < n) : gE inn F' i = gE inn F i := by
  unfold gE; rw [h _ (by omega), h (3 * i + 1) (by omega), h (3 * i + 2) (by omega)]
/-- all of the first n gates may be -/
def GW (inn : Int) (F : Nat → Int) (n : Nat) : Prop := ∀ i, i < n → gE inn F i = 0
theorem gE_mk {inn : Int} {F : Nat → Int} {i : Nat} (h1 : 1 ≤ F (3 * i) ∧ F (3 * i) ≤ 4) (h2 : F (3 * i) = 1 → 0 ≤ F (3 * i + 1) ∧ F (3 * i + 1) < inn) (h3 : 1 < F (3 * i) → 0 ≤ F (3 * i + 1) ∧ F (3 * i + 1) < i) (h4 : 2 < F (3 * i) → 0 ≤ F (3 * i + 2) ∧ F (3 * i + 2) < i) : gE inn F i = 0 := by
  unfold gE
  rw [if_neg (by omega), if_neg (by omega), if_neg (by omega)]
theorem gw_of {inn : Int} {F : Nat → Int} : ∀ {n : Nat}, GW inn F n → gw inn F n = 0
  | 0, _ => rfl
  | n + 1, h => by
    show (if gw inn F n = 0 then gE inn F n else gw inn F n) = 0
    rw [if_pos (gw_of (fun i hi => h i (by omega)))]; exact h n (by omega)
/-- what Put tells of the gates -/
structure PutG (n n' i : Nat) (F F' : Nat → Int) (kd a b : Int) : Prop where
  lt : i < n'
  le : n ≤ n'
  le1 : n' ≤ n + 1
  ext : ∀ q, q < 3 * n → F' q = F q
  new : n' = n ∨ i = n
  k : F' (3 * i) = kd
  a : F' (3 * i + 1) = a
  b : F' (3 * i + 2) = b
theorem PutG.gw {n n' i : Nat} {F F' : Nat → Int} {kd a b inn : Int} (p : PutG n n' i F F' kd a b) (h : GW inn F n) (h1 : 1 ≤ kd ∧ kd ≤ 4) (h2 : kd = 1 → 0 ≤ a ∧ a < inn) (h3 : 1 < kd → 0 ≤ a ∧ a < n) (h4 : 2 < kd → 0 ≤ b ∧ b < n) : GW inn F' n' := fun j hj => by
  by_cases e : j < n
  · rw [gE_ext p.ext e]; exact h j e
  · have hl := p.le1
    have hi : i = n ∧ j = n := by
      rcases p.new with h | h
      · omega
      · omega
    obtain ⟨rfl, rfl⟩ := hi
    exact gE_mk (by rw [p.k]; exact h1) (by rw [p.k, p.a]; exact h2) (by rw [p.k, p.a]; exact h3) (by rw [p.k, p.b]; exact h4)
theorem PutG.old {n n' i : Nat} {F F' : Nat → Int} {kd a b : Int} (p : PutG n n' i F F' kd a b) (g : Nat → Bool) {j : Nat} (hj : j < n) : val F' g j = val F g j := val_ext g p.ext hj
/-- the value of the gate that was put; the gates may be -/
theorem PutG.val {n n' i : Nat} {F F' : Nat → Int} {kd a b inn : Int} (p : PutG n n' i F F' kd a b) (h : GW inn F' n') (g : Nat → Bool) :
    (kd = 1 → val F' g i = g a.toNat) ∧ (kd = 2 → val F' g i = !(val F' g a.toNat)) ∧ (kd = 3 → val F' g i = (val F' g a.toNat && val F' g b.toNat)) ∧ (kd = 4 → val F' g i = (val F' g a.toNat || val F' g b.toNat)) := by
  have hz := gE_zero (h i p.lt)
  rw [p.k, p.a, p.b] at hz
  have hv := val_eq F' g i
  unfold gv at hv
  rw [p.k, p.a, p.b] at hv
  refine ⟨fun e => ?_, fun e => ?_, fun e => ?_, fun e => ?_⟩
  · rw [hv, if_pos e]
  · rw [hv, if_neg (by omega), if_pos e, VA_val F' g (by omega)]
  · rw [hv, if_neg (by omega), if_neg (by omega), if_pos e, VA_val F' g (by omega), VA_val F' g (by omega)]
  · rw [hv, if_neg (by omega), if_neg (by omega), if_neg (by omega), VA_val F' g (by omega), VA_val F' g (by omega)]
/-- the value of a gate of the given circuit -/
theorem val_of {inn : Int} {F : Nat → Int} {n k : Nat} (h : GW inn F n) (hk : k < n) (g : Nat → Bool) :
    (F (3 * k) = 1 → val F g k = g (F (3 * k + 1)).toNat) ∧ (F (3 * k) = 2 → val F g k = !(val F g (F (3 * k + 1)).toNat)) ∧ (F (3 * k) = 3 → val F g k = (val F g (F (3 * k + 1)).toNat && val F g (F (3 * k + 2)).toNat)) ∧ (F (3 * k) = 4 → val F g k = (val F g (F (3 * k + 1)).toNat || val F g (F (3 * k + 2)).toNat)) :=
  PutG.val (n := n) (n' := n) (F := F) ⟨hk, Nat.le_refl _, by omega, fun q _ => rfl, .inl rfl, rfl, rfl, rfl⟩ h g
/-- each of the first k gates of F0 and what it is not stands in F -/
structure TI (inn : Int) (F0 F : Nat → Int) (n k : Nat) (Y N : Nat → Nat) : Prop where
  gw : GW inn F n
  y : ∀ j, j < k → Y j < n ∧ ∀ g, val F g (Y j) = val F0 g j
  no : ∀ j, j < k → N j < n ∧ ∀ g, val F g (N j) = !(val F0 g j)
theorem TI.ext {inn : Int} {F0 F F' : Nat → Int} {n n' i k : Nat} {Y N : Nat → Nat} {kd a b : Int} (h : TI inn F0 F n k Y N) (p : PutG n n' i F F' kd a b) (hg : GW inn F' n') : TI inn F0 F' n' k Y N :=
  ⟨hg, fun j hj => ⟨by have := (h.y j hj).1; have := p.le; omega, fun g => by rw [p.old g (h.y j hj).1]; exact (h.y j hj).2 g⟩, fun j hj => ⟨by have := (h.no j hj).1; have := p.le; omega, fun g => by rw [p.old g (h.no j hj).1]; exact (h.no j hj).2 g⟩⟩
def put1 (Y : Nat → Nat) (k y : Nat) (j : Nat) : Nat := if j < k then Y j else y
theorem TI.more {inn : Int} {F0 F : Nat → Int} {n k y z : Nat} {Y N : Nat → Nat} (h : TI inn F0 F n k Y N) (hy : y < n) (hz : z < n) (vy : ∀ g, val F g y = val F0 g k) (vz : ∀ g, val F g z = !(val F0 g k)) : TI inn F0 F n (k + 1) (put1 Y k y) (put1 N k z) := by
  refine ⟨h.gw, fun j hj => ?_, fun j hj => ?_⟩
  · unfold put1
    by_cases e : j < k
    · rw [if_pos e]; exact h.y j e
    · obtain rfl : j = k := by omega
      rw [if_neg e]; exact ⟨hy, vy⟩
  · unfold put1
    by_cases e : j < k
    · rw [if_pos e]; exact h.no j e
    · obtain rfl : j = k := by omega
      rw [if_neg e]; exact ⟨hz, vz⟩
end Go.Proofs.Ytklhbmlcpjlgiaa
