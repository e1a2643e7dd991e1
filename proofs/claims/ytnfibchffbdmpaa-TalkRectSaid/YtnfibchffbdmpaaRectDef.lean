/- What talk.Rects computes, in words of 16 bits: definitions and bounds. No condition. -/
import Derived.Test.YtnfibchffbdmpaaTalkAll
import Derived.Test.YtnfibchffbdmpaaOnesW
namespace Go.Proofs.Ytnfibchffbdmpaa
set_option linter.unusedVariables false
/-- all of g 0 .. g (k - 1) together -/
def orF (g : Nat → Nat) : Nat → Nat
  | 0 => 0
  | k + 1 => orF g k ||| g k
theorem orF_lt {g : Nat → Nat} {b : Nat} : ∀ {k : Nat}, (∀ i, i < k → g i < 2 ^ b) → orF g k < 2 ^ b
  | 0, _ => Nat.two_pow_pos b
  | k + 1, h => Nat.or_lt_two_pow (orF_lt fun i hi => h i (by omega)) (h k (by omega))
theorem orF_congr {g g' : Nat → Nat} : ∀ {k : Nat}, (∀ i, i < k → g i = g' i) → orF g k = orF g' k
  | 0, _ => rfl
  | k + 1, h => by
    show orF g k ||| g k = orF g' k ||| g' k
    rw [orF_congr fun i hi => h i (by omega), h k (by omega)]
/-- a place of the value v -/
def cellQ (f : Nat → Nat → Bool) (v : Bool) (m i j : Nat) : Nat := if f i j = v then 2 ^ (m * i + j) else 0
def rowQ (f : Nat → Nat → Bool) (v : Bool) (m i k : Nat) : Nat := orF (cellQ f v m i) k
def plQ (f : Nat → Nat → Bool) (v : Bool) (m i : Nat) : Nat := orF (fun i => rowQ f v m i m) i
def colQ (P m s : Nat) : Nat → Nat
  | 0 => 2 ^ m - 1
  | k + 1 => if hbT s k = true then colQ P m s k &&& (P / 2 ^ (m * k) &&& (2 ^ m - 1)) else colQ P m s k
def rcQ (C m s k : Nat) : Nat := orF (fun i => if hbT s i = true then C * 2 ^ (m * i) else 0) k
def rectsQ (P m n : Nat) : Nat → List Nat
  | 0 => []
  | k + 1 => if colQ P m (k + 1) n ≠ 0 then rectsQ P m n k ++ [rcQ (colQ P m (k + 1) n) m (k + 1) n] else rectsQ P m n k
def pickQ (L : List Nat) (p k : Nat) : Nat := orF (fun i => if hbT p i = true then L.getD i 0 else 0) k
def bestQ (P : Nat) (L : List Nat) : Nat → Nat
  | 0 => popN 16 P
  | k + 1 => if pickQ L k L.length = P then min (bestQ P L k) (popN 16 k) else bestQ P L k
def reQ (P m n : Nat) : Nat := bestQ P (rectsQ P m n (2 ^ n - 1)) (2 ^ (rectsQ P m n (2 ^ n - 1)).length)
theorem mi_le {m i j n : Nat} (hm : m ≤ 4) (hn : n ≤ 4) (hi : i < n) (hj : j < m) : m * i + j < 16 := by
  have h1 : m * i ≤ 4 * i := Nat.mul_le_mul_right i hm
  have h2 : m * (i + 1) ≤ 4 * (i + 1) := Nat.mul_le_mul_right _ hm
  rw [Nat.mul_add] at h2
  omega
theorem mi_le2 {m i n : Nat} (hm : m ≤ 4) (hn : n ≤ 4) (hi : i < n) : m * i ≤ 12 := by
  have h1 : m * i ≤ 4 * i := Nat.mul_le_mul_right i hm
  omega
theorem cell_lt {f : Nat → Nat → Bool} {v : Bool} {m i j n : Nat} (hm : m ≤ 4) (hn : n ≤ 4) (hi : i < n) (hj : j < m) : cellQ f v m i j < 2 ^ 16 := by
  unfold cellQ
  split
  · exact Nat.pow_lt_pow_right (by decide) (mi_le hm hn hi hj)
  · decide
theorem row_lt {f : Nat → Nat → Bool} {v : Bool} {m i n k : Nat} (hm : m ≤ 4) (hn : n ≤ 4) (hi : i < n) (hk : k ≤ m) : rowQ f v m i k < 2 ^ 16 := orF_lt fun j hj => cell_lt hm hn hi (by omega)
theorem pl_lt {f : Nat → Nat → Bool} {v : Bool} {m n k : Nat} (hm : m ≤ 4) (hn : n ≤ 4) (hk : k ≤ n) : plQ f v m k < 2 ^ 16 := orF_lt fun i hi => row_lt hm hn (show i < n by omega) (Nat.le_refl _)
theorem col_le {P m s : Nat} : ∀ k, colQ P m s k ≤ 2 ^ m - 1
  | 0 => Nat.le_refl _
  | k + 1 => by
    show (if hbT s k = true then colQ P m s k &&& (P / 2 ^ (m * k) &&& (2 ^ m - 1)) else colQ P m s k) ≤ 2 ^ m - 1
    have := col_le (P := P) (m := m) (s := s) k
    split
    · exact Nat.le_trans Nat.and_le_left this
    · exact this
theorem shl_lt {C m i n : Nat} (hm : m ≤ 4) (hn : n ≤ 4) (hi : i < n) (hC : C ≤ 2 ^ m - 1) : C * 2 ^ (m * i) < 2 ^ 16 := by
  have h1 : C < 2 ^ m := by have := Nat.two_pow_pos m; omega
  have h2 : C * 2 ^ (m * i) < 2 ^ m * 2 ^ (m * i) := Nat.mul_lt_mul_of_pos_right h1 (Nat.two_pow_pos _)
  rw [← Nat.pow_add] at h2
  have h3 : m + m * i ≤ 16 := by
    have h1 : m * (i + 1) ≤ 4 * 4 := Nat.mul_le_mul hm (by omega)
    rw [Nat.mul_add] at h1
    omega
  exact Nat.lt_of_lt_of_le h2 (Nat.pow_le_pow_right (by decide) h3)
theorem rc_lt {C m s n k : Nat} (hm : m ≤ 4) (hn : n ≤ 4) (hk : k ≤ n) (hC : C ≤ 2 ^ m - 1) : rcQ C m s k < 2 ^ 16 := orF_lt fun i hi => by
  split
  · exact shl_lt hm hn (show i < n by omega) hC
  · decide
theorem rects_len (P m n : Nat) : ∀ k, (rectsQ P m n k).length ≤ k
  | 0 => Nat.le_refl _
  | k + 1 => by
    have := rects_len P m n k
    unfold rectsQ
    split
    · rw [List.length_append]; show _ + 1 ≤ k + 1; omega
    · omega
theorem rects_lt {P m n : Nat} (hm : m ≤ 4) (hn : n ≤ 4) : ∀ k x, x ∈ rectsQ P m n k → x < 2 ^ 16
  | 0, x, h => by cases h
  | k + 1, x, h => by
    unfold rectsQ at h
    split at h
    · rcases List.mem_append.1 h with a | a
      · exact rects_lt hm hn k x a
      · rw [List.mem_singleton.1 a]
        exact rc_lt hm hn (Nat.le_refl _) (col_le n)
    · exact rects_lt hm hn k x h
theorem getD_lt {L : List Nat} (h : ∀ x, x ∈ L → x < 2 ^ 16) (i : Nat) : L.getD i 0 < 2 ^ 16 := by
  rw [List.getD_eq_getElem?_getD]
  cases e : L[i]? with
  | none => decide
  | some x => exact h x (List.mem_of_getElem? e)
theorem pick_lt {L : List Nat} (h : ∀ x, x ∈ L → x < 2 ^ 16) (p k : Nat) : pickQ L p k < 2 ^ 16 := orF_lt fun i hi => by
  split
  · exact getD_lt h i
  · decide
theorem pop_le : ∀ k u, popN k u ≤ k
  | 0, _ => Nat.le_refl _
  | k + 1, u => by
    have := pop_le k (Nat.div u 2)
    show u % 2 + popN k (Nat.div u 2) ≤ k + 1
    omega
theorem best_le (P : Nat) (L : List Nat) : ∀ k, bestQ P L k ≤ 16
  | 0 => pop_le 16 P
  | k + 1 => by
    have := best_le P L k
    unfold bestQ
    split <;> omega
open Go in
theorem pow_u : ∀ q : Nat, q < 17 → IntKind.u64.wrap ((2 : Int) ^ q) = ((2 ^ q : Nat) : Int) ∧ IntKind.u64.wrap (IntKind.u64.wrap ((2 : Int) ^ q) - 1) = ((2 ^ q - 1 : Nat) : Int) ∧ 1 ≤ 2 ^ q ∧ 2 ^ q ≤ 65536 := by decide +kernel
open Go in
theorem or1U {P q : Nat} (hP : P < 65536) (hq : q < 16) : bits .or .u64 (P : Int) (IntKind.u64.wrap ((2 : Int) ^ q)) = ((P ||| 2 ^ q : Nat) : Int) := by
  obtain ⟨h1, _, _, h2⟩ := pow_u q (by omega)
  rw [h1]
  exact orU _ _ (by omega) (by omega)
open Go in
theorem and2U {C P q m : Nat} (hC : C < 65536) (hP : P < 65536) (hm : m ≤ 4) : bits .and .u64 (C : Int) (bits .and .u64 ((P : Int) / 2 ^ q) (IntKind.u64.wrap (IntKind.u64.wrap ((2 : Int) ^ m) - 1))) = ((C &&& (P / 2 ^ q &&& (2 ^ m - 1)) : Nat) : Int) := by
  obtain ⟨_, h1, _, h2⟩ := pow_u m (by omega)
  rw [h1]
  have h3 : (P : Int) / 2 ^ q = ((P / 2 ^ q : Nat) : Int) := by rw [Int.natCast_ediv, Int.natCast_pow]; rfl
  have h4 : P / 2 ^ q ≤ P := Nat.div_le_self _ _
  rw [h3, andU _ _ (by omega) (by omega)]
  have h5 : P / 2 ^ q &&& (2 ^ m - 1) ≤ P / 2 ^ q := Nat.and_le_left
  exact andU _ _ (by omega) (by omega)
open Go in
theorem or2U {s C q : Nat} (hs : s < 65536) (hC : C * 2 ^ q < 65536) : bits .or .u64 (s : Int) (IntKind.u64.wrap ((C : Int) * 2 ^ q)) = ((s ||| C * 2 ^ q : Nat) : Int) := by
  have h1 : (C : Int) * 2 ^ q = ((C * 2 ^ q : Nat) : Int) := by rw [Int.natCast_mul, Int.natCast_pow]; rfl
  rw [h1, IntWalk.u64_in _ (by omega)]
  exact orU _ _ (by omega) (by omega)
open Go in
theorem bitU {p k : Nat} (hp : p < 65536) : bits .and .u64 ((p : Int) / 2 ^ k) 1 = if hbT p k = true then 1 else 0 := by
  have h3 : (p : Int) / 2 ^ k = ((p / 2 ^ k : Nat) : Int) := by rw [Int.natCast_ediv, Int.natCast_pow]; rfl
  have h4 : p / 2 ^ k ≤ p := Nat.div_le_self _ _
  have h5 := andU (p / 2 ^ k) 1 (by omega) (by omega)
  rw [Nat.and_one_is_mod] at h5
  rw [h3]
  refine Eq.trans h5 ?_
  unfold hbT
  by_cases e : p / 2 ^ k % 2 = 1
  · rw [e]; rfl
  · have : p / 2 ^ k % 2 = 0 := by omega
    rw [this]; rfl
end Go.Proofs.Ytnfibchffbdmpaa
