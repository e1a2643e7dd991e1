/- Plain numbers: the five moduli of the beta function, their products, and that each step of the search comes to an end. No condition. -/
namespace Go.Proofs.Ytgcbbajfcccphaa.PairL
/-- modulus of place i, and the product of those ahead -/
def md (i : Nat) : Int := 25 + 24 * i
def al : Nat → Int | 0 => 1 | 1 => 25 | 2 => 1225 | 3 => 89425 | 4 => 8674225 | _ => 1049581225
theorem al_succ {i : Nat} (h : i < 5) : al (i + 1) = al i * md i := by
  match i, h with
  | 0, _ => rfl
  | 1, _ => rfl
  | 2, _ => rfl
  | 3, _ => rfl
  | 4, _ => rfl
theorem al_bd (i : Nat) : 1 ≤ al i ∧ al i ≤ 1049581225 := by
  match i with
  | 0 => exact ⟨by decide, by decide⟩
  | 1 => exact ⟨by decide, by decide⟩
  | 2 => exact ⟨by decide, by decide⟩
  | 3 => exact ⟨by decide, by decide⟩
  | 4 => exact ⟨by decide, by decide⟩
  | _ + 5 => exact ⟨by simp [al], by simp [al]⟩
/-- some number of steps fits -/
theorem fits {i : Nat} (h : i < 5) {a x : Int} (x0 : 0 ≤ x) (x1 : x ≤ 20) : ∃ t : Nat, (t : Int) < md i ∧ (a + t * al i) % md i = x := by
  match i, h with
  | 0, _ => exact ⟨((x - a) % 25).toNat, by simp [md]; omega, by simp [md, al]; omega⟩
  | 1, _ => exact ⟨(((x - a) * 2) % 49).toNat, by simp [md]; omega, by simp [md, al]; omega⟩
  | 2, _ => exact ⟨(((x - a) * 41) % 73).toNat, by simp [md]; omega, by simp [md, al]; omega⟩
  | 3, _ => exact ⟨(((x - a) * 43) % 97).toNat, by simp [md]; omega, by simp [md, al]; omega⟩
  | 4, _ => exact ⟨(((x - a) * 21) % 121).toNat, by simp [md]; omega, by simp [md, al]; omega⟩
/-- what is so of the places ahead stays so -/
theorem keeps {i : Nat} (h : i < 5) {a t : Int} {j : Nat} (hj : j < i) : (a + t * al i) % md j = a % md j := by
  have : ∃ q, al i = md j * q := by
    match i, h, j, hj with
    | 1, _, 0, _ => exact ⟨1, rfl⟩
    | 2, _, 0, _ => exact ⟨49, rfl⟩
    | 2, _, 1, _ => exact ⟨25, rfl⟩
    | 3, _, 0, _ => exact ⟨3577, rfl⟩
    | 3, _, 1, _ => exact ⟨1825, rfl⟩
    | 3, _, 2, _ => exact ⟨1225, rfl⟩
    | 4, _, 0, _ => exact ⟨346969, rfl⟩
    | 4, _, 1, _ => exact ⟨177025, rfl⟩
    | 4, _, 2, _ => exact ⟨118825, rfl⟩
    | 4, _, 3, _ => exact ⟨89425, rfl⟩
  obtain ⟨q, hq⟩ := this
  rw [hq, show t * (md j * q) = md j * (t * q) by rw [Int.mul_left_comm], Int.add_mul_emod_self_left]
/-- the numbers that the search meets stay small -/
theorem small {i : Nat} (h : i < 5) {a : Int} (a1 : a < al i) {s : Nat} (hs : (s : Int) < md i) : a + s * al i < al (i + 1) := by
  rw [al_succ h]
  have : ((s : Int) + 1) * al i ≤ md i * al i := Int.mul_le_mul_of_nonneg_right (by omega) (by have := (al_bd i).1; omega)
  rw [Int.add_mul] at this
  have e : al i * md i = md i * al i := Int.mul_comm _ _
  omega
end Go.Proofs.Ytgcbbajfcccphaa.PairL
