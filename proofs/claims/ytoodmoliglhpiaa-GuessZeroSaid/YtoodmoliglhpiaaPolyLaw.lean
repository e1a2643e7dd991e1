/- Sums of terms by 7: how often one is 0 (Schwartz; Zippel). Plain law. No condition. -/
import Derived.Test.YtoodmoliglhpiaaSumI
namespace Go.Proofs.Ytoodmoliglhpiaa.PolyL
set_option linter.unusedVariables false
open Go.Proofs.Ytoodmoliglhpiaa
/-- a 0 + a 1 x + .. + a (n - 1) x ^ (n - 1) -/
def evH : Nat → (Nat → Int) → Int → Int
  | 0, _, _ => 0
  | n + 1, a, x => a 0 + x * evH n (fun i => a (i + 1)) x
theorem evH_s (n : Nat) (a : Nat → Int) (x : Int) : evH (n + 1) a x = a 0 + x * evH n (fun i => a (i + 1)) x := rfl
def zr (v : Int) : Int := if v % 7 = 0 then 1 else 0
theorem zr_yes {v : Int} (h : v % 7 = 0) : zr v = 1 := if_pos h
theorem zr_no {v : Int} (h : ¬ v % 7 = 0) : zr v = 0 := if_neg h
theorem zr_bd (v : Int) : 0 ≤ zr v ∧ zr v ≤ 1 := by unfold zr; split <;> omega
theorem prime7 {a b : Int} (h : (a * b) % 7 = 0) : a % 7 = 0 ∨ b % 7 = 0 := by
  rw [Int.mul_emod] at h
  have h7 : a % 7 = 0 ∨ a % 7 = 1 ∨ a % 7 = 2 ∨ a % 7 = 3 ∨ a % 7 = 4 ∨ a % 7 = 5 ∨ a % 7 = 6 := by omega
  rcases h7 with e | e | e | e | e | e | e <;> rw [e] at h <;> omega
theorem mul7 {a b : Int} (h : b % 7 = 0) : (a * b) % 7 = 0 := by rw [Int.mul_emod, h]; simp
theorem evH_cut : ∀ (n : Nat) (a : Nat → Int) (r : Int), ∃ q : Nat → Int, (∀ x, evH (n + 1) a x = (x - r) * evH n q x + evH (n + 1) a r) ∧ (0 < n → q (n - 1) = a n)
  | 0, a, r => ⟨fun _ => 0, fun x => by simp only [evH]; grind, fun h => absurd h (by omega)⟩
  | n + 1, a, r => by
    obtain ⟨q, hq, hl⟩ := evH_cut n (fun i => a (i + 1)) r
    refine ⟨fun i => match i with | 0 => evH (n + 1) (fun i => a (i + 1)) r | i + 1 => q i, fun x => ?_, fun _ => ?_⟩
    · rw [evH_s (n + 1) a x, evH_s (n + 1) a r, hq x, evH_s n _ x]
      generalize evH (n + 1) (fun i => a (i + 1)) r = E
      show a 0 + x * ((x - r) * evH n q x + E) = (x - r) * (E + x * evH n q x) + (a 0 + r * E)
      grind
    · cases n with
      | zero => show evH 1 (fun i => a (i + 1)) r = a 1; simp [evH]
      | succ n => exact hl (by omega)
theorem evH_zero : ∀ (n : Nat) (a : Nat → Int) (x : Int), (∀ i, i < n → a i % 7 = 0) → evH n a x % 7 = 0
  | 0, _, _, _ => rfl
  | n + 1, a, x, h => by
    rw [evH_s]
    have h1 := h 0 (by omega)
    have h2 := mul7 (a := x) (evH_zero n (fun i => a (i + 1)) x fun i hi => h (i + 1) (by omega))
    omega
theorem evH_nil : ∀ (n : Nat) (a : Nat → Int) (x : Int), (∀ i, i < n → a i = 0) → evH n a x = 0
  | 0, _, _, _ => rfl
  | n + 1, a, x, h => by rw [evH_s, evH_nil n (fun i => a (i + 1)) x fun i hi => h (i + 1) (by omega), h 0 (by omega)]; simp
theorem evH_one : ∀ (n : Nat) (a : Nat → Int) (x : Int) (j : Nat), j < n → (∀ i, i < n → i ≠ j → a i = 0) → evH n a x = x ^ j * a j
  | n + 1, a, x, 0, _, h => by
    rw [evH_s, evH_nil n (fun i => a (i + 1)) x fun i hi => h (i + 1) (by omega) (by omega)]
    simp
  | n + 1, a, x, j + 1, hj, h => by
    rw [evH_s, evH_one n (fun i => a (i + 1)) x j (by omega) fun i hi hne => h (i + 1) (by omega) (by omega), h 0 (by omega) (by omega), Int.pow_succ]
    grind
theorem evH_add : ∀ (n : Nat) (a b : Nat → Int) (x : Int), evH n (fun i => a i + b i) x = evH n a x + evH n b x
  | 0, _, _, _ => rfl
  | n + 1, a, b, x => by
    rw [evH_s, evH_s, evH_s, evH_add n (fun i => a (i + 1)) (fun i => b (i + 1)) x]
    grind
theorem evH_trunc : ∀ (t k : Nat) (a : Nat → Int) (x : Int), (∀ i, t < i → i < t + 1 + k → a i % 7 = 0) → evH (t + 1 + k) a x % 7 = evH (t + 1) a x % 7
  | 0, k, a, x, h => by
    rw [show 0 + 1 + k = k + 1 by omega, evH_s, evH_s]
    have h2 := mul7 (a := x) (evH_zero k (fun i => a (i + 1)) x fun i hi => h (i + 1) (by omega) (by omega))
    have h3 : x * evH 0 (fun i => a (i + 1)) x = 0 := by simp [evH]
    omega
  | t + 1, k, a, x, h => by
    have ih := evH_trunc t k (fun i => a (i + 1)) x fun i h1 h2 => h (i + 1) (by omega) (by omega)
    rw [show t + 1 + 1 + k = (t + 1 + k) + 1 by omega, evH_s, evH_s, Int.add_emod, Int.mul_emod, ih, ← Int.mul_emod, ← Int.add_emod]
theorem sumI_le {f g : Nat → Int} : ∀ {n}, (∀ i, i < n → f i ≤ g i) → sumI f n ≤ sumI g n
  | 0, _ => Int.le_refl _
  | n + 1, h => by
    show sumI f n + f n ≤ sumI g n + g n
    have := sumI_le (n := n) fun i hi => h i (by omega)
    have := h n (by omega)
    omega
theorem sumI_const (k : Int) : ∀ n : Nat, sumI (fun _ => k) n = k * n
  | 0 => by show (0 : Int) = k * ((0 : Nat) : Int); simp
  | n + 1 => by
    show sumI (fun _ => k) n + k = k * ((n + 1 : Nat) : Int)
    rw [sumI_const k n]; push_cast; grind
/-- no more zeros than the degree -/
theorem roots : ∀ (n : Nat) (a : Nat → Int), ¬ a n % 7 = 0 → sumI (fun x => zr (evH (n + 1) a (x : Nat))) 7 ≤ n
  | 0, a, h => by
    rw [sumI_zero fun x _ => zr_no (by simpa [evH] using h)]; exact Int.le_refl _
  | n + 1, a, h => by
    show sumI (fun x => zr (evH (n + 2) a (x : Nat))) 7 ≤ _
    by_cases hr : ∃ r : Nat, r < 7 ∧ evH (n + 2) a (r : Nat) % 7 = 0
    · obtain ⟨r, hr, h0⟩ := hr
      obtain ⟨q, hq, hl⟩ := evH_cut (n + 1) a (r : Nat)
      have ih := roots n q (by rw [show q n = a (n + 1) from hl (by omega)]; exact h)
      have h1 : sumI (fun x => zr (evH (n + 2) a (x : Nat))) 7 ≤ sumI (fun x => zr (evH (n + 1) q (x : Nat)) + (if x = r then 1 else 0)) 7 := sumI_le fun x hx => by
        have b1 := zr_bd (evH (n + 2) a (x : Nat))
        have b2 := zr_bd (evH (n + 1) q (x : Nat))
        by_cases e : x = r
        · simp only [if_pos e]; omega
        · simp only [if_neg e]
          by_cases hz : evH (n + 2) a (x : Nat) % 7 = 0
          · have hx2 : evH (n + 2) a (x : Nat) = ((x : Int) - (r : Int)) * evH (n + 1) q (x : Nat) + evH (n + 2) a (r : Nat) := hq (x : Nat)
            have h3 : (((x : Int) - (r : Int)) * evH (n + 1) q (x : Nat)) % 7 = 0 := by omega
            rcases prime7 h3 with h4 | h4
            · omega
            · rw [zr_yes h4]; omega
          · rw [zr_no hz]; omega
      rw [sumI_add, sumI_one (k := r) hr fun i _ hne => if_neg hne, if_pos rfl] at h1
      push_cast
      omega
    · rw [sumI_zero fun x hx => zr_no fun h => hr ⟨x, hx, h⟩]; push_cast; omega
/-- the value at the point whose digits by 7 are r's; c e: what stands with the powers e's digits tell -/
def val : Nat → (Nat → Int) → Nat → Int
  | 0, c, _ => c 0
  | m + 1, c, r => evH 7 (fun i => val m (fun e => c (i + 7 * e)) (r / 7)) ((r % 7 : Nat) : Int)
theorem val_s (m : Nat) (c : Nat → Int) (r : Nat) : val (m + 1) c r = evH 7 (fun i => val m (fun e => c (i + 7 * e)) (r / 7)) ((r % 7 : Nat) : Int) := rfl
def dg : Nat → Nat → Nat
  | 0, _ => 0
  | m + 1, e => e % 7 + dg m (e / 7)
def mon : Nat → Nat → Nat → Int
  | 0, _, _ => 1
  | m + 1, e, r => ((r % 7 : Nat) : Int) ^ (e % 7) * mon m (e / 7) (r / 7)
/-- how many points are zeros -/
def Zs (m : Nat) (c : Nat → Int) : Int := sumI (fun r => zr (val m c r)) (7 ^ m)
theorem val_zero : ∀ (m : Nat) (c : Nat → Int) (r : Nat), (∀ e, e < 7 ^ m → c e % 7 = 0) → val m c r % 7 = 0
  | 0, c, r, h => h 0 (by simp)
  | m + 1, c, r, h => evH_zero 7 _ _ fun i hi => val_zero m _ _ fun e he => h _ (by rw [Nat.pow_succ]; omega)
theorem val_nil : ∀ (m : Nat) (c : Nat → Int) (r : Nat), (∀ e, c e = 0) → val m c r = 0
  | 0, c, r, h => h 0
  | m + 1, c, r, h => evH_nil 7 _ _ fun i hi => val_nil m _ _ fun e => h _
theorem val_congr : ∀ (m : Nat) (c c' : Nat → Int) (r : Nat), (∀ e, e < 7 ^ m → c e = c' e) → val m c r = val m c' r
  | 0, c, c', r, h => h 0 (by simp)
  | m + 1, c, c', r, h => by
    rw [val_s, val_s]
    have e : ∀ (n : Nat) (a b : Nat → Int) (x : Int), (∀ i, i < n → a i = b i) → evH n a x = evH n b x := fun n => by
      induction n with
      | zero => intros; rfl
      | succ n ih => intro a b x h; rw [evH_s, evH_s, h 0 (by omega), ih _ _ x fun i hi => h (i + 1) (by omega)]
    exact e 7 _ _ _ fun i hi => val_congr m _ _ _ fun e he => h _ (by rw [Nat.pow_succ]; omega)
theorem val_add : ∀ (m : Nat) (f g : Nat → Int) (r : Nat), val m (fun e => f e + g e) r = val m f r + val m g r
  | 0, f, g, r => rfl
  | m + 1, f, g, r => by
    rw [val_s, val_s, val_s, ← evH_add]
    congr 1
    funext i
    exact val_add m _ _ _
theorem val_one : ∀ (m e : Nat) (n : Int) (r : Nat), e < 7 ^ m → val m (fun e' => if e' = e then n else 0) r = n * mon m e r
  | 0, e, n, r, h => by
    obtain rfl : e = 0 := by simpa using h
    show (if 0 = 0 then n else 0) = n * 1
    simp
  | m + 1, e, n, r, h => by
    rw [val_s, evH_one 7 _ _ (e % 7) (by omega) fun i hi hne => val_nil m _ _ fun e' => if_neg (by omega)]
    have h1 : (fun e' => if e % 7 + 7 * e' = e then n else 0) = fun e' => if e' = e / 7 then n else 0 := by
      funext e'
      by_cases h2 : e' = e / 7
      · rw [if_pos h2, if_pos (by omega)]
      · rw [if_neg h2, if_neg (by omega)]
    rw [h1, val_one m (e / 7) n (r / 7) (by rw [Nat.pow_succ] at h; omega)]
    show _ = n * (((r % 7 : Nat) : Int) ^ (e % 7) * mon m (e / 7) (r / 7))
    grind
theorem sumI_blocks (f : Nat → Int) : ∀ N : Nat, sumI f (7 * N) = sumI (fun q => sumI (fun x => f (x + 7 * q)) 7) N
  | 0 => rfl
  | N + 1 => by
    show _ = sumI (fun q => sumI (fun x => f (x + 7 * q)) 7) N + sumI (fun x => f (x + 7 * N)) 7
    rw [show 7 * (N + 1) = 7 * N + 7 by omega, sumI_split, sumI_blocks f N]
    congr 1
    exact sumI_congr fun x _ => by rw [Nat.add_comm]
theorem greatest {p : Nat → Prop} : ∀ n, (∃ i, i < n ∧ p i) → ∃ t, t < n ∧ p t ∧ ∀ i, t < i → i < n → ¬ p i
  | 0, h => by obtain ⟨i, h, _⟩ := h; omega
  | n + 1, h => by
    by_cases hn : p n
    · exact ⟨n, by omega, hn, fun i h1 h2 => by omega⟩
    · obtain ⟨i, hi, hp⟩ := h
      have : i ≠ n := fun e => hn (e ▸ hp)
      obtain ⟨t, ht, hpt, hall⟩ := greatest n ⟨i, by omega, hp⟩
      exact ⟨t, by omega, hpt, fun j h1 h2 => by
        by_cases e : j = n
        · subst e; exact hn
        · exact hall j h1 (by omega)⟩
theorem Zs_step (m : Nat) (c : Nat → Int) (t : Nat) (ht : t < 7) (hall : ∀ i, t < i → i < 7 → ∀ e, e < 7 ^ m → c (i + 7 * e) % 7 = 0) :
    Zs (m + 1) c ≤ (t : Int) * ((7 ^ m : Nat) : Int) + (7 - (t : Int)) * Zs m (fun e => c (t + 7 * e)) := by
  unfold Zs
  rw [show 7 ^ (m + 1) = 7 * 7 ^ m by rw [Nat.pow_succ, Nat.mul_comm], sumI_blocks, ← sumI_mul, ← sumI_const, ← sumI_add]
  refine sumI_le fun q hq => ?_
  have e1 : ∀ x, x < 7 → val (m + 1) c (x + 7 * q) = evH 7 (fun i => val m (fun e => c (i + 7 * e)) q) (x : Nat) := fun x hx => by
    rw [val_s, show (x + 7 * q) % 7 = x by omega, show (x + 7 * q) / 7 = q by omega]
  rw [sumI_congr (g := fun x => zr (evH 7 (fun i => val m (fun e => c (i + 7 * e)) q) (x : Nat))) fun x hx => by rw [e1 x hx]]
  obtain ⟨a, ha⟩ : ∃ a, a = fun i => val m (fun e => c (i + 7 * e)) q := ⟨_, rfl⟩
  have hat : a t = val m (fun e => c (t + 7 * e)) q := by rw [ha]
  have haz : ∀ i, t < i → i < 7 → a i % 7 = 0 := fun i h1 h2 => by rw [ha]; exact val_zero m _ _ fun e he => hall i h1 h2 e he
  rw [← ha, ← hat]
  by_cases hz : a t % 7 = 0
  · rw [zr_yes hz]
    have h1 : sumI (fun x => zr (evH 7 a (x : Nat))) 7 ≤ sumI (fun _ => 1) 7 := sumI_le fun x _ => (zr_bd _).2
    rw [sumI_const] at h1
    omega
  · rw [zr_no hz]
    have h1 := roots t a hz
    rw [sumI_congr (g := fun x => zr (evH (t + 1) a (x : Nat))) fun x _ => by
      have h2 := evH_trunc t (6 - t) a (x : Nat) fun i h1 h2 => haz i h1 (by omega)
      rw [show t + 1 + (6 - t) = 7 by omega] at h2
      unfold zr
      rw [h2]]
    omega
/-- the law -/
theorem zeros : ∀ (m : Nat) (c : Nat → Int), (∃ e, e < 7 ^ m ∧ ¬ c e % 7 = 0) → Zs m c + 1 ≤ ((7 ^ m : Nat) : Int) ∧ ∀ d : Nat, (∀ e, e < 7 ^ m → ¬ c e % 7 = 0 → dg m e ≤ d) → 7 * Zs m c ≤ (d : Int) * ((7 ^ m : Nat) : Int)
  | 0, c, h => by
    obtain ⟨e, he, hc⟩ := h
    obtain rfl : e = 0 := by simpa using he
    have h0 : Zs 0 c = 0 := by
      show (0 : Int) + zr (c 0) = 0
      rw [zr_no hc]; rfl
    rw [h0]
    exact ⟨by simp, fun d _ => by simp⟩
  | m + 1, c, h => by
    obtain ⟨e0, he0, hc0⟩ := h
    obtain ⟨t, ht, ⟨e1, he1, hc1⟩, hall⟩ := greatest (p := fun i => ∃ e, e < 7 ^ m ∧ ¬ c (i + 7 * e) % 7 = 0) 7 ⟨e0 % 7, by omega, e0 / 7, by rw [Nat.pow_succ] at he0; omega, by rw [show e0 % 7 + 7 * (e0 / 7) = e0 by omega]; exact hc0⟩
    obtain ⟨ih1, ih2⟩ := zeros m (fun e => c (t + 7 * e)) ⟨e1, he1, hc1⟩
    have hs := Zs_step m c t ht fun i h1 h2 e he => by
      by_cases hz : c (i + 7 * e) % 7 = 0
      · exact hz
      · exact absurd ⟨e, he, hz⟩ (hall i h1 h2)
    have hp : ((7 ^ (m + 1) : Nat) : Int) = 7 * ((7 ^ m : Nat) : Int) := by rw [Nat.pow_succ]; push_cast; omega
    rw [hp]
    obtain ⟨N, hN⟩ : ∃ N : Int, N = ((7 ^ m : Nat) : Int) := ⟨_, rfl⟩
    obtain ⟨Zt, hZt⟩ : ∃ z, z = Zs m (fun e => c (t + 7 * e)) := ⟨_, rfl⟩
    rw [← hN, ← hZt] at hs
    rw [← hN, ← hZt] at ih1
    rw [← hN]
    have hN1 : 1 ≤ N := by rw [hN]; have := Nat.pow_pos (n := m) (show 0 < 7 by omega); omega
    have h7 : t = 0 ∨ t = 1 ∨ t = 2 ∨ t = 3 ∨ t = 4 ∨ t = 5 ∨ t = 6 := by omega
    refine ⟨by rcases h7 with rfl | rfl | rfl | rfl | rfl | rfl | rfl <;> omega, fun d hd => ?_⟩
    have htd : t ≤ d := by
      have := hd (t + 7 * e1) (by rw [Nat.pow_succ]; omega) hc1
      have h2 : dg (m + 1) (t + 7 * e1) = (t + 7 * e1) % 7 + dg m ((t + 7 * e1) / 7) := rfl
      omega
    have h3 := ih2 (d - t) fun e he hc => by
      have := hd (t + 7 * e) (by rw [Nat.pow_succ]; omega) hc
      have h2 : dg (m + 1) (t + 7 * e) = (t + 7 * e) % 7 + dg m ((t + 7 * e) / 7) := rfl
      rw [show (t + 7 * e) % 7 = t by omega, show (t + 7 * e) / 7 = e by omega] at h2
      omega
    rw [← hN, ← hZt] at h3
    obtain ⟨u, hu⟩ : ∃ u, u = ((d - t : Nat) : Int) * N := ⟨_, rfl⟩
    have hu0 : 0 ≤ u := by rw [hu]; exact Int.mul_nonneg (by omega) (by omega)
    have hdu : (d : Int) * N = u + (t : Int) * N := by
      rw [hu, ← Int.add_mul]; congr 1; omega
    rw [← hu] at h3
    rw [show (d : Int) * (7 * N) = 7 * ((d : Int) * N) by grind, hdu]
    rcases h7 with rfl | rfl | rfl | rfl | rfl | rfl | rfl <;> omega
end Go.Proofs.Ytoodmoliglhpiaa.PolyL
