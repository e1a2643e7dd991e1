/- What lone.least computes. Conditions: few weights, from 1 to 1000; few sets. -/
import Derived.Test.YtmnleblbandghaaLoneWrong
import Derived.Test.YtmnleblbandghaaApp
namespace Go.Proofs.Ytmnleblbandghaa
open Go.ChangeShapes Go.WideShapes Go.ChangeAt Go.RowKit Go.Maps
set_option linter.unusedVariables false
theorem EW : Elem Try.prog 22 27 1 4 := Elem.of Try.underlying22 (by kernel_rfl : (Try.prog.info? 27).map (fun i => (i.zero, i.size, i.bytes)) = some (some (.int .u32 0), 1, 4)) rfl (by omega)
/-- the sum of the weights of the things in the set x -/
def swt (x : Int) (W : Nat → Int) : Nat → Int
  | 0 => 0
  | t + 1 => swt x W t + x / 2 ^ t % 2 * W t
theorem bit2 (x : Int) (t : Nat) : x / 2 ^ t % 2 = 0 ∨ x / 2 ^ t % 2 = 1 := by omega
theorem swt_bd {x : Int} {W : Nat → Int} {n : Nat} (hW : ∀ t, t < n → 1 ≤ W t ∧ W t ≤ 1000) : ∀ t, t ≤ n → 0 ≤ swt x W t ∧ swt x W t ≤ 1000 * t
  | 0, _ => by show 0 ≤ (0 : Int) ∧ (0 : Int) ≤ _; omega
  | t + 1, h => by
    have ih := swt_bd (x := x) hW t (by omega)
    have hw := hW t (by omega)
    show 0 ≤ swt x W t + x / 2 ^ t % 2 * W t ∧ _ + x / 2 ^ t % 2 * W t ≤ _
    rcases bit2 x t with e | e <;> rw [e] <;> omega
theorem and_u32 {x : Int} (h0 : 0 ≤ x) (h1 : x < 4294967296) : bits .and .u32 x 1 = x % 2 := by
  obtain ⟨y, rfl⟩ := Int.eq_ofNat_of_zero_le h0
  show IntKind.u32.wrap ((BitVec.ofInt 32 (y : Int) &&& BitVec.ofInt 32 ((1 : Nat) : Int)).toNat : Int) = _
  rw [BitVec.toNat_and, BitVec.ofInt_natCast, BitVec.ofInt_natCast, BitVec.toNat_ofNat, BitVec.toNat_ofNat, Nat.mod_eq_of_lt (by omega), Nat.mod_eq_of_lt (by omega), Nat.and_one_is_mod]
  simp [IntKind.wrap, IntKind.bits, IntKind.signed]; omega
theorem divU_bd {x : Int} (h0 : 0 ≤ x) (s : Nat) : 0 ≤ x / 2 ^ s ∧ x / 2 ^ s ≤ x := by
  have : (0 : Int) < 2 ^ s := Int.pow_pos (by omega)
  exact ⟨Int.ediv_nonneg h0 (by omega), Int.ediv_le_self _ h0⟩
/-- how many of the first k have the sum B -/
def cntE (u : Nat → Int) (B : Int) : Nat → Nat
  | 0 => 0
  | k + 1 => cntE u B k + if u k = B then 1 else 0
theorem cntE_none {u : Nat → Int} {B : Int} : ∀ {k : Nat}, (∀ i, i < k → u i ≠ B) → cntE u B k = 0
  | 0, _ => rfl
  | k + 1, h => by
    show cntE u B k + (if u k = B then 1 else 0) = 0
    rw [cntE_none (fun i hi => h i (by omega)), if_neg (h k (by omega))]
/-- the sets of the least sum, of the first k -/
structure Lst (u : Nat → Int) (S : Nat → Int) (k : Nat) (B : Int) (cn : Nat) (G : Nat → Int) : Prop where
  le : ∀ i, i < k → B ≤ u i
  of : ∀ t, t < cn → ∃ i, i < k ∧ G t = S i ∧ u i = B
  all : ∀ i, i < k → u i = B → ∃ t, t < cn ∧ G t = S i
  cnt : cn = cntE u B k
theorem Lst.new {u S G : Nat → Int} {k cn : Nat} {B : Int} (h : Lst u S k B cn G) (hlt : k = 0 ∨ u k < B) : Lst u S (k + 1) (u k) 1 (fun _ => S k) := by
  refine ⟨fun i hi => ?_, fun t ht => ⟨k, by omega, rfl, rfl⟩, fun i hi he => ?_, ?_⟩
  · by_cases e : i = k
    · subst e; omega
    · have := h.le i (by omega); omega
  · by_cases e : i = k
    · subst e; exact ⟨0, by omega, rfl⟩
    · have := h.le i (by omega); omega
  · show 1 = cntE u (u k) k + if u k = u k then 1 else 0
    rw [if_pos rfl, cntE_none (fun i hi => by have := h.le i hi; omega)]
theorem Lst.more {u S G : Nat → Int} {k cn : Nat} {B : Int} (h : Lst u S k B cn G) (he : u k = B) : Lst u S (k + 1) B (cn + 1) (fun t => if t < cn then G t else S k) := by
  refine ⟨fun i hi => ?_, fun t ht => ?_, fun i hi he2 => ?_, by show cn + 1 = cntE u B k + if u k = B then 1 else 0; rw [if_pos he, ← h.cnt]⟩
  · by_cases e : i = k
    · subst e; omega
    · exact h.le i (by omega)
  · show ∃ i, _ ∧ (if t < cn then G t else S k) = S i ∧ _
    by_cases e : t < cn
    · rw [if_pos e]
      obtain ⟨i, hi, h1, h2⟩ := h.of t e
      exact ⟨i, by omega, h1, h2⟩
    · rw [if_neg e]; exact ⟨k, by omega, rfl, he⟩
  · by_cases e : i = k
    · subst e; exact ⟨cn, by omega, by show (if cn < cn then _ else _) = _; rw [if_neg (by omega)]⟩
    · obtain ⟨t, ht, h1⟩ := h.all i (by omega) he2
      exact ⟨t, by omega, by show (if t < cn then _ else _) = _; rw [if_pos ht]; exact h1⟩
theorem Lst.over {u S G : Nat → Int} {k cn : Nat} {B : Int} (h : Lst u S k B cn G) (he : B < u k) : Lst u S (k + 1) B cn G := by
  refine ⟨fun i hi => ?_, fun t ht => ?_, fun i hi he2 => ?_, by show cn = cntE u B k + if u k = B then 1 else 0; rw [if_neg (by omega), ← h.cnt]; rfl⟩
  · by_cases e : i = k
    · subst e; omega
    · exact h.le i (by omega)
  · obtain ⟨i, hi, h1, h2⟩ := h.of t ht
    exact ⟨i, by omega, h1, h2⟩
  · by_cases e : i = k
    · subst e; omega
    · exact h.all i (by omega) he2
set_option maxRecDepth 100000 in
theorem least_any (A WA : Option Addr) (m c nw cw : Nat) (S W : Nat → Int) (w : World) (h : Rd w A m (fun i => .int .u32 (S i))) (hm : m ≤ 200) (hS : ∀ i, i < m → (Lit.int .u32 (S i)).wf = true)
    (hw : Rd w WA nw (fun i => .int .i64 (W i))) (hn : nw ≤ 5) (hW : ∀ t, t < nw → 1 ≤ W t ∧ W t ≤ 1000) :
    Calls Try.prog 24 #[.slice A m c, .slice WA nw cw] w fun e w' => ∃ (B : Int) (A' : Option Addr) (cn cc : Nat) (G : Nat → Int), e = .returned (.tuple #[.int .i64 B, .slice A' cn cc]) ∧ Rd w' A' cn (fun i => .int .u32 (G i)) ∧ cn ≤ m ∧ (0 < m → 1 ≤ cn ∧ 0 ≤ B ∧ B ≤ 5000) ∧ Lst (fun i => swt (S i) W nw) S m B cn G ∧ Below w.heap.size w w' := by
  have H := Lib.hid h
  have HW := Lib.hid hw
  have HS := Lib.hid hS
  have HWB := Lib.hid hW
  clear h hw hS hW
  go_enter Try.func24, Try.ntmps24
  go_wp2_with fail
  go_loopw [6, 7, 15] (fun s6 s7 s15 wr => ∃ (k : Nat) (B : Int) (A' : Option Addr) (cn cc : Nat) (G : Nat → Int), k ≤ m ∧ s15 = .int .i64 (k : Nat) ∧ s6 = .int .i64 B ∧ s7 = .slice A' cn cc ∧ cn ≤ k ∧ (k = 0 → B = -1) ∧ (0 < k → 1 ≤ cn ∧ 0 ≤ B ∧ B ≤ 5000) ∧ Hid (Lst (fun i => swt (S i) W nw) S k B cn G) ∧ Own wr w.heap.size 27 1 A' cn cc cn (fun i => .int .u32 (G i)) ∧ Below w.heap.size w wr) (fun _ _ s15 _ => m - (intOf s15).toNat)
  case atStart => exact ⟨0, -1, none, 0, 0, fun _ => 0, by omega, rfl, rfl, rfl, by omega, fun _ => rfl, fun h => absurd h (by omega), Lib.hid ⟨fun i h => absurd h (Nat.not_lt_zero _), fun i h => absurd h (Nat.not_lt_zero _), fun i h => absurd h (Nat.not_lt_zero _), rfl⟩, Own.nil _ _ _ _ _, Below.refl _ _⟩
  case round =>
    obtain ⟨wo, rfl⟩ : ∃ wo : World, wo = wr := ⟨_, rfl⟩
    obtain ⟨k, B, A', cn, cc, G, hk, rfl, rfl, rfl, hcn, hB0, hB1, HL, hown, hbel⟩ := hrel
    by_cases hlt : k < m
    · obtain ⟨b, off, rfl, hbb, hc0⟩ := H.out.at_ hlt
      have hc := (hbel.cell (p := ⟨b, off + k, none⟩) hbb).trans hc0
      have hsw := wf_u32 (HS.out k hlt)
      obtain ⟨x, hx⟩ : ∃ x, x = S k := ⟨_, rfl⟩
      rw [← hx] at hc hsw
      have HX := Lib.hid hx
      have HO := Lib.hid hown
      clear hc0 hx hown
      go_wp2_with fail
      go_loopw [10, 21] (fun s10 s21 wr => ∃ t : Nat, t ≤ nw ∧ s21 = .int .i64 (t : Nat) ∧ s10 = .int .i64 (swt x W t) ∧ wo = wr) (fun _ s21 _ => nw - (intOf s21).toNat)
      case atStart => exact ⟨0, by omega, rfl, rfl, rfl⟩
      case round =>
        obtain ⟨t, ht, rfl, rfl, rfl⟩ := hrel
        have hu := swt_bd (x := x) HWB.out t ht
        by_cases hlw : t < nw
        · obtain ⟨b', off', rfl, hbb', hcw0⟩ := HW.out.at_ hlw
          have hcw := (hbel.cell (p := ⟨b', off' + t, none⟩) hbb').trans hcw0
          have hwt := HWB.out t hlw
          have hdv := divU_bd hsw.1 t
          have hnx : swt x W (t + 1) = swt x W t + x / 2 ^ t % 2 * W t := rfl
          have hbit := bit2 x t
          have hand : bits BinOp.and IntKind.u32 (x / 2 ^ t) 1 = x / 2 ^ t % 2 := and_u32 hdv.1 (by omega)
          have HNX := Lib.hid hnx
          clear hnx hcw0
          obtain ⟨V, hV⟩ : ∃ V, V = swt x W t := ⟨_, rfl⟩
          rw [← hV] at hu HNX ⊢
          clear hV
          rcases hbit with e | e
          · rw [e] at hand
            have HE := Lib.hid e
            clear e
            go_wp2_with fail
            go_roundw
            case rel => exact ⟨t + 1, by omega, by go_num, by rw [HNX.out, HE.out]; go_num, by first | rfl | trivial⟩
            case measure => simp [intOf]; omega
          · rw [e] at hand
            have HE := Lib.hid e
            clear e
            go_wp2_with fail
            go_roundw
            case rel => exact ⟨t + 1, by omega, by go_num, by rw [HNX.out, HE.out]; go_num, by first | rfl | trivial⟩
            case measure => simp [intOf]; omega
        · obtain rfl : t = nw := by omega
          obtain ⟨V, hV⟩ : ∃ V, V = swt x W t := ⟨_, rfl⟩
          have hV2 : swt (S k) W t = V := by rw [hV, HX.out]
          have HV := Lib.hid hV2
          rw [← hV] at hu ⊢
          clear hV hV2
          have hVb : V ≤ 5000 := by omega
          by_cases hnew : B < 0 ∨ V < B
          · have hk0 : k = 0 ∨ V < B := by
              rcases hnew with h | h
              · exact .inl (by
                  rcases Nat.eq_zero_or_pos k with h2 | h2
                  · exact h2
                  · have := hB1 h2; omega)
              · exact .inr h
            have hL := HL.out.new (by rw [HV.out]; exact hk0)
            rw [HV.out] at hL
            have HL2 := Lib.hid hL
            have hO2 := Own.made (n := 1) (s := 1) wo w.heap.size 27 #[.int .u32 x] (fun i => .int .u32 ((fun _ => S k) i)) hbel.size rfl (by unfold maxLen; omega) (fun i hi => by
              obtain rfl : i = 0 := by omega
              show some (Value.int IntKind.u32 x) = some (Value.int IntKind.u32 (S k))
              rw [HX.out])
            have HO2 := Lib.hid hO2
            clear hL hO2 hB0 hB1
            rcases hnew with hnew | hnew
            · go_wp2_with fail
              go_roundw
              case rel => exact ⟨k + 1, V, _, 1, 1, _, by omega, by go_num, rfl, rfl, by omega, fun h => absurd h (by omega), fun _ => ⟨by omega, by omega, hVb⟩, HL2, HO2.out, hbel.alloc hbel.size _⟩
              case measure => simp [intOf]; omega
            · by_cases hB : B < 0
              · omega
              · go_wp2_with fail
                go_roundw
                case rel => exact ⟨k + 1, V, _, 1, 1, _, by omega, by go_num, rfl, rfl, by omega, fun h => absurd h (by omega), fun _ => ⟨by omega, by omega, hVb⟩, HL2, HO2.out, hbel.alloc hbel.size _⟩
                case measure => simp [intOf]; omega
          · have n1 : ¬ B < 0 := fun h => hnew (.inl h)
            have n2 : ¬ V < B := fun h => hnew (.inr h)
            clear hnew
            by_cases heq : V = B
            · subst heq
              have hL := HL.out.more HV.out
              have HL2 := Lib.hid hL
              clear hL hB0
              go_wp2_with (at_builtin; refine wpList_app _ rfl (.tmp 51) (.tmp 53) 22 rfl EW rfl (HO.out.alloc _) rfl (l := 1) (by omega) (Rd.one _ _ _) (fun _ _ => rfl) (by unfold maxLen; omega) (by omega) (by have := hbel.size; simp <;> omega) (cn + 1) (cn + 1) (by omega) (by omega) ?_; intro A2 c2 w2 hown2 hg2 hat2 hbl2)
              go_roundw
              case rel => exact ⟨k + 1, V, A2, cn + 1, c2, _, by omega, by go_num, rfl, rfl, by omega, fun h => absurd h (by omega), fun _ => ⟨by omega, by omega, hVb⟩, HL2, hown2.congr (fun i hi => by
                by_cases e : i < cn
                · rw [cat_lt e]; show _ = Value.int IntKind.u32 (if i < cn then _ else _); rw [if_pos e]
                · rw [cat_ge (by omega)]; show Value.int IntKind.u32 x = Value.int IntKind.u32 (if i < cn then _ else _); rw [if_neg e, HX.out]), (hbel.alloc hbel.size _).trans (hbl2.mono (by have := hbel.size; simp <;> omega))⟩
              case measure => simp [intOf]; omega
            · have hL := HL.out.over (by rw [HV.out]; omega)
              have HL2 := Lib.hid hL
              have hk1 : 0 < k := by
                rcases Nat.eq_zero_or_pos k with h | h
                · have := hB0 h; omega
                · exact h
              clear hL hB0
              go_wp2_with fail
              go_roundw
              case rel => exact ⟨k + 1, B, A', cn, cc, G, by omega, by go_num, rfl, rfl, by omega, fun h => absurd h (by omega), fun _ => hB1 hk1, HL2, HO.out, hbel⟩
              case measure => simp [intOf]; omega
    · obtain rfl : k = m := by omega
      go_wp2_with fail
      go_ret2
      exact ⟨B, A', cn, cc, G, rfl, hown.rd, by omega, hB1, HL.out, hbel⟩
end Go.Proofs.Ytmnleblbandghaa
