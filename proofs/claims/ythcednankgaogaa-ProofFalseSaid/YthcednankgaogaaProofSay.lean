/- What proof.sum, proof.Sum, proof.Say, proof.saidWrong, proof.check and proof.Check compute. Conditions: as each theorem states. -/
import Derived.Test.YthcednankgaogaaProofFold2
import Derived.Test.YthcednankgaogaaProofLaw
import Derived.Test.YthcednankgaogaaBits
namespace Go.Proofs.Ythcednankgaogaa
open ProofM Go.ChangeShapes Go.WideShapes Go.ChangeAt Go.RowKit
set_option linter.unusedVariables false
set_option maxRecDepth 100000 in
theorem sum_any (A : Option Addr) (m c : Nat) (f : Nat → Int) (w : World) (h : Rd w A m (fun i => .int .i64 (f i))) (hm : m ≤ 1000000) (hf : ∀ i, i < m → 0 ≤ f i ∧ f i ≤ 6) :
    Calls Try.prog 23 #[.slice A m c] w fun e w' => e = .returned (.int .i64 (SMp f m % 7)) ∧ w = w' := by
  have H := Lib.hid h
  have HF := Lib.hid hf
  clear h hf
  go_enter Try.func23, Try.ntmps23
  go_wp2_with fail
  go_loop [3, 8] (fun s3 s8 => ∃ k : Nat, k ≤ m ∧ s8 = .int .i64 k ∧ s3 = .int .i64 (SMp f k)) (fun _ s8 => m - (intOf s8).toNat)
  case atStart => exact ⟨0, Nat.zero_le _, rfl, rfl⟩
  case round =>
    obtain ⟨k, hk, rfl, rfl⟩ := hrel
    obtain ⟨s0, s1⟩ := SMp_bd HF.out k hk
    have hsn : SMp f (k + 1) = SMp f k + f k := rfl
    obtain ⟨S, hS⟩ : ∃ S, S = SMp f k := ⟨_, rfl⟩
    rw [← hS] at s0 s1 hsn ⊢
    have HSN := Lib.hid hsn
    clear hsn
    by_cases hlt : k < m
    · obtain ⟨b, off, rfl, _, hc⟩ := H.out.at_ hlt
      obtain ⟨f0, f1⟩ := HF.out k hlt
      clear hS
      go_wp2_with fail
      go_round
      case rel => exact ⟨k + 1, by omega, by go_num, by rw [HSN.out]⟩
      case measure => simp [intOf]; omega
    · obtain rfl : k = m := by omega
      have HS := Lib.hid hS
      clear hS
      go_wp2_with fail
      go_ret
      exact ⟨ret_int (by rw [HS.out]), rfl⟩
set_option maxRecDepth 100000 in
theorem Sum_good (N : Nat) (A : Option Addr) (m c : Nat) (f : Nat → Int) (w : World) (h : Rd w A m (fun i => .int .i64 (f i))) (hm : m ≤ 16) (hv : prE N m f = 0) :
    Calls Try.prog 12 #[.int .i64 N, .slice A m c] w fun e w' => e = .returned (.tuple #[.int .i64 (SMp f m % 7), .int .i64 0]) ∧ w = w' := by
  have hf : ∀ i, i < m → 0 ≤ f i ∧ f i ≤ 6 := by obtain ⟨_, _, _, _, _, hf⟩ := prE_zero hv; exact hf
  have H := Lib.hid h
  have HF := Lib.hid hf
  clear h hf
  go_enter Try.func12, Try.ntmps12
  go_wp2_with fail
  refine (wrong_any N A m c f w H.out (by unfold maxLen; omega)).mono ?_
  rintro e w' ⟨rfl, rfl⟩
  rw [hv]
  clear hv
  go_wp2_with fail
  refine (sum_any A m c f w H.out (by omega) HF.out).mono ?_
  rintro e w' ⟨rfl, rfl⟩
  go_wp2_with fail
  go_ret2
  exact ⟨rfl, rfl⟩
set_option maxRecDepth 100000 in
theorem Sum_bad (n : Int) (A : Option Addr) (m c : Nat) (f : Nat → Int) (w : World) (h : Rd w A m (fun i => .int .i64 (f i))) (hm : m ≤ maxLen) (hv : prE n m f ≠ 0) :
    Calls Try.prog 12 #[.int .i64 n, .slice A m c] w fun e w' => e = .returned (.tuple #[.int .i64 0, .int .i64 (prE n m f)]) ∧ w = w' := by
  have hq : (prE n m f != 0) = true := by rw [bne_iff_ne]; exact hv
  have H := Lib.hid h
  clear h hv
  go_enter Try.func12, Try.ntmps12
  go_wp2_with (go_at_call 17; refine (wrong_any n A m c f _ H.out hm).mono ?_; rintro e w' ⟨rfl, rfl⟩)
  go_ret2
  exact ⟨rfl, rfl⟩
theorem Rd.alloc2 {w : World} {A : Option Addr} {n : Nat} {C : Nat → Value} (h : Rd w A n C) (o p : Obj) : Rd ((w.alloc o).alloc p) A n C := (h.alloc o).alloc p
theorem Rd.set' {w : World} {A : Option Addr} {n : Nat} {C : Nat → Value} {g : Nat} (h : Rd w A n C) (hne : ∀ b off, A = some ⟨b, off, none⟩ → b ≠ g) (o : Nat) (v : Value) : Rd (w.setCell ⟨g, o, none⟩ v) A n C := fun hn => by
  obtain ⟨b, off, e, hb, hc⟩ := h hn
  refine ⟨b, off, e, by simpa using hb, fun i hi => ?_⟩
  rw [← hc i hi]
  have : b ≠ g := hne b off e
  clear hc
  simp_all [go_sem]
theorem row2 (w : World) (t : TypeId) (a b : Value) (F : Nat → Value) (h0 : F 0 = a) (h1 : F 1 = b) : (w.alloc (.cells #[a, b] t)).rowIs w.heap.size t 2 F :=
  World.rowIs_alloc w #[a, b] t F fun i hi => by
    have : i < 2 := hi
    match i, this with
    | 0, _ => simp [h0]
    | 1, _ => simp [h1]
set_option maxRecDepth 100000 in
set_option maxHeartbeats 1000000 in
theorem say_good (N a : Nat) (A B : Option Addr) (m c d : Nat) (f t : Nat → Int) (w : World) (h : Rd w A m (fun i => .int .i64 (f i))) (g : Rd w B a (fun i => .int .i64 (t i))) (h1 : 1 ≤ N) (hN : N ≤ 4) (hm : m = 2 ^ N) (ha : a < N)
    (hf : ∀ i, i < m → 0 ≤ f i ∧ f i ≤ 6) (ht : ∀ i, i < a → 0 ≤ t i ∧ t i ≤ 6) :
    Calls Try.prog 14 #[.int .i64 N, .slice A m c, .slice B a d] w fun e w' => e = .returned (.tuple #[.agg #[.int .i64 (SYp (FD f t a) 0 (2 ^ (N - a))), .int .i64 (SYp (FD f t a) 1 (2 ^ (N - a)))], .int .i64 0]) ∧ Below w.heap.size w w' := by
  have hv := prE_is h1 hN hm hf
  have hb : insB 7 a t = true := insB_iff.2 fun i hi => by have := ht i hi; omega
  have p := pow_bd hN
  have hm16 : m ≤ 16 := by omega
  have hL : 2 ^ (N - a) ≤ 16 := (pow_bd (N := N - a) (by omega)).2.2.2
  have hFb : ∀ i, i < 2 ^ (N - a) → 0 ≤ FD f t a i ∧ FD f t a i ≤ 6 := fun i hi => FD_bd hf a i (by
    have h1 : (i + 1) * 2 ^ a ≤ 2 ^ (N - a) * 2 ^ a := Nat.mul_le_mul_right _ hi
    rw [← Nat.pow_add, show N - a + a = N by omega] at h1
    omega)
  have H := Lib.hid h
  have G := Lib.hid g
  have HM := Lib.hid hm
  have HF := Lib.hid hf
  have HT := Lib.hid ht
  have HFB := Lib.hid hFb
  clear h g hm hf ht p hFb
  go_enter Try.func14, Try.ntmps14
  go_wp2_with (first
    | (go_at_call 17; refine (wrong_any N A m c f _ (H.out.alloc _) (by unfold maxLen; omega)).mono ?_; rintro e w' ⟨rfl, rfl⟩)
    | (go_at_call 18; refine (contains_any B a d t _ (G.out.alloc _) (by unfold maxLen; omega)).mono ?_; rintro e w' ⟨rfl, rfl⟩))
  refine (fold_at N A B m c a d f t _ (H.out.alloc2 _ _) (G.out.alloc2 _ _) hN HM.out (by omega) HF.out HT.out).mono ?_
  rintro e w1 ⟨A', c', rfl, hrd, hfar, hbl⟩
  have r0 := (row2 w 36 (.int .i64 0) (.int .i64 0) (fun _ => .int .i64 0) rfl rfl).alloc (.cells #[.int .i64 0, .int .i64 0] 36)
  have r1 := row2 (w.alloc (.cells #[.int .i64 0, .int .i64 0] 36)) 36 (.int .i64 0) (.int .i64 0) (fun x => .int .i64 (SYp (FD f t a) x 0)) rfl rfl
  rw [show (w.alloc (.cells #[.int .i64 0, .int .i64 0] 36)).heap.size = w.heap.size + 1 by simp] at r1
  replace r0 := row_below r0 hbl (by simp; omega)
  replace r1 := row_below r1 hbl (by simp)
  have B1 : Below w.heap.size w w1 := (((Below.refl w.heap.size w).alloc (Nat.le_refl _) _).alloc (by simp) _).trans (hbl.mono (by simp; omega))
  obtain ⟨L, hLL⟩ : ∃ L, L = 2 ^ (N - a) := ⟨_, rfl⟩
  rw [← hLL] at hrd hL
  have hne : 0 < L → ∀ b off, A' = some ⟨b, off, none⟩ → b ≠ w.heap.size + 1 := fun _ b off e => by
    rcases hfar with h | h
    · have := pow_bd hN
      obtain ⟨b', off', e', hb', _⟩ := H.out (by rw [HM.out]; omega)
      rw [← h, e] at e'
      injection e' with e'; injection e' with e1 e2
      omega
    · have := h b off e; simp at this; omega
  have HNE := Lib.hid hne
  have HFB2 := Lib.hid (show ∀ i, i < L → 0 ≤ FD f t a i ∧ FD f t a i ≤ 6 by rw [hLL]; exact HFB.out)
  have HLL := Lib.hid hLL
  rw [← hLL]
  clear hbl hLL hb hv hfar hne
  go_wp2_with fail
  go_loopw [32] (fun s32 wr => ∃ k : Nat, k ≤ L ∧ s32 = .int .i64 k ∧ wr.rowIs w.heap.size 36 2 (fun _ => .int .i64 0) ∧ wr.rowIs (w.heap.size + 1) 36 2 (fun x => .int .i64 (SYp (FD f t a) x k)) ∧ Rd wr A' L (fun i => .int .i64 (FD f t a i)) ∧ Below w.heap.size w wr) (fun s32 _ => L - (intOf s32).toNat)
  case atStart => exact ⟨0, Nat.zero_le _, rfl, r0, r1, hrd, B1⟩
  case round =>
    clear r0 r1 B1 hrd
    obtain ⟨wo, rfl⟩ : ∃ wo : World, wo = wr := ⟨_, rfl⟩
    obtain ⟨k, hk, rfl, r0, r1, hrd, hbel⟩ := hrel
    have HRD := Lib.hid hrd
    clear hrd
    have s0 := r0.lt
    have s1 := r1.lt
    by_cases hlt : k < L
    · obtain ⟨b, off, rfl, _, hc⟩ := HRD.out.at_ hlt
      obtain ⟨f0, f1⟩ := HFB2.out k hlt
      have hand := and_one (x := (k : Int)) (by omega) (by omega)
      have z0 := r1.frozen 0
      have z1 := r1.frozen 1
      have q0 := r1.cell (i := 0) (by omega)
      have q1 := r1.cell (i := 1) (by omega)
      obtain ⟨y0, y1⟩ := SYp_bd (FD f t a) 0 k
      obtain ⟨x0, x1⟩ := SYp_bd (FD f t a) 1 k
      have hs0 : SYp (FD f t a) 0 (k + 1) = if k % 2 = 0 then (SYp (FD f t a) 0 k + FD f t a k) % 7 else SYp (FD f t a) 0 k := rfl
      have hs1 : SYp (FD f t a) 1 (k + 1) = if k % 2 = 1 then (SYp (FD f t a) 1 k + FD f t a k) % 7 else SYp (FD f t a) 1 k := rfl
      obtain ⟨v, hvv⟩ : ∃ v, v = FD f t a k := ⟨_, rfl⟩
      rw [← hvv] at hc f0 f1 hs0 hs1
      obtain ⟨S0, hS0⟩ : ∃ S, S = SYp (FD f t a) 0 k := ⟨_, rfl⟩
      obtain ⟨S1, hS1⟩ : ∃ S, S = SYp (FD f t a) 1 k := ⟨_, rfl⟩
      rw [← hS0] at q0 y0 y1 hs0
      rw [← hS1] at q1 x0 x1 hs1
      have HS := Lib.hid (And.intro hS0 hS1)
      rcases (show k % 2 = 0 ∨ k % 2 = 1 by omega) with e | e
      · rw [if_pos e] at hs0
        rw [if_neg (by omega)] at hs1
        rw [show (k : Int) % 2 = 0 by omega] at hand
        have HH := Lib.hid (And.intro hs0 hs1)
        clear hs0 hs1 hS0 hS1 hvv e
        go_wp2_with fail
        go_roundw
        case rel => exact ⟨k + 1, by omega, by go_num, r0.setOther (by simp) _, (r1.set 0 _).congr (fun i hi => by
          match i, hi with
          | 0, _ => rw [if_pos rfl, HH.out.1]
          | 1, _ => rw [if_neg (by omega), HH.out.2, HS.out.2]), HRD.out.set' (HNE.out (by omega)) _ _, hbel.setCell (by simp) _⟩
        case measure => simp [intOf]; omega
      · rw [if_neg (by omega)] at hs0
        rw [if_pos e] at hs1
        rw [show (k : Int) % 2 = 1 by omega] at hand
        have HH := Lib.hid (And.intro hs0 hs1)
        clear hs0 hs1 hS0 hS1 hvv e
        go_wp2_with fail
        go_roundw
        case rel => exact ⟨k + 1, by omega, by go_num, r0.setOther (by simp) _, (r1.set 1 _).congr (fun i hi => by
          match i, hi with
          | 0, _ => rw [if_neg (by omega), HH.out.1, HS.out.1]
          | 1, _ => rw [if_pos rfl, HH.out.2]), HRD.out.set' (HNE.out (by omega)) _ _, hbel.setCell (by simp) _⟩
        case measure => simp [intOf]; omega
    · obtain rfl : k = L := by omega
      have z0 := r0.frozen 0
      have z1 := r0.frozen 1
      have p0 := r0.cell (i := 0) (by omega)
      have p1 := r0.cell (i := 1) (by omega)
      have q0 := r1.cell (i := 0) (by omega)
      have q1 := r1.cell (i := 1) (by omega)
      go_wp2_with fail
      exact bodyPost_ret (v := .tuple #[.agg #[.int .i64 (SYp (FD f t a) 0 k), .int .i64 (SYp (FD f t a) 1 k)], .int .i64 0]) (by simp [results, Try.results14, go_sem, p0, p1]) rfl ⟨by rw [← HLL.out], (hbel.setCell (by simp) _).setCell (by simp) _⟩
end Go.Proofs.Ythcednankgaogaa
