/- What slices.Clone, wave.turn and wave.each (with turn) compute. Conditions: as each theorem states. -/
import Derived.Test.YtjaakdjkacnfkaaWaveWrong
import Derived.Test.YtjaakdjkacnfkaaWaveLaw
import Derived.Test.YtjaakdjkacnfkaaBits
import Derived.Deep.RegionLaw
namespace Go.Proofs.Ytjaakdjkacnfkaa
open WaveM Go.ChangeShapes Go.WideShapes Go.ChangeAt Go.RowKit
set_option linter.unusedVariables false
theorem EI : Elem Try.prog 23 3 1 8 := Elem.of Try.underlying23 (by kernel_rfl : (Try.prog.info? 3).map (fun i => (i.zero, i.size, i.bytes)) = some (some (.int .i64 0), 1, 8)) rfl (by omega)
set_option maxRecDepth 100000 in
theorem clone_any (A : Option Addr) (n c : Nat) (f : Nat → Int) (w : World) (h : Rd w A n (fun i => .int .i64 (f i))) (hn : n * 8 ≤ 140737488355328) :
    Calls Try.prog 23 #[.slice A n c] w fun e w' => ∃ A' c', e = .returned (.slice A' n c') ∧ Own w' w.heap.size 3 1 A' n c' n (fun i => .int .i64 (f i)) ∧ Below w.heap.size w w' := by
  rcases A with _ | a
  · have h0 : n = 0 := by
      rcases Nat.eq_zero_or_pos n with e | e
      · exact e
      · obtain ⟨_, _, e, _⟩ := h e; cases e
    subst h0
    have hnil := fun W => Lib.run_eql_slice_nil (P := Try.prog) W 23 3 none 0 c 0 0 Try.underlying23
    go_enter Try.func23, Try.ntmps23
    go_wp2_with fail
    go_ret
    exact ⟨none, 0, rfl, Own.nil _ _ _ _ _, Below.refl _ _⟩
  · have hnil := fun W => Lib.run_eql_slice_nil (P := Try.prog) W 23 3 (some a) n c 0 0 Try.underlying23
    go_enter Try.func23, Try.ntmps23
    go_wp2_with (at_builtin; refine wpList_app _ rfl (.tmp 5) (.tmp 6) 23 rfl EI rfl (Own.empty w w.heap.size 3 1 (fun _ => .int .i64 0) (Nat.le_refl _)) rfl (l := n) (by omega) (h.alloc _) (fun _ _ => rfl) (by unfold maxLen; omega) (by omega) (by simp) n n (by omega) (by omega) ?_; intro A2 c2 w2 hown2 hg2 hat2 hbl2)
    go_ret
    exact ⟨A2, c2, rfl, hown2.congr (fun i hi => by rw [cat_ge (by omega), Nat.sub_zero]), ((Below.refl _ _).alloc (Nat.le_refl _) _).trans hbl2⟩
/-- a slice of the call's own that is not empty is a row -/
theorem Own.row {w : World} {base : Nat} {e : TypeId} {A : Option Addr} {n c : Nat} {C : Nat → Value} (h : Own w base e 1 A n c n C) (hn : 0 < n) :
    ∃ g F, A = some ⟨g, 0, none⟩ ∧ base ≤ g ∧ w.rowIs g e c F ∧ n ≤ c ∧ ∀ i, i < n → F i = C i := by
  rcases h.1.2 with ⟨_, h0⟩ | ⟨g, cap, cur, hv, hb, hg, hnc, hc, hs, ht⟩
  · omega
  · injection hv with hA _ hcc
    subst hA; subst hcc
    refine ⟨g, fun i => (cur[i]?).getD default, rfl, hb, ⟨cur, hg, by simpa using hs, fun i hi => ?_⟩, hnc, fun i hi => ?_⟩
    · have : i < cur.size := by omega
      simp [this]
    · have hr := h.rd.at_ hi
      obtain ⟨b, off, e1, _, hcell⟩ := hr
      simp at e1
      obtain ⟨rfl, rfl⟩ := e1
      rw [Nat.zero_add, cell_of_row w g i cur e (0, 0) hg] at hcell
      show (cur[i]?).getD default = _
      rw [hcell]; rfl
set_option maxRecDepth 100000 in
theorem turn_any (a b : Int) (w : World) (ha : -1000000000000 ≤ a ∧ a ≤ 1000000000000) (hb : -1000000000000 ≤ b ∧ b ≤ 1000000000000) :
    Calls Try.prog 17 #[.int .i64 a, .int .i64 b] w fun e w' => e = .returned (.tuple #[.int .i64 (a + b), .int .i64 (a - b)]) ∧ w = w' := by
  go_enter Try.func17, Try.ntmps17
  go_wp2_with fail
  go_ret2
  exact ⟨rfl, rfl⟩
set_option maxRecDepth 100000 in
theorem each_row (n : Nat) (A : Option Addr) (m c : Nat) (f : Nat → Int) (w : World) (h : Rd w A m (fun i => .int .i64 (f i))) (hn : n ≤ 4) (hm : m = 2 ^ n)
    (hB : ∀ i, i ≤ n → ∀ z, z < m → -1000000000000 ≤ E tA tS f i z ∧ E tA tS f i z ≤ 1000000000000) :
    Calls Try.prog 16 #[.int .i64 n, .slice A m c, .func (.func 17) #[] #[]] w fun e w' => ∃ g c' G, e = .returned (.slice (some ⟨g, 0, none⟩) m c') ∧ w.heap.size ≤ g ∧ w'.rowIs g 3 c' G ∧ (∀ z, z < m → G z = .int .i64 (E tA tS f n z)) ∧ m ≤ c' ∧ c' ≤ maxLen ∧ Below w.heap.size w w' := by
  have hp := pow_bd hn
  have hm1 : 1 ≤ m := by omega
  have hm16 : m ≤ 16 := by omega
  have HMM := Lib.hid hm
  have HB := Lib.hid hB
  clear hm hB hp
  go_enter Try.func16, Try.ntmps16
  go_wp2_with fail
  refine (clone_any A m c f w h (by omega)).mono ?_
  rintro e w1 ⟨A1, c1, rfl, hown, hb1⟩
  obtain ⟨g, F, rfl, hg, hrow, hmc, hF⟩ := hown.row (by omega)
  have hcm := hown.le.2
  have HF := Lib.hid hF
  clear hown hF
  go_wp2_with fail
  go_loopw [14] (fun i wr => ∃ (k : Nat) (G : Nat → Value), k ≤ n ∧ i = .int .i64 k ∧ wr.rowIs g 3 c1 G ∧ (∀ z, z < m → G z = .int .i64 (E tA tS f k z)) ∧ Below w.heap.size w wr) (fun i _ => n - (intOf i).toNat)
  case atStart => exact ⟨0, F, Nat.zero_le _, rfl, hrow, HF.out, hb1⟩
  case round =>
    obtain ⟨wo, rfl⟩ : ∃ wo : World, wo = wr := ⟨_, rfl⟩
    obtain ⟨k, G, hk, rfl, hr, hG0, hbel⟩ := hrel
    have HG := Lib.hid hG0
    clear hG0
    by_cases hlt : k < n
    · have hk4 : k < 4 := by omega
      have p2 := pow_bd (N := k) (by omega)
      obtain ⟨p0, p1, _, _⟩ := p2
      obtain ⟨gg, hgg⟩ : ∃ gg, gg = E tA tS f k := ⟨_, rfl⟩
      have HGG := Lib.hid hgg
      clear hgg
      go_wp2_with fail
      go_loopw [19] (fun i wr => ∃ (x : Nat) (G : Nat → Value), x ≤ m ∧ i = .int .i64 x ∧ wr.rowIs g 3 c1 G ∧ (∀ z, z < m → G z = .int .i64 (prt tA tS k gg x z)) ∧ Below w.heap.size w wr) (fun i _ => m - (intOf i).toNat)
      case atStart => exact ⟨0, G, Nat.zero_le _, rfl, hr, fun z hz => by rw [HG.out z hz, prt_zero, HGG.out], hbel⟩
      case round =>
        obtain ⟨x, G', hx, rfl, hr', hG0', hbel'⟩ := hrel
        have HG' := Lib.hid hG0'
        clear hG0'
        by_cases hlx : x < m
        · have hor : bits BinOp.or IntKind.i64 (x : Int) (2 ^ k) = ((x ||| 2 ^ k : Nat) : Int) := by
            have := or_nat x (2 ^ k) (by omega) (by omega)
            rw [← this]; simp
          have hos := or_small k hk4 x (by omega)
          obtain ⟨y, hy⟩ : ∃ y, y = x ||| 2 ^ k := ⟨_, rfl⟩
          rw [← hy] at hor hos
          clear hy
          by_cases hbit : x / 2 ^ k % 2 = 0
          · rw [if_pos hbit] at hos
            have hyl : y < m := by rw [hos, HMM.out]; exact or_lt n hn k hlt x (by rw [← HMM.out]; exact hlx) hbit
            have hne : ((y : Int) != x) = true := by rw [bne_iff_ne]; omega
            have hat := prt_at tA tS gg hk4 hbit (by omega)
            have cx : wr.cell? ⟨g, x, none⟩ = some (.int .i64 (gg x)) := by rw [hr'.cell (by omega), HG'.out x hlx, hat.1]
            have cy : wr.cell? ⟨g, y, none⟩ = some (.int .i64 (gg y)) := by rw [hr'.cell (by omega), HG'.out y hyl, hos, hat.2]
            have zx := hr'.frozen x
            have zy := hr'.frozen y
            have bx := HB.out k (by omega) x hlx
            have byy := HB.out k (by omega) y hyl
            rw [← HGG.out] at bx byy
            have sg := hr'.lt
            have hxy : ¬ x = y := by omega
            have HOS := Lib.hid hos
            have HBIT := Lib.hid hbit
            clear hos hbit hat
            go_wp2_with fail
            go_region_law (first | (go_simp; go_at_call 17; refine (turn_any _ _ _ bx byy).mono ?_; rintro e w' ⟨rfl, rfl⟩))
            all_goals go_wp2_with fail
            all_goals go_roundw
            all_goals first
              | (case rel => exact ⟨x + 1, _, by omega, by go_num, ((hr'.set x _).set y _), fun z hz => by
                  rw [prt_do tA tS gg hk4 (by omega) HBIT.out (by omega), ← HOS.out]
                  by_cases e1 : z = y
                  · rw [if_pos e1, if_pos e1]; rfl
                  · rw [if_neg e1, if_neg e1]
                    by_cases e2 : z = x
                    · rw [if_pos e2, if_pos e2]; rfl
                    · rw [if_neg e2, if_neg e2]; exact HG'.out z hz, ((hbel'.setCell (by simp; omega) _).setCell (by simp; omega) _).drew⟩)
              | (case measure => simp [intOf]; omega)
          · rw [if_neg hbit] at hos
            subst hos
            have hne : ((y : Int) != y) = false := by simp
            have HBIT := Lib.hid hbit
            clear hbit
            go_wp2_with fail
            go_roundw
            case rel => exact ⟨y + 1, G', by omega, by go_num, hr', fun z hz => by rw [HG'.out z hz, prt_skip tA tS gg hk4 (by omega) HBIT.out], hbel'⟩
            case measure => simp [intOf]; omega
        · obtain rfl : x = m := by omega
          go_wp2_with fail
          go_roundw
          case rel => exact ⟨k + 1, G', by omega, by go_num, hr', fun z hz => by rw [HG'.out z hz, prt_all _ _ _ _ hz, HGG.out]; rfl, hbel'⟩
          case measure => simp [intOf]; omega
    · obtain rfl : k = n := by omega
      go_wp2_with fail
      go_ret
      exact ⟨g, c1, G, rfl, hg, hr, HG.out, hmc, hcm, hbel⟩
theorem each_turn (n : Nat) (A : Option Addr) (m c : Nat) (f : Nat → Int) (w : World) (h : Rd w A m (fun i => .int .i64 (f i))) (hn : n ≤ 4) (hm : m = 2 ^ n)
    (hB : ∀ i, i ≤ n → ∀ z, z < m → -1000000000000 ≤ E tA tS f i z ∧ E tA tS f i z ≤ 1000000000000) :
    Calls Try.prog 16 #[.int .i64 n, .slice A m c, .func (.func 17) #[] #[]] w fun e w' => ∃ A' c', e = .returned (.slice A' m c') ∧ Rd w' A' m (fun i => .int .i64 (E tA tS f n i)) ∧ m ≤ c' ∧ c' ≤ maxLen ∧ Below w.heap.size w w' :=
  (each_row n A m c f w h hn hm hB).mono fun e w' ⟨g, c', G, h1, h2, h3, h4, h5, h6, h7⟩ => ⟨_, c', h1, (Rd.of_row h3 h5).congr h4, h5, h6, h7⟩
end Go.Proofs.Ytjaakdjkacnfkaa
