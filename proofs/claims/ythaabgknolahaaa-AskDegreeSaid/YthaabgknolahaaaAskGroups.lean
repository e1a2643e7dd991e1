/- What ask.groups and Groups compute. Conditions: the table reads as a function of its index. -/
import Derived.Test.YthaabgknolahaaaAskLaw2
import Derived.Test.YthaabgknolahaaaAskFns
import Derived.BigQuiet
import Derived.Deep.QuietTactic
namespace Go.Proofs.Ythaabgknolahaaa
open Go.ChangeShapes Go.WideShapes Go.ChangeAt Go.RowKit
set_option linter.unusedVariables false
set_option linter.unusedSimpArgs false
theorem xorG : ∀ x : Nat, x < 16 → ∀ s : Nat, s < 16 → bits .xor .i64 (x : Int) (s : Int) = ((x ^^^ s : Nat) : Int) := by decide +kernel
theorem andG : ∀ s : Nat, s < 16 → ∀ l : Nat, l < 16 → 0 < s → bits .and .i64 ((s : Int) - 1) (l : Int) = (((s - 1) &&& l : Nat) : Int) := by decide +kernel
theorem andnG : ∀ l : Nat, l < 16 → ∀ s : Nat, s < 16 → s &&& l = s → bits .andNot .i64 (l : Int) (s : Int) = ((l ^^^ s : Nat) : Int) := by decide +kernel
theorem xor_ltG : ∀ n : Nat, n < 5 → ∀ x : Nat, x < 16 → ∀ s : Nat, s < 16 → x < 2 ^ n → s < 2 ^ n → x ^^^ s < 2 ^ n := by decide +kernel
set_option maxRecDepth 100000 in
set_option maxHeartbeats 2000000 in
theorem groups_any (A : Option Addr) (n c x : Nat) (F : Nat → Bool) (w : World) (h : Tb w A n F) (h4 : n ≤ 4) (hx : x < 2 ^ n) : ∀ g l, l < 2 ^ n → l < g → ∀ k,
    Calls Try.prog 18 #[.slice A (2 ^ n) c, .int .i64 (x : Nat), .int .i64 (l : Nat)] (w.drewN k) fun e w' => e = .returned (.int .i64 (grF F x g l : Nat)) ∧ ∃ m, w' = w.drewN m
  | 0, l, hl, hg, k => absurd hg (Nat.not_lt_zero _)
  | g + 1, l, hl, hg, k => by
    have hp := p16 h4
    have hrec : ∀ s, s ≠ 0 → s < 16 → s &&& l = s → ∀ k, Calls Try.prog 18 #[.slice A (2 ^ n) c, .int .i64 (x : Nat), .int .i64 (l ^^^ s : Nat)] (w.drewN k) fun e w' => e = .returned (.int .i64 (grF F x g (l ^^^ s) : Nat)) ∧ ∃ m, w' = w.drewN m := fun s h0 hs hsl k => by
      obtain ⟨a, b, c', d⟩ := sub_popc l (by omega) s hs h0 hsl
      exact groups_any A n c x F w h h4 hx g (l ^^^ s) (by omega) (by omega) k
    have hxl : ∀ s, s < 2 ^ n → x ^^^ s < 2 ^ n := fun s hs => xor_ltG n (by omega) x (by omega) s (by omega) hx hs
    obtain ⟨b, o, rfl, hb, hcx⟩ := h.at_ hx
    have hcl : ∀ q, q < 2 ^ n → w.cell? ⟨b, o + q, none⟩ = some (.bool (F q)) := fun q hq => by
      obtain ⟨b', o', e, _, hc⟩ := h.at_ hq
      cases e; exact hc
    have hgl : ∀ l', l' < 16 → grF F x g l' ≤ 4 := fun l' hl' => by
      have := gr_le (F := F) (x := x) (g := g) hl'
      have : popc l' ≤ 4 := by unfold popc; omega
      omega
    obtain ⟨M, hM⟩ : ∃ M, M = 2 ^ n := ⟨_, rfl⟩
    rw [← hM] at hp hxl hcl hl hx hrec ⊢
    have HXL := Lib.hid hxl
    have HCL := Lib.hid hcl
    have HREC := Lib.hid hrec
    have HGL := Lib.hid hgl
    rw [grF, ← dn_end (F := F)]
    have hstart : dnF (grC F (grF F x g) x l) l = 0 := dn_start (by omega)
    obtain ⟨C, hC⟩ : ∃ C, C = grC F (grF F x g) x l := ⟨_, rfl⟩
    have HCC := Lib.hid hC
    rw [← hC] at hstart ⊢
    have HST := Lib.hid hstart
    obtain ⟨q0, hq0⟩ : ∃ q, q = F x := ⟨_, rfl⟩
    rw [← hq0] at hcx
    have HQ0 := Lib.hid hq0
    have htop := (sub_top l (by omega)).1
    have HTOP := Lib.hid htop
    clear h hxl hcl hM hrec hgl hstart hC hq0 htop
    go_enter Try.func18, Try.ntmps18
    go_wp2_with fail
    go_loopw [7, 8] (fun s7 s8 wr => ∃ (s : Nat) (k : Nat), s < M ∧ wr = w.drewN k ∧ s8 = .int .i64 (s : Nat) ∧ s7 = .int .i64 (dnF C s : Nat) ∧ Hid (s &&& l = s)) (fun _ s8 _ => (intOf s8).toNat)
    case atStart => exact ⟨l, k, hl, rfl, rfl, by rw [HST.out]; rfl, HTOP⟩
    case round =>
      obtain ⟨s, k2, hs, rfl, rfl, rfl, HSL⟩ := hrel
      by_cases hs0 : 0 < s
      · have hxs := HXL.out s hs
        have e1 := xorG x (by omega) s (by omega)
        have hcy := HCL.out _ hxs
        have e2 := andG s (by omega) l (by omega) hs0
        have e3 := andnG l (by omega) s (by omega) HSL.out
        obtain ⟨hn1, hn2⟩ := sub_next l (by omega) s (by omega) (by omega)
        have hstep : dnF (grC F (grF F x g) x l) ((s - 1) &&& l) = max (dnF (grC F (grF F x g) x l) s) (grC F (grF F x g) x l s) := dn_step (by omega) (by omega) (by omega) HSL.out
        rw [← HCC.out] at hstep
        have hdb : dnF C s ≤ 5 := dn_le fun t ht _ => by
          rw [HCC.out]; unfold grC
          split
          · rename_i hc
            obtain ⟨_, b1, _, _⟩ := sub_popc l (by omega) t ht hc.1 hc.2.1
            have := HGL.out (l ^^^ t) (by omega)
            omega
          · omega
        have hcs : C s = if F (x ^^^ s) ≠ F x then 1 + grF F x g (l ^^^ s) else 0 := by
          rw [HCC.out]; unfold grC
          by_cases hc : F (x ^^^ s) ≠ F x
          · rw [if_pos hc, if_pos ⟨by omega, HSL.out, hc⟩]
          · rw [if_neg hc, if_neg fun e => hc e.2.2]
        obtain ⟨u, hu⟩ : ∃ u, u = x ^^^ s := ⟨_, rfl⟩
        obtain ⟨s', hs'⟩ : ∃ s', s' = (s - 1) &&& l := ⟨_, rfl⟩
        obtain ⟨d, hd⟩ : ∃ d, d = dnF C s := ⟨_, rfl⟩
        obtain ⟨p, hpv⟩ : ∃ p, p = F u := ⟨_, rfl⟩
        rw [← hu] at e1 hcy hcs hxs
        rw [← hpv] at hcy hcs
        rw [← HQ0.out] at hcs
        rw [← hs'] at e2 hn1 hn2 hstep
        rw [← hd] at hdb hstep ⊢
        have HN2 := Lib.hid hn2
        have hs1 : IntKind.i64.wrap ((s : Int) - 1) = (s : Int) - 1 := IntWalk.i64_in _ (by omega)
        by_cases hpq : p = q0
        · rw [if_neg (by simp [hpq])] at hcs
          rw [hcs, Nat.max_zero] at hstep
          have HSTEP := Lib.hid hstep
          subst hpq
          clear hu hs' hd hpv hcs hstep hn2
          cases p
          · go_wp2_with fail
            go_quiet (fail)
            go_wp2_with fail
            go_roundw
            case rel => exact ⟨s', _, by omega, rfl, rfl, by rw [HSTEP.out], HN2⟩
            case measure => simp [intOf]; omega
          · go_wp2_with fail
            go_quiet (fail)
            go_wp2_with fail
            go_roundw
            case rel => exact ⟨s', _, by omega, rfl, rfl, by rw [HSTEP.out], HN2⟩
            case measure => simp [intOf]; omega
        · rw [if_pos hpq] at hcs
          obtain ⟨v, hv⟩ : ∃ v, v = grF F x g (l ^^^ s) := ⟨_, rfl⟩
          have hv4 : v ≤ 4 := by rw [hv]; exact HGL.out _ (by have := sub_popc l (by omega) s (by omega) (by omega) HSL.out; omega)
          have hre := HREC.out s (by omega) (by omega) HSL.out
          obtain ⟨ls, hls⟩ : ∃ z, z = l ^^^ s := ⟨_, rfl⟩
          rw [← hv] at hcs hre
          rw [← hls] at e3 hre
          rw [hcs] at hstep
          obtain ⟨mm, hmm⟩ : ∃ mm, mm = max d (1 + v) := ⟨_, rfl⟩
          have hmi : max ((d : Nat) : Int) (1 + (v : Int)) = (mm : Int) := by omega
          rw [← hmm] at hstep
          have HSTEP := Lib.hid hstep
          have HRE := Lib.hid hre
          clear hu hs' hd hpv hcs hstep hn2 hv hre hls hmm
          rcases (by cases p <;> cases q0 <;> simp_all : (p = true ∧ q0 = false) ∨ (p = false ∧ q0 = true)) with ⟨rfl, rfl⟩ | ⟨rfl, rfl⟩
          · clear hpq
            go_wp2_with fail
            go_quiet (fail)
            go_wp2_with fail
            refine (HRE.out _).mono ?_
            rintro e w3 ⟨rfl, k3, rfl⟩
            go_wp2_with fail
            go_roundw
            case rel => exact ⟨s', k3, by omega, rfl, rfl, by rw [HSTEP.out]; congr 1; split <;> omega, HN2⟩
            case measure => simp [intOf]; omega
          · clear hpq
            go_wp2_with fail
            go_quiet (fail)
            go_wp2_with fail
            refine (HRE.out _).mono ?_
            rintro e w3 ⟨rfl, k3, rfl⟩
            go_wp2_with fail
            go_roundw
            case rel => exact ⟨s', k3, by omega, rfl, rfl, by rw [HSTEP.out]; congr 1; split <;> omega, HN2⟩
            case measure => simp [intOf]; omega
      · obtain rfl : s = 0 := by omega
        go_wp2_with fail
        go_ret
        exact ⟨rfl, _, rfl⟩
theorem mx_succg (g : Nat → Nat) (k : Nat) : mxF g (k + 1) = max (mxF g k) (g k) := rfl
set_option maxRecDepth 100000 in
set_option maxHeartbeats 2000000 in
theorem Groups_any (A : Option Addr) (n c : Nat) (F : Nat → Bool) (w : World) (h : Tb w A n F) (h4 : n ≤ 4) :
    Calls Try.prog 9 #[.int .i64 (n : Nat), .slice A (2 ^ n) c] w fun e w' => e = .returned (.tuple #[.int .i64 (mxF (fun x => grp F x (2 ^ n - 1)) (2 ^ n) : Nat), .int .i64 0]) ∧ ∃ k, w' = w.drewN k := by
  have hp := p16 h4
  have hw := askWrong_any (n : Nat) 0 A (2 ^ n) c w (by unfold maxLen; omega)
  rw [show tabE ((n : Nat) : Int) (2 ^ n) 0 = 0 by unfold tabE; rw [if_pos (by omega), if_pos (by simp), if_pos (by omega)]] at hw
  have hgr : ∀ x, x < 2 ^ n → ∀ k, Calls Try.prog 18 #[.slice A (2 ^ n) c, .int .i64 (x : Nat), .int .i64 (2 ^ n - 1 : Nat)] (w.drewN k) fun e w' => e = .returned (.int .i64 (grp F x (2 ^ n - 1) : Nat)) ∧ ∃ m, w' = w.drewN m := fun x hx k =>
    groups_any A n c x F w h h4 hx 16 (2 ^ n - 1) (by omega) (by omega) k
  have hgb : ∀ x, grp F x (2 ^ n - 1) ≤ 4 := fun x => by
    have := grp_le (F := F) (x := x) (show 2 ^ n - 1 < 16 by omega)
    rw [popc_full n (by omega)] at this
    omega
  obtain ⟨M, hM⟩ : ∃ M, M = 2 ^ n := ⟨_, rfl⟩
  rw [← hM] at hp hw hgr hgb ⊢
  have HW := Lib.hid hw
  have HGR := Lib.hid hgr
  have HGB := Lib.hid hgb
  clear h hw hM hgr hgb
  go_enter Try.func9, Try.ntmps9
  go_wp2_with fail
  refine HW.out.mono ?_
  rintro e w2 ⟨rfl, rfl⟩
  go_wp2_with fail
  go_loopw [7, 17] (fun s7 s17 wr => ∃ x k : Nat, x ≤ M ∧ wr = w.drewN k ∧ s17 = .int .i64 (x : Nat) ∧ s7 = .int .i64 (mxF (fun x => grp F x (M - 1)) x : Nat)) (fun _ s17 _ => M - (intOf s17).toNat)
  case atStart => exact ⟨0, 0, Nat.zero_le _, rfl, rfl, rfl⟩
  case round =>
    obtain ⟨x, k, hx, rfl, rfl, rfl⟩ := hrel
    by_cases hxm : x < M
    · have hg := HGR.out x hxm k
      have hg4 := HGB.out x
      have hmb : mxF (fun x => grp F x (M - 1)) x ≤ 4 := mx_le fun i hi => HGB.out i
      have hms := mx_succg (fun x => grp F x (M - 1)) x
      obtain ⟨mo, hmo⟩ : ∃ mo, mo = mxF (fun x => grp F x (M - 1)) x := ⟨_, rfl⟩
      obtain ⟨v, hv⟩ : ∃ v, v = grp F x (M - 1) := ⟨_, rfl⟩
      rw [← hv] at hg hg4
      rw [← hmo] at hmb hms ⊢
      obtain ⟨mm, hmm⟩ : ∃ m, m = max mo v := ⟨_, rfl⟩
      have HMS : Hid (mxF (fun x => grp F x (M - 1)) (x + 1) = mm) := Lib.hid (by rw [hms, hmm, hv])
      have hmi : max ((mo : Nat) : Int) ((v : Nat) : Int) = (mm : Int) := by omega
      have hw1 : IntKind.i64.wrap ((M : Int) - 1) = (M : Int) - 1 := IntWalk.i64_in _ (by omega)
      rw [show ((M - 1 : Nat) : Int) = (M : Int) - 1 by omega] at hg
      have HG := Lib.hid hg
      clear hg hmo hv hms hmm
      go_wp2_with fail
      refine HG.out.mono ?_
      rintro e w3 ⟨rfl, k3, rfl⟩
      go_wp2_with fail
      go_roundw
      case rel => exact ⟨x + 1, k3, by omega, rfl, by go_num, by rw [HMS.out]; congr 1; split <;> omega⟩
      case measure => simp [intOf]; omega
    · obtain rfl : x = M := by omega
      go_wp2_with fail
      go_ret2
      exact ⟨rfl, k, rfl⟩
set_option maxRecDepth 100000 in
theorem Groups_bad (A : Option Addr) (n : Int) (m c : Nat) (w : World) (hm : m ≤ maxLen) (hv : tabE n m 0 ≠ 0) :
    Calls Try.prog 9 #[.int .i64 n, .slice A m c] w fun e w' => e = .returned (.tuple #[.int .i64 0, .int .i64 (tabE n m 0)]) ∧ w = w' := by
  have hw := askWrong_any n 0 A m c w hm
  obtain ⟨v, hvv⟩ : ∃ v, v = tabE n m 0 := ⟨_, rfl⟩
  rw [← hvv] at hw hv ⊢
  have q : (v != 0) = true := by rw [bne_iff_ne]; exact hv
  have HW := Lib.hid hw
  clear hw hvv hv
  go_enter Try.func9, Try.ntmps9
  go_wp2_with fail
  refine HW.out.mono ?_
  rintro e w2 ⟨rfl, rfl⟩
  go_wp2_with fail
  go_ret2
  exact ⟨rfl, rfl⟩
end Go.Proofs.Ythaabgknolahaaa
