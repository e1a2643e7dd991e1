/- hard.search: is there a way to go on. Conditions: what may come and what is good are told by functions of the list. -/
import Derived.Test.YtkedkgmcdhmjiaaPred
import Derived.Test.YtkedkgmcdhmjiaaGrow
import Derived.IntWalk
namespace Go.Proofs.Ytkedkgmcdhmjiaa
open Go.ChangeShapes Go.WideShapes Go.ChangeAt Go.RowKit
set_option linter.unusedVariables false
set_option linter.unusedSimpArgs false
/-- the list's numbers and one more -/
def snocN (m : Nat) (g : Nat → Nat) (i : Nat) : Nat → Nat := fun q => if q < m then g q else i
def frm (m : Nat) (g : Nat → Nat) : Nat := if m = 0 then 0 else g (m - 1) + 1
/-- there is a way to take k more -/
def Fnd (n : Nat) (may : Nat → (Nat → Nat) → Nat → Bool) (good : Nat → (Nat → Nat) → Bool) : Nat → Nat → (Nat → Nat) → Prop
  | 0, m, g => good m g = true
  | k + 1, m, g => ∃ i, frm m g ≤ i ∧ i + (k + 1) ≤ n ∧ may m g i = true ∧ Fnd n may good k (m + 1) (snocN m g i)
def SrchP (n : Nat) (may : Nat → (Nat → Nat) → Nat → Bool) (good : Nat → (Nat → Nat) → Bool) (k m : Nat) (g : Nat → Nat) (e : Ending) : Prop :=
  (Fnd n may good k m g ∧ ∃ A' c', e = .returned (.tuple #[.slice A' ((m + k : Nat) : Nat) c', .bool true])) ∨ (¬ Fnd n may good k m g ∧ ∃ v, e = .returned (.tuple #[v, .bool false]))
/-- a function value that says of a list and a number whether it may come -/
def MayOk (K : FuncId) (caps : Array Value) (may : Nat → (Nat → Nat) → Nat → Bool) (w : World) : Prop :=
  ∀ W, Below w.heap.size w W → ∀ (A : Option Addr) (m c : Nat) (g : Nat → Nat) (i : Nat), m ≤ 16 → i ≤ 16 → Rd W A m (fun q => .int .i64 ((g q : Nat) : Int)) →
    Calls Try.prog K (#[.slice A m c, .int .i64 (i : Nat)] ++ caps) W fun e w' => e = .returned (.bool (may m g i)) ∧ Below W.heap.size W w'
def GoodOk (K : FuncId) (caps : Array Value) (good : Nat → (Nat → Nat) → Bool) (w : World) : Prop :=
  ∀ W, Below w.heap.size w W → ∀ (A : Option Addr) (m c : Nat) (g : Nat → Nat), m ≤ 16 → Rd W A m (fun q => .int .i64 ((g q : Nat) : Int)) →
    Calls Try.prog K (#[.slice A m c] ++ caps) W fun e w' => e = .returned (.bool (good m g)) ∧ Below W.heap.size W w'
theorem MayOk.mono {K : FuncId} {caps : Array Value} {may : Nat → (Nat → Nat) → Nat → Bool} {w w' : World} (h : MayOk K caps may w) (hb : Below w.heap.size w w') : MayOk K caps may w' := fun W hW => h W (hb.trans (hW.mono hb.size))
theorem GoodOk.mono {K : FuncId} {caps : Array Value} {good : Nat → (Nat → Nat) → Bool} {w w' : World} (h : GoodOk K caps good w) (hb : Below w.heap.size w w') : GoodOk K caps good w' := fun W hW => h W (hb.trans (hW.mono hb.size))
theorem EIs : Elem Try.prog 23 3 1 8 := Elem.of Try.underlying23 (by kernel_rfl : (Try.prog.info? 3).map (fun i => (i.zero, i.size, i.bytes)) = some (some (.int .i64 0), 1, 8)) rfl (by omega)
theorem Rd.oneK (W : World) (v : Value) (e : TypeId) (K : Nat) (hK : W.heap.size = K) : Rd (W.alloc (.cells #[v] e)) (some ⟨K, 0, none⟩) 1 (fun _ => v) := by
  subst hK; exact Rd.one W v e
set_option maxRecDepth 100000 in
set_option maxHeartbeats 2000000 in
theorem search_any (n : Nat) (hn : n ≤ 16) (K1 K2 : FuncId) (caps1 caps2 : Array Value) (may : Nat → (Nat → Nat) → Nat → Bool) (good : Nat → (Nat → Nat) → Bool)
    (hK1 : ∀ xs W, Sem.run Try.prog (callFunc K1 xs) W = .ok (.enter K1 xs) W) (hK2 : ∀ xs W, Sem.run Try.prog (callFunc K2 xs) W = .ok (.enter K2 xs) W) :
    ∀ (k : Nat) (A : Option Addr) (m c : Nat) (g : Nat → Nat) (w : World), m + k ≤ 16 → (∀ q, q < m → g q < n) → (A = none → m = 0 ∧ c = 0) → m ≤ c → c ≤ maxLen → MayOk K1 caps1 may w → GoodOk K2 caps2 good w → Rd w A m (fun q => .int .i64 ((g q : Nat) : Int)) →
      Calls Try.prog 19 #[.int .i64 n, .int .i64 k, .slice A m c, .func (.func K1) #[] caps1, .func (.func K2) #[] caps2] w fun e w' => SrchP n may good k m g e ∧ Below w.heap.size w w' := by
  have HK1 := Lib.hid hK1
  have HK2 := Lib.hid hK2
  clear hK1 hK2
  intro k
  induction k with
  | zero =>
    intro A m c g w hmk hg hA hmc hc hM hG h
    have HG := Lib.hid hG
    have H := Lib.hid h
    clear hM hG h hA hg hmc hc
    have hk2 := HK2.out
    go_enter Try.func19, Try.ntmps19
    go_wp2_with fail
    refine (HG.out w (Below.refl _ _) A m c g (by omega) H.out).mono ?_
    rintro e w2 ⟨rfl, hb2⟩
    have HB2 := Lib.hid hb2
    clear hb2 hk2
    cases hgo : good m g
    · have HGO := Lib.hid hgo
      clear hgo
      go_wp2_with fail
      go_ret2
      exact ⟨.inr ⟨(fun h => absurd ((show good m g = true from h).symm.trans HGO.out) (by decide)), _, rfl⟩, HB2.out⟩
    · have HGO := Lib.hid hgo
      clear hgo
      go_wp2_with fail
      go_ret2
      exact ⟨.inl ⟨HGO.out, A, c, rfl⟩, HB2.out⟩
  | succ k ih =>
    intro A m c g w hmk hg hA hmc hc hM hG h
    have hmx : c ≤ 9223372036854775807 := by unfold maxLen at hc; omega
    have HM := Lib.hid hM
    have HG := Lib.hid hG
    have H := Lib.hid h
    have HGN := Lib.hid hg
    have HA := Lib.hid hA
    have IH := Lib.hid ih
    obtain ⟨kk, hkk⟩ : ∃ kk, kk = k + 1 := ⟨_, rfl⟩
    have HKK := Lib.hid hkk
    have kpos : 0 < kk := by omega
    have hkz : ((kk : Int) == 0) = false := by simp; omega
    have k16 : m + kk ≤ 16 := by omega
    rw [← hkk]
    clear hM hG h hg hA ih hkk hmk hc
    have hk1 := HK1.out
    have wk : IntKind.i64.wrap ((kk : Int) - 1) = (k : Int) := by rw [show (kk : Int) - 1 = (k : Int) by have := HKK.out; omega]; exact IntWalk.i64_in _ (by have := HKK.out; omega)
    have WK := Lib.hid wk
    clear wk
    obtain ⟨fr, hfr, hfn⟩ : ∃ fr, fr = frm m g ∧ fr ≤ n := ⟨_, rfl, (by
        unfold frm
        split
        · omega
        · exact HGN.out _ (by omega))⟩
    have HFR := Lib.hid hfr
    clear hfr
    by_cases hm0 : m = 0
    · have ht : decide (0 < m) = false := by rw [hm0]; rfl
      have hf0 : fr = 0 := by rw [HFR.out]; unfold frm; rw [if_pos hm0]
      clear hm0
      go_enter Try.func19, Try.ntmps19
      go_wp2_with fail
      clear ht
      go_loopw [13] (fun s13 wr => ∃ i : Nat, i ≤ n + 1 ∧ s13 = .int .i64 (i : Nat) ∧ Hid (frm m g ≤ i ∧ ∀ j, frm m g ≤ j → j < i → ¬ (j + kk ≤ n ∧ may m g j = true ∧ Fnd n may good k (m + 1) (snocN m g j))) ∧ Hid (Below w.heap.size w wr)) (fun s13 _ => n + 1 - (intOf s13).toNat)
      case atStart => exact ⟨fr, by omega, by rw [hf0]; rfl, Lib.hid ⟨by rw [← HFR.out]; exact Nat.le_refl _, fun j h1 h2 => absurd (by rw [← HFR.out] at h1; omega) (Nat.lt_irrefl 0)⟩, Lib.hid (Below.refl _ _)⟩
      case round =>
        obtain ⟨wo, rfl⟩ : ∃ wo : World, wo = wr := ⟨_, rfl⟩
        obtain ⟨i, hi, rfl, HALL, HB⟩ := hrel
        have wik : IntKind.i64.wrap ((i : Int) + kk) = (i : Int) + kk := IntWalk.i64_in _ (by omega)
        by_cases hle : i + kk ≤ n
        · have H1 := Lib.hid (H.out.below HB.out)
          clear wik
          go_wp2_with fail
          refine (HM.out wo HB.out _ m c g i (by omega) (by omega) H1.out).mono ?_
          rintro e w2 ⟨rfl, hb2⟩
          have HB2 := Lib.hid (HB.out.trans (hb2.mono HB.out.size))
          have H2 := Lib.hid (H1.out.below hb2)
          clear hb2
          cases hmy : may m g i
          · have HMY := Lib.hid hmy
            clear hmy
            go_wp2_with fail
            go_roundw
            case rel => exact ⟨i + 1, by omega, by go_num, Lib.hid ⟨by have := HALL.out.1; omega, fun j h1 h2 => by
              by_cases e : j = i
              · subst e; rw [HMY.out]; exact fun h => by cases h.2.1
              · exact HALL.out.2 j h1 (by omega)⟩, HB2⟩
            case measure => simp [intOf]; omega
          · have HMY := Lib.hid hmy
            clear hmy
            have wk := WK.out
            go_wp2_with (at_builtin; refine wpList_grow _ rfl (.tmp 54) (.tmp 56) 23 rfl EIs rfl (k := m) (by omega) (fun e => ⟨(HA.out e).1, (HA.out e).1⟩) (H2.out.alloc _) rfl (l := 1) rfl (Rd.oneK w2 (.int .i64 ((i : Nat) : Int)) 3 w2.heap.size rfl) (fun _ _ => rfl) (by omega) (by omega) (by unfold maxLen; omega) (by omega) (m + 1) (m + 1) rfl rfl ?_; intro A3 c3 w3 hown3 hb3)
            have hbA : Below w2.heap.size w2 (w2.alloc (.cells #[.int .i64 ((i : Nat) : Int)] 3)) := (Below.refl _ _).alloc (Nat.le_refl _) _
            have HB3 := Lib.hid (HB2.out.trans ((hbA.trans (hb3.mono hbA.size)).mono HB2.out.size))
            have HO3 := Lib.hid hown3
            clear hbA hb3 hown3
            have rd3 := HO3.out.rd.congr (C' := fun q => .int .i64 ((snocN m g i q : Nat) : Int)) (fun q hq => by unfold cat snocN; split <;> rfl)
            have hA3 : A3 = none → m + 1 = 0 ∧ c3 = 0 := fun e => by
              obtain ⟨b, off, e', _⟩ := HO3.out.rd.at_ (show 0 < m + 1 by omega)
              rw [e] at e'; cases e'
            have hs3 : ∀ q, q < m + 1 → snocN m g i q < n := fun q hq => by
              unfold snocN
              split
              · rename_i h; exact HGN.out q h
              · omega
            refine (IH.out A3 (m + 1) c3 (snocN m g i) w3 (by have := HKK.out; omega) hs3 hA3 HO3.out.le.1 HO3.out.le.2 (HM.out.mono HB3.out) (HG.out.mono HB3.out) rd3).mono ?_
            rintro e w4 ⟨hs, hb4⟩
            have HB4 := Lib.hid (HB3.out.trans (hb4.mono HB3.out.size))
            clear hb4 rd3 hA3 hs3
            rcases hs with ⟨hf, A4, c4, rfl⟩ | ⟨hf, v, rfl⟩
            · have HF := Lib.hid hf
              have el : m + 1 + k = m + kk := by have := HKK.out; omega
              rw [el]
              clear hf el
              go_wp2_with fail
              go_ret2
              exact ⟨.inl ⟨by rw [HKK.out]; exact ⟨i, HALL.out.1, by have := HKK.out; omega, HMY.out, HF.out⟩, A4, c4, rfl⟩, HB4.out⟩
            · have HF := Lib.hid hf
              clear hf wk
              go_wp2_with fail
              go_roundw
              case rel => exact ⟨i + 1, by omega, by go_num, Lib.hid ⟨by have := HALL.out.1; omega, fun j h1 h2 => by
                by_cases e : j = i
                · subst e; exact fun h => HF.out h.2.2
                · exact HALL.out.2 j h1 (by omega)⟩, HB4⟩
              case measure => simp [intOf]; omega
        · clear wik
          go_wp2_with fail
          go_ret2
          exact ⟨.inr ⟨(fun h => by
            rw [HKK.out] at h
            obtain ⟨j, h1, h2, h3, h4⟩ := h
            exact HALL.out.2 j h1 (by have := HKK.out; omega) ⟨by have := HKK.out; omega, h3, h4⟩), _, rfl⟩, HB.out⟩
    · have ht : decide (0 < m) = true := by simp; omega
      have hf0 : fr = g (m - 1) + 1 := by rw [HFR.out]; unfold frm; rw [if_neg hm0]
      obtain ⟨b0, o0, hA0, _, hc0⟩ := H.out.at_ (show m - 1 < m by omega)
      subst hA0
      obtain ⟨y, hy⟩ : ∃ y, y = g (m - 1) := ⟨_, rfl⟩
      rw [← hy] at hc0 hf0
      have hyn : y < n := by rw [hy]; exact HGN.out _ (by omega)
      obtain ⟨m', hm'⟩ : ∃ m', m' = m - 1 := ⟨_, rfl⟩
      rw [← hm'] at hc0
      have e1 : (m : Int) - 1 = (m' : Int) := by omega
      have e2 : IntKind.i64.wrap ((m : Int) - 1) = (m' : Int) := by rw [e1]; exact IntWalk.i64_in _ (by omega)
      have hlm : m' < m := by omega
      clear hm0 hy hm' e1
      go_enter Try.func19, Try.ntmps19
      go_wp2_with fail
      clear ht e2
      go_loopw [13] (fun s13 wr => ∃ i : Nat, i ≤ n + 1 ∧ s13 = .int .i64 (i : Nat) ∧ Hid (frm m g ≤ i ∧ ∀ j, frm m g ≤ j → j < i → ¬ (j + kk ≤ n ∧ may m g j = true ∧ Fnd n may good k (m + 1) (snocN m g j))) ∧ Hid (Below w.heap.size w wr)) (fun s13 _ => n + 1 - (intOf s13).toNat)
      case atStart => exact ⟨fr, by omega, by rw [hf0]; rfl, Lib.hid ⟨by rw [← HFR.out]; exact Nat.le_refl _, fun j h1 h2 => absurd (by rw [← HFR.out] at h1; omega) (Nat.lt_irrefl 0)⟩, Lib.hid (Below.refl _ _)⟩
      case round =>
        obtain ⟨wo, rfl⟩ : ∃ wo : World, wo = wr := ⟨_, rfl⟩
        obtain ⟨i, hi, rfl, HALL, HB⟩ := hrel
        have wik : IntKind.i64.wrap ((i : Int) + kk) = (i : Int) + kk := IntWalk.i64_in _ (by omega)
        by_cases hle : i + kk ≤ n
        · have H1 := Lib.hid (H.out.below HB.out)
          clear wik
          go_wp2_with fail
          refine (HM.out wo HB.out _ m c g i (by omega) (by omega) H1.out).mono ?_
          rintro e w2 ⟨rfl, hb2⟩
          have HB2 := Lib.hid (HB.out.trans (hb2.mono HB.out.size))
          have H2 := Lib.hid (H1.out.below hb2)
          clear hb2
          cases hmy : may m g i
          · have HMY := Lib.hid hmy
            clear hmy
            go_wp2_with fail
            go_roundw
            case rel => exact ⟨i + 1, by omega, by go_num, Lib.hid ⟨by have := HALL.out.1; omega, fun j h1 h2 => by
              by_cases e : j = i
              · subst e; rw [HMY.out]; exact fun h => by cases h.2.1
              · exact HALL.out.2 j h1 (by omega)⟩, HB2⟩
            case measure => simp [intOf]; omega
          · have HMY := Lib.hid hmy
            clear hmy
            have wk := WK.out
            go_wp2_with (at_builtin; refine wpList_grow _ rfl (.tmp 54) (.tmp 56) 23 rfl EIs rfl (k := m) (by omega) (fun e => ⟨(HA.out e).1, (HA.out e).1⟩) (H2.out.alloc _) rfl (l := 1) rfl (Rd.oneK w2 (.int .i64 ((i : Nat) : Int)) 3 w2.heap.size rfl) (fun _ _ => rfl) (by omega) (by omega) (by unfold maxLen; omega) (by omega) (m + 1) (m + 1) rfl rfl ?_; intro A3 c3 w3 hown3 hb3)
            have hbA : Below w2.heap.size w2 (w2.alloc (.cells #[.int .i64 ((i : Nat) : Int)] 3)) := (Below.refl _ _).alloc (Nat.le_refl _) _
            have HB3 := Lib.hid (HB2.out.trans ((hbA.trans (hb3.mono hbA.size)).mono HB2.out.size))
            have HO3 := Lib.hid hown3
            clear hbA hb3 hown3
            have rd3 := HO3.out.rd.congr (C' := fun q => .int .i64 ((snocN m g i q : Nat) : Int)) (fun q hq => by unfold cat snocN; split <;> rfl)
            have hA3 : A3 = none → m + 1 = 0 ∧ c3 = 0 := fun e => by
              obtain ⟨b, off, e', _⟩ := HO3.out.rd.at_ (show 0 < m + 1 by omega)
              rw [e] at e'; cases e'
            have hs3 : ∀ q, q < m + 1 → snocN m g i q < n := fun q hq => by
              unfold snocN
              split
              · rename_i h; exact HGN.out q h
              · omega
            refine (IH.out A3 (m + 1) c3 (snocN m g i) w3 (by have := HKK.out; omega) hs3 hA3 HO3.out.le.1 HO3.out.le.2 (HM.out.mono HB3.out) (HG.out.mono HB3.out) rd3).mono ?_
            rintro e w4 ⟨hs, hb4⟩
            have HB4 := Lib.hid (HB3.out.trans (hb4.mono HB3.out.size))
            clear hb4 rd3 hA3 hs3
            rcases hs with ⟨hf, A4, c4, rfl⟩ | ⟨hf, v, rfl⟩
            · have HF := Lib.hid hf
              have el : m + 1 + k = m + kk := by have := HKK.out; omega
              rw [el]
              clear hf el
              go_wp2_with fail
              go_ret2
              exact ⟨.inl ⟨by rw [HKK.out]; exact ⟨i, HALL.out.1, by have := HKK.out; omega, HMY.out, HF.out⟩, A4, c4, rfl⟩, HB4.out⟩
            · have HF := Lib.hid hf
              clear hf wk
              go_wp2_with fail
              go_roundw
              case rel => exact ⟨i + 1, by omega, by go_num, Lib.hid ⟨by have := HALL.out.1; omega, fun j h1 h2 => by
                by_cases e : j = i
                · subst e; exact fun h => HF.out h.2.2
                · exact HALL.out.2 j h1 (by omega)⟩, HB4⟩
              case measure => simp [intOf]; omega
        · clear wik
          go_wp2_with fail
          go_ret2
          exact ⟨.inr ⟨(fun h => by
            rw [HKK.out] at h
            obtain ⟨j, h1, h2, h3, h4⟩ := h
            exact HALL.out.2 j h1 (by have := HKK.out; omega) ⟨by have := HKK.out; omega, h3, h4⟩), _, rfl⟩, HB.out⟩

end Go.Proofs.Ytkedkgmcdhmjiaa
