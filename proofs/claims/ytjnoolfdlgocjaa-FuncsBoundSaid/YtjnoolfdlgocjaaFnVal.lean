/- funcs.Value, general. Condition: the slices read as told. -/
import Derived.Test.YtjnoolfdlgocjaaFnAsk4
import Derived.Test.YtjnoolfdlgocjaaFnAsk5
import Derived.Test.YtjnoolfdlgocjaaPred
namespace Go.Proofs.Ytjnoolfdlgocjaa
open Go.ChangeShapes Go.WideShapes Go.ChangeAt Go.RowKit
set_option linter.unusedVariables false
set_option linter.unusedSimpArgs false
theorem askG_any (D : Nat → SF) (b off n c : Nat) (hn : n ≤ 12) (hok : ∀ i, i < n → okFn D i) : ∀ i, i < n → AskC D b off n c i := by
  intro i
  induction i using Nat.strongRecOn with
  | ind i ih =>
    intro hi w W a k A m ca V hm h hk hA ho hmc hca hV
    have hall : ∀ j, j < i → rk D j = 1 ∨ 3 ≤ rk D j := fun j hj => (rk_of hok j (by omega)).1
    have ih' : ∀ j, j < i → AskC D b off n c j := fun j hj => ih j hj (by omega)
    by_cases k0 : k < 1
    · exact askOut D b off n c i w W a k A m ca V hi hn (hok i hi) hm h hk k0 hA ho hmc hca hV
    have hk1 : 1 ≤ k ∧ k ≤ 20000 := ⟨by omega, hk.2⟩
    have h5 := (hok i hi).1
    have h5' : (D i).k = 1 ∨ (D i).k = 2 ∨ (D i).k = 3 ∨ (D i).k = 4 ∨ (D i).k = 5 := by omega
    rcases h5' with e | e | e | e | e
    · exact askZero D b off n c i w W a k A m ca V hi hn (hok i hi) e hm h hk1 hA ho hmc hca hV
    · exact askNext D b off n c i w W a k A m ca V hi hn (hok i hi) e hm h hk1 hA ho hmc hca hV
    · exact askPick D b off n c i w W a k A m ca V hi hn (hok i hi) e hm h hk1 hA ho hmc hca hV
    · exact askOf D b off n c i w W a k A m ca V hi hn (hok i hi) ih' hall e hm h hk1 hA ho hmc hca hV
    · exact askAgain D b off n c i w W a k A m ca V hi hn (hok i hi) ih' hall e hm h hk1 hA ho hmc hca hV
/-- a number that may be no argument -/
def outB (x : Int) : Bool := decide (x < 0 ∨ 20 < x)
theorem outB_yes {x : Int} (h : x < 0 ∨ 20 < x) : outB x = true := by simp [outB, h]
theorem outB_no {x : Int} (h : ¬ (x < 0 ∨ 20 < x)) : outB x = false := by simp only [outB, h, decide_false]
set_option maxRecDepth 100000 in
theorem outG_any (x : Int) (W : World) : Calls Try.prog 14 (#[.int .i64 x] ++ #[]) W fun e w' => e = .returned (.bool (outB x)) ∧ W = w' := by
  show Calls Try.prog 14 #[.int .i64 x] W _
  by_cases h0 : x < 0
  · rw [outB_yes (.inl h0)]
    go_enter Try.func14, Try.ntmps14
    go_wp2_with fail
    go_ret
    exact ⟨rfl, rfl⟩
  · by_cases h1 : 20 < x
    · rw [outB_yes (.inr h1)]
      go_enter Try.func14, Try.ntmps14
      go_wp2_with fail
      go_ret
      exact ⟨rfl, rfl⟩
    · rw [outB_no (by omega)]
      go_enter Try.func14, Try.ntmps14
      go_wp2_with fail
      go_ret
      exact ⟨rfl, rfl⟩
/-- what Value returns -/
def VaR (D : Nat → SF) (n bn : Nat) (bf : Nat → Int) (e : Ending) : Prop :=
  ∃ z e1, e = .returned (.tuple #[.int .i64 z, .int .i64 e1]) ∧ (¬ okFs D n → e1 ≠ 0) ∧ (e1 ≠ 0 → z = 0) ∧ (okFs D n → e1 = 0 → (0 ≤ z ∧ z ≤ 1000) ∧ (rk D (n - 1) ≤ 1 → z ≤ mostF bf bn + 1) ∧ (rk D (n - 1) ≤ 4 → z ≤ mostF bf bn + 2))
theorem VaR.bad {D : Nat → SF} {n bn : Nat} {bf : Nat → Int} {e : Ending} (e1 : Int) (h : e = .returned (.tuple #[.int .i64 0, .int .i64 e1])) (h1 : e1 ≠ 0) : VaR D n bn bf e := ⟨0, e1, h, fun _ => h1, fun _ => rfl, fun _ h => absurd h h1⟩
theorem VaR.good {D : Nat → SF} {n bn : Nat} {bf : Nat → Int} {e : Ending} (z k k' : Int) (h : e = .returned (.tuple #[.int .i64 z, .int .i64 0])) (ok : okFs D n) (hz : 0 ≤ z) (h1 : AskP D (n - 1) bn bf z k k') : VaR D n bn bf e :=
  ⟨z, 0, h, fun h => absurd ok h, fun h => absurd rfl h, fun _ _ => ⟨⟨hz, h1.1.2⟩, by have := mostF_ge bf bn; have := h1.2.2.2 _ this.1 this.2; exact ⟨this.1, this.2.2⟩⟩⟩
set_option maxRecDepth 100000 in
set_option maxHeartbeats 4000000 in
theorem valueG_any (D : Nat → SF) (A : Option Addr) (n c : Nat) (B : Option Addr) (bn bc : Nat) (bf : Nat → Int) (W : World) (hn : n ≤ maxLen) (hr : Rd W A (n * 6) (fcF D)) (hg : ∀ i, (D i).good W) (hb : Rd W B bn (fun q => .int .i64 (bf q))) (hbc : bn ≤ bc) (hbm : bc ≤ maxLen) :
    Calls Try.prog 8 #[.slice A n c, .slice B bn bc] W fun e w' => VaR D n bn bf e ∧ Below W.heap.size W w' := by
  have HR := Lib.hid hr
  have HG := Lib.hid hg
  have HB := Lib.hid hb
  have HN := Lib.hid hn
  unfold maxLen at hbm hn
  clear hr hg hb
  go_enter Try.func8, Try.ntmps8
  go_wp2_with fail
  refine (fcheckG_any D A n c W HN.out HR.out HG.out).mono ?_
  rintro e w2 ⟨⟨z, rfl, hz⟩, hb2⟩
  have HZ := Lib.hid hz
  have HB2 := Lib.hid hb2
  clear hz hb2
  by_cases z0 : z = 0
  case neg =>
    have zb : (z != 0) = true := by simp [z0]
    have HZ0 := Lib.hid z0
    clear z0
    go_wp2_with fail
    go_ret2
    exact ⟨VaR.bad z rfl HZ0.out, HB2.out⟩
  subst z0
  have hok := HZ.out.1 rfl
  have HOK := Lib.hid hok
  obtain ⟨N, hN⟩ : ∃ N, n = N + 1 := ⟨n - 1, by have := hok.1; omega⟩
  obtain ⟨b, off, rfl, hlb, _⟩ := HR.out.at_ (show 0 < n * 6 by omega)
  have HR2 := Lib.hid (HR.out.below HB2.out)
  obtain ⟨_, c1, _⟩ := fc_at HR2.out (show N < n by omega)
  obtain ⟨la, hla⟩ : ∃ z, z = (D N).a := ⟨_, rfl⟩
  rw [← hla] at c1
  have hla4 : 0 ≤ la ∧ la ≤ 4 := by rw [hla]; exact (hok.2.2 N (by omega)).2.1
  have wl : IntKind.i64.wrap ((n : Int) - 1) = ((N : Nat) : Int) := by rw [show (n : Int) - 1 = ((N : Nat) : Int) by omega]; exact IntWalk.i64_in _ (by have := hok.2.1; omega)
  have hNI : (N : Int) < (n : Int) := by omega
  have hn12 : n ≤ 12 := hok.2.1
  have lb2 : b < w2.heap.size := Nat.lt_of_lt_of_le hlb HB2.out.size
  have HLA := Lib.hid hla
  have HNN := Lib.hid hN
  clear hok hla hN HZ
  by_cases hba : (bn : Int) = la
  case neg =>
    have zb : ((bn : Int) != la) = true := by simp [hba]
    go_wp2_with fail
    go_ret2
    exact ⟨VaR.bad 3 rfl (by decide), HB2.out⟩
  have zb : ((bn : Int) != la) = false := by simp [hba]
  go_wp2_with fail
  refine (containsP_any 14 #[] B bn bc bf (fun i => outB (bf i)) w2 (HB.out.below HB2.out) (by unfold maxLen; omega) (fun _ _ => rfl) (fun i hi => outG_any _ _)).mono ?_
  rintro e w3 ⟨rfl, rfl⟩
  by_cases ho : anyB (fun i => outB (bf i)) bn = true
  · rw [ho]
    go_wp2_with fail
    go_ret2
    exact ⟨VaR.bad 4 rfl (by decide), HB2.out⟩
  have ho' : anyB (fun i => outB (bf i)) bn = false := by simpa using ho
  have hin : ∀ q, q < bn → 0 ≤ bf q ∧ bf q ≤ 1000 := fun q hq => by
    have h1 : outB (bf q) = false := anyB_false.1 ho' q hq
    unfold outB at h1
    simp at h1
    omega
  rw [ho']
  have HIN := Lib.hid hin
  clear ho ho' hin
  go_wp2_with fail
  obtain ⟨a, ha⟩ : ∃ a, a = w2.heap.size := ⟨_, rfl⟩
  obtain ⟨W3, hW3⟩ : ∃ W3, W3 = w2.alloc (.cells #[.slice (some ⟨b, off, none⟩) n c, .int .i64 20000] 42) := ⟨_, rfl⟩
  have hb3 : Below w2.heap.size w2 W3 := by rw [hW3]; exact (Below.refl _ _).alloc (Nat.le_refl _) _
  have hrow : W3.rowIs a 42 2 (b2f (.slice (some ⟨b, off, none⟩) n c) (.int .i64 20000)) := by
    rw [hW3, ha]
    exact World.rowIs_alloc w2 #[.slice (some ⟨b, off, none⟩) n c, .int .i64 20000] _ _ fun i hi => by
      have : i < 2 := hi
      match i, this with
      | 0, _ => rfl
      | 1, _ => rfl
  have hak : AkG D b off n c w2 W3 a 20000 := ⟨hrow, by omega, hb3, HR2.out, fun i => (HG.out i).below HB2.out⟩
  have HAK := Lib.hid hak
  have HRB := Lib.hid ((HB.out.below HB2.out).below hb3)
  have hoff : Off bn B a := fun h0 g o e => by
    obtain ⟨g', o', e', hl, _⟩ := (HB.out.below HB2.out).at_ h0
    rw [e] at e'
    injection e' with e'
    injection e' with e1 e2
    omega
  have HO := Lib.hid hoff
  rw [← ha, ← hW3]
  clear ha hW3 hb3 hrow hak hoff
  refine (askG_any D b off n c hn12 HOK.out.2.2 N (by omega) w2 W3 a 20000 B bn bc bf (by rw [hba, HLA.out]) HAK.out ⟨by omega, by omega⟩ HRB.out HO.out hbc (by unfold maxLen; omega) HIN.out).mono ?_
  rintro e w4 ⟨x, k4, rfl, hs4, hk4, hp4⟩
  have HS4 := Lib.hid hs4
  have HP4 := Lib.hid hp4
  clear hs4 hk4 hp4
  by_cases hx : x < 0
  · go_wp2_with fail
    go_ret2
    exact ⟨VaR.bad 7 rfl (by decide), HB2.out.trans (HS4.out.bel.mono HB2.out.size)⟩
  · go_wp2_with fail
    go_ret2
    exact ⟨VaR.good x 20000 k4 rfl HOK.out (by omega) (by rw [show n - 1 = N by have := HNN.out; omega]; exact HP4.out), HB2.out.trans (HS4.out.bel.mono HB2.out.size)⟩
end Go.Proofs.Ytjnoolfdlgocjaa
