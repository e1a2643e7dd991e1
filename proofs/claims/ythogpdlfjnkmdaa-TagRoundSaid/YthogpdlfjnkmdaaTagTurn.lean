/- What tag.turn computes. Conditions: as each theorem states. -/
import Derived.Test.YthogpdlfjnkmdaaConcat
namespace Go.Proofs.Ythogpdlfjnkmdaa
open Go.ChangeShapes Go.WideShapes Go.ChangeAt Go.RowKit
set_option linter.unusedVariables false
/-- a list as cells -/
def lsV (l : List Int) (i : Nat) : Value := .int .i64 (l[i]?.getD 0)
/-- a row as a list -/
def SI.list (s : SI) : List Int := (List.range s.n).map s.f
theorem SI.list_len (s : SI) : s.list.length = s.n := by unfold SI.list; simp
theorem SI.list_at (s : SI) {i : Nat} (h : i < s.n) : s.list[i]?.getD 0 = s.f i := by unfold SI.list; simp [h]
/-- one turn -/
def turnL (d : Nat) (R : Nat → SI) (l : List Int) : List Int := l.drop d ++ (R (l.headD 0).toNat).list
theorem turnL_at {d : Nat} {R : Nat → SI} {l : List Int} (hd : d ≤ l.length) (i : Nat) (hi : i < (turnL d R l).length) :
    lsV (turnL d R l) i = if i < l.length - d then .int .i64 (l[d + i]?.getD 0) else .int .i64 ((R (l.headD 0).toNat).f (i - (l.length - d))) := by
  unfold turnL lsV at *
  rw [List.length_append, List.length_drop, SI.list_len] at hi
  by_cases e : i < l.length - d
  · rw [if_pos e, List.getElem?_append_left (by rw [List.length_drop]; exact e), List.getElem?_drop]
  · rw [if_neg e, List.getElem?_append_right (by rw [List.length_drop]; omega), List.length_drop, SI.list_at _ (by omega)]
def TurnRet (l : List Int) (w : World) (e : Ending) (w' : World) : Prop := (∃ A c, e = .returned (.slice A l.length c) ∧ Own w' w.heap.size 3 1 A l.length c l.length (lsV l)) ∧ Below w.heap.size w w'
def two (X Y : SI) (i : Nat) : SI := if i = 0 then X else Y
theorem rd_two (W : World) (v0 v1 : Value) (e : TypeId) {K : Nat} (hK : W.heap.size = K) : Rd (W.alloc (.cells #[v0, v1] e)) (some ⟨K, 0, none⟩) 2 (fun i => if i = 0 then v0 else v1) := by
  subst hK
  exact fun _ => ⟨W.heap.size, 0, rfl, by simp, fun i hi => by
    have : i = 0 ∨ i = 1 := by omega
    rcases this with rfl | rfl
    · rw [cell_of_row _ W.heap.size (0 + 0) #[v0, v1] e (0, 0) (heap_alloc_new W _)]; rfl
    · rw [cell_of_row _ W.heap.size (0 + 1) #[v0, v1] e (0, 0) (heap_alloc_new W _)]; rfl⟩
set_option maxRecDepth 100000 in
set_option maxHeartbeats 1000000 in
theorem turn_any (d : Nat) (B A : Option Addr) (nb cb c : Nat) (R : Nat → SI) (l : List Int) (w : World) (hB : Rd w B nb (fun i => (R i).val)) (hR : ∀ i, i < nb → Rd w (R i).A (R i).n (fun j => .int .i64 ((R i).f j))) (hA : Rd w A l.length (lsV l)) (hc : l.length ≤ c)
    (hd0 : 1 ≤ d) (hd : d ≤ l.length) (hl : l.length ≤ 1000) (hcm : c ≤ maxLen) (h0 : 0 ≤ l.headD 0) (h1 : l.headD 0 < nb) (hRn : ∀ i, i < nb → (R i).n ≤ 1000) :
    Calls Try.prog 11 #[.agg #[.int .i64 d, .slice B nb cb], .slice A l.length c] w (TurnRet (turnL d R l) w) := by
  obtain ⟨s, hs⟩ : ∃ s : Nat, l.headD 0 = (s : Int) := ⟨(l.headD 0).toNat, by omega⟩
  have hsn : s < nb := by omega
  have hst : (l.headD 0).toNat = s := by rw [hs]; omega
  obtain ⟨n, hn⟩ : ∃ n, n = l.length := ⟨_, rfl⟩
  have hl0 : lsV l 0 = .int .i64 (s : Int) := by
    unfold lsV
    rw [← hs]
    cases l with
    | nil => simp at hd; omega
    | cons x r => rfl
  obtain ⟨ab, ao, rfl, hab, hac⟩ := hA.at_ (k := 0) (by omega)
  rw [hl0, Nat.add_zero] at hac
  obtain ⟨bb, bo, rfl, hbb, hbc⟩ := hB.at_ hsn
  have hrs := hR s hsn
  obtain ⟨rn, hrn⟩ : ∃ x, x = (R s).n := ⟨_, rfl⟩
  obtain ⟨rc, hrc⟩ : ∃ x, x = (R s).c := ⟨_, rfl⟩
  obtain ⟨rA, hrA⟩ : ∃ x, x = (R s).A := ⟨_, rfl⟩
  have hbc2 : w.cell? ⟨bb, bo + s, none⟩ = some (.slice rA rn rc) := by rw [hbc, hrn, hrc, hrA]; rfl
  have hrnb : rn ≤ 1000 := by rw [hrn]; exact hRn s hsn
  have HA := Lib.hid hA
  have HRS := Lib.hid hrs
  have HTA : Hid (∀ i, i < (turnL d R l).length → lsV (turnL d R l) i = if i < l.length - d then .int .i64 (l[d + i]?.getD 0) else .int .i64 ((R s).f (i - (l.length - d)))) := Lib.hid fun i hi => by rw [turnL_at hd i hi, hst]
  have HTL : Hid ((turnL d R l).length = n - d + rn) := Lib.hid (by unfold turnL; rw [List.length_append, List.length_drop, SI.list_len, hst, hn, hrn])
  rw [← hn] at hc hd hl
  have HN := Lib.hid hn
  have HRN := Lib.hid hrn
  have HRC := Lib.hid hrc
  have HRA := Lib.hid hrA
  rw [← hn]
  unfold maxLen at hcm
  have hi0 : (0 : Int) ≤ (s : Int) := by omega
  have hi1 : (s : Int) < (nb : Int) := by omega
  have hd1 : (d : Int) ≤ (n : Int) := by omega
  have hd2 : (d : Int) ≤ (c : Int) := by omega
  have hd3 : (0 : Int) ≤ (d : Int) := by omega
  have hn1 : (0 : Int) < (n : Int) := by omega
  have hn2 : 0 < n := by omega
  clear hA hB hR hrs hbc hrn hrc hrA hRn hn hl0 hs hst h0 h1
  by_cases hcd : c = d
  · have hnd : n = c := by omega
    subst hnd
    subst hcd
    go_enter Try.func11, Try.ntmps11
    go_wp2_with fail
    obtain ⟨X, hX⟩ : ∃ X : SI, X = ⟨some ⟨ab, ao, none⟩, 0, 0, fun j => l[n + j]?.getD 0⟩ := ⟨_, rfl⟩
    obtain ⟨Z, hZ⟩ : ∃ X : SI, X = ⟨rA, rn, rc, (R s).f⟩ := ⟨_, rfl⟩
    have hRX : Rd w X.A X.n (fun j => .int .i64 (X.f j)) := by rw [hX]; exact Rd.zero _ _ _
    have hRZ : Rd w Z.A Z.n (fun j => .int .i64 (Z.f j)) := by rw [hZ]; show Rd w rA rn _; rw [HRA.out, HRN.out]; exact HRS.out
    have hsz : szR (two X Z) 2 = 0 + rn := by rw [hX, hZ]; show 0 + _ + _ = _; rw [Nat.zero_add]; rfl
    have hbx := (Below.refl w.heap.size w).alloc (Nat.le_refl _) (.cells #[.int .i64 n, .slice (some ⟨bb, bo, none⟩) nb cb] 24)
    have hby := hbx.alloc (by simp) (.cells #[.slice (some ⟨ab, ao, none⟩) (0) (0), .slice rA rn rc] 25)
    have harr : ∀ i, i < 2 → (if i = 0 then (Value.slice (some ⟨ab, ao, none⟩) (0) (0)) else .slice rA rn rc) = (two X Z i).val := fun i hi => by
      have : i = 0 ∨ i = 1 := by omega
      rcases this with rfl | rfl
      · show _ = X.val; rw [hX]; rfl
      · show _ = Z.val; rw [hZ]; rfl
    have hrows : ∀ W, Below w.heap.size w W → ∀ i, i < 2 → Rd W (two X Z i).A (two X Z i).n (fun j => .int .i64 ((two X Z i).f j)) := fun W hW i hi => by
      have : i = 0 ∨ i = 1 := by omega
      rcases this with rfl | rfl
      · exact hRX.below hW
      · exact hRZ.below hW
    have hcc : ∀ i, i < n - n + rn → ccR (two X Z) 2 i = lsV (turnL n R l) i := fun i hi => by
      rw [HTA.out i (by rw [HTL.out]; exact hi), ← HN.out]
      show cat (szR (two X Z) 1) (cat 0 (fun _ => .int .i64 0) (fun j => .int .i64 (X.f j))) (fun j => .int .i64 (Z.f j)) i = _
      have e1 : szR (two X Z) 1 = n - n := by show 0 + X.n = _; rw [hX]; show 0 + (0) = _; omega
      rw [e1]
      by_cases e : i < n - n
      · rw [cat_lt e, cat_ge (Nat.zero_le _), if_pos e, Nat.sub_zero, hX]
      · rw [cat_ge (by omega), if_neg e, hZ]
    have HBX := Lib.hid hbx
    have HBY := Lib.hid hby
    have HARR := Lib.hid harr
    have HROWS := Lib.hid hrows
    have HCC := Lib.hid hcc
    have HSZ := Lib.hid hsz
    clear hX hZ hRX hRZ hsz hbx hby harr hrows hcc
    go_region_law (first
      | (go_simp; go_at_call 19; refine (concat_any _ 2 2 (two X Z) _ (((rd_two (w.alloc (.cells #[.int .i64 n, .slice (some ⟨bb, bo, none⟩) nb cb] 24)) _ _ 25 (K := w.heap.size + 1) (by simp)).congr HARR.out).drew) (HROWS.out _ HBY.out.drew) (by omega) (by rw [HSZ.out]; omega)).mono ?_; rintro e w3 ⟨⟨A3, c3, rfl, hown3⟩, hb3⟩))
    all_goals
      go_wp2_with fail
      go_ret
      have hl2 : szR (two X Z) 2 = (turnL n R l).length := by rw [HSZ.out, HTL.out]; omega
      have ho : Own w3 w.heap.size 3 1 A3 (szR (two X Z) 2) c3 (szR (two X Z) 2) (lsV (turnL n R l)) := (hown3.base_le (by simp <;> omega)).congr fun i hi => HCC.out i (by rw [HSZ.out] at hi; omega)
      rw [hl2] at ho
      exact ⟨⟨A3, c3, by rw [← hl2]; rfl, ho⟩, HBY.out.drew.trans (hb3.mono (by simp <;> omega))⟩
  · go_enter Try.func11, Try.ntmps11
    go_wp2_with fail
    obtain ⟨X, hX⟩ : ∃ X : SI, X = ⟨some ⟨ab, ao + d, none⟩, n - d, c - d, fun j => l[d + j]?.getD 0⟩ := ⟨_, rfl⟩
    obtain ⟨Z, hZ⟩ : ∃ X : SI, X = ⟨rA, rn, rc, (R s).f⟩ := ⟨_, rfl⟩
    have hRX : Rd w X.A X.n (fun j => .int .i64 (X.f j)) := by rw [hX]; show Rd w (some ⟨ab, ao + d, none⟩) (n - d) _; rw [HN.out]; exact HA.out.cut
    have hRZ : Rd w Z.A Z.n (fun j => .int .i64 (Z.f j)) := by rw [hZ]; show Rd w rA rn _; rw [HRA.out, HRN.out]; exact HRS.out
    have hsz : szR (two X Z) 2 = n - d + rn := by rw [hX, hZ]; show 0 + _ + _ = _; rw [Nat.zero_add]; rfl
    have hbx := (Below.refl w.heap.size w).alloc (Nat.le_refl _) (.cells #[.int .i64 d, .slice (some ⟨bb, bo, none⟩) nb cb] 24)
    have hby := hbx.alloc (by simp) (.cells #[.slice (some ⟨ab, ao + d, none⟩) (n - d) (c - d), .slice rA rn rc] 25)
    have harr : ∀ i, i < 2 → (if i = 0 then (Value.slice (some ⟨ab, ao + d, none⟩) (n - d) (c - d)) else .slice rA rn rc) = (two X Z i).val := fun i hi => by
      have : i = 0 ∨ i = 1 := by omega
      rcases this with rfl | rfl
      · show _ = X.val; rw [hX]; rfl
      · show _ = Z.val; rw [hZ]; rfl
    have hrows : ∀ W, Below w.heap.size w W → ∀ i, i < 2 → Rd W (two X Z i).A (two X Z i).n (fun j => .int .i64 ((two X Z i).f j)) := fun W hW i hi => by
      have : i = 0 ∨ i = 1 := by omega
      rcases this with rfl | rfl
      · exact hRX.below hW
      · exact hRZ.below hW
    have hcc : ∀ i, i < n - d + rn → ccR (two X Z) 2 i = lsV (turnL d R l) i := fun i hi => by
      rw [HTA.out i (by rw [HTL.out]; exact hi), ← HN.out]
      show cat (szR (two X Z) 1) (cat 0 (fun _ => .int .i64 0) (fun j => .int .i64 (X.f j))) (fun j => .int .i64 (Z.f j)) i = _
      have e1 : szR (two X Z) 1 = n - d := by show 0 + X.n = _; rw [hX]; show 0 + (n - d) = _; omega
      rw [e1]
      by_cases e : i < n - d
      · rw [cat_lt e, cat_ge (Nat.zero_le _), if_pos e, Nat.sub_zero, hX]
      · rw [cat_ge (by omega), if_neg e, hZ]
    have HBX := Lib.hid hbx
    have HBY := Lib.hid hby
    have HARR := Lib.hid harr
    have HROWS := Lib.hid hrows
    have HCC := Lib.hid hcc
    have HSZ := Lib.hid hsz
    clear hX hZ hRX hRZ hsz hbx hby harr hrows hcc
    go_region_law (first
      | (go_simp; go_at_call 19; refine (concat_any _ 2 2 (two X Z) _ (((rd_two (w.alloc (.cells #[.int .i64 d, .slice (some ⟨bb, bo, none⟩) nb cb] 24)) _ _ 25 (K := w.heap.size + 1) (by simp)).congr HARR.out).drew) (HROWS.out _ HBY.out.drew) (by omega) (by rw [HSZ.out]; omega)).mono ?_; rintro e w3 ⟨⟨A3, c3, rfl, hown3⟩, hb3⟩))
    all_goals
      go_wp2_with fail
      go_ret
      have hl2 : szR (two X Z) 2 = (turnL d R l).length := by rw [HSZ.out, HTL.out]
      have ho : Own w3 w.heap.size 3 1 A3 (szR (two X Z) 2) c3 (szR (two X Z) 2) (lsV (turnL d R l)) := (hown3.base_le (by simp <;> omega)).congr fun i hi => HCC.out i (by rw [HSZ.out] at hi; omega)
      rw [hl2] at ho
      exact ⟨⟨A3, c3, by rw [← hl2]; rfl, ho⟩, HBY.out.drew.trans (hb3.mono (by simp <;> omega))⟩
end Go.Proofs.Ythogpdlfjnkmdaa
