/- The two words of one cell more have together twice as many words ahead. No condition. -/
import Derived.Test.YtnagdnbdpknniaaCellMany
import Derived.Test.YtnagdnbdpknniaaApp
namespace Go.Proofs.Ytnagdnbdpknniaa.cellSum
open CellM Go.ChangeShapes Go.WideShapes Go.ChangeAt Go.RowKit
set_option linter.unusedVariables false
theorem EB : Elem Try.prog 22 4 1 1 := Elem.of Try.underlying22 (by kernel_rfl : (Try.prog.info? 4).map (fun i => (i.zero, i.size, i.bytes)) = some (some (.bool false), 1, 1)) rfl (by omega)
def ext (f : Nat → Bool) (n : Nat) (b : Bool) : Nat → Bool := fun i => if i < n then f i else b
theorem ext_cat (f : Nat → Bool) (n : Nat) (b : Bool) (X : Nat → Value) (i : Nat) : cat n (cat 0 X fun i => .bool (f i)) (fun _ => .bool b) i = .bool (ext f n b i) := by
  unfold cat ext
  by_cases h : i < n
  · rw [if_pos h, if_pos h, if_neg (by omega)]; rfl
  · rw [if_neg h, if_neg h]
theorem walk (w : World) (r : Int) (A : Option Addr) (n c : Nat) (f : Nat → Bool) (wr : (Lit.int .i64 r).wf = true) (h : Rd w A n (fun i => .bool (f i))) (hl : n ≤ c) (hm : c ≤ maxLen) (z : c * 1 ≤ 140737488351232) :
    Calls Try.prog 4 #[.int .i64 r, .slice A n c] w fun e w' => e = .returned (.bool true) ∧ Below w.heap.size w w' := by
  have hnm : n + 1 ≤ 140737488351233 := by omega
  clear z hm hl wr
  have H := Lib.hid h
  clear h
  go_enter Try.func4, Try.ntmps4
  go_wp2_with fail
  refine (many_any r A n c f w H.out (by unfold maxLen; omega)).mono ?_; rintro e w1 ⟨rfl, hb1⟩
  have hs1 := hb1.size
  go_wp2_with (first
    | (at_builtin; refine wpList_app _ rfl (.tmp 19) (.tmp 20) 22 rfl EB rfl (Own.empty w1 w.heap.size 4 1 (fun _ => .bool false) hs1) rfl (l := n) (by omega) ((H.out.below hb1).alloc _) (fun _ _ => rfl) (by unfold maxLen; omega) (by omega) (by simp; omega) n n (by omega) (by omega) ?_; intro A1 c1 w2 hown1 hg1 hat1 hbl1)
    | (at_builtin; refine wpList_app _ rfl (.tmp 21) (.tmp 22) 22 rfl EB rfl (hown1.alloc _) rfl (l := 1) (by omega) (Rd.one _ _ _) (fun _ _ => rfl) (by unfold maxLen; omega) (by omega) (by simp; have := hbl1.size; simp at this; omega) (n + 1) (n + 1) rfl rfl ?_; intro A2 c2 w3 hown2 hg2 hat2 hbl2))
  have b2 : Below w.heap.size w w2 := hb1.trans ((((Below.refl _ _).alloc hs1 _)).trans hbl1)
  have b3 : Below w.heap.size w w3 := b2.trans (((Below.refl _ _).alloc b2.size _).trans hbl2)
  refine (many_any r A2 (n + 1) c2 (ext f n false) w3 (hown2.rd.congr fun i _ => ext_cat f n false _ i) (by unfold maxLen; omega)).mono ?_; rintro e w4 ⟨rfl, hb4⟩
  have b4 : Below w.heap.size w w4 := b3.trans (hb4.mono b3.size)
  have hs4 := b4.size
  clear hown1 hg1 hat1 hbl1 hown2 hg2 hat2 hbl2 b2 b3 hb4
  go_wp2_with (first
    | (at_builtin; refine wpList_app _ rfl (.tmp 29) (.tmp 30) 22 rfl EB rfl (Own.empty w4 w.heap.size 4 1 (fun _ => .bool false) hs4) rfl (l := n) (by omega) ((H.out.below b4).alloc _) (fun _ _ => rfl) (by unfold maxLen; omega) (by omega) (by simp; omega) n n (by omega) (by omega) ?_; intro A5 c5 w5 hown1 hg1 hat1 hbl1)
    | (at_builtin; refine wpList_app _ rfl (.tmp 31) (.tmp 32) 22 rfl EB rfl (hown1.alloc _) rfl (l := 1) (by omega) (Rd.one _ _ _) (fun _ _ => rfl) (by unfold maxLen; omega) (by omega) (by simp; have := hbl1.size; simp at this; omega) (n + 1) (n + 1) rfl rfl ?_; intro A6 c6 w6 hown2 hg2 hat2 hbl2))
  have b5 : Below w.heap.size w w5 := b4.trans ((((Below.refl _ _).alloc hs4 _)).trans hbl1)
  have b6 : Below w.heap.size w w6 := b5.trans (((Below.refl _ _).alloc b5.size _).trans hbl2)
  refine (many_any r A6 (n + 1) c6 (ext f n true) w6 (hown2.rd.congr fun i _ => ext_cat f n true _ i) (by unfold maxLen; omega)).mono ?_; rintro e w7 ⟨rfl, hb7⟩
  have b7 : Below w.heap.size w w7 := b6.trans (hb7.mono b6.size)
  clear hown1 hg1 hat1 hbl1 hown2 hg2 hat2 hbl2 b5 b6 hb7 b4 hs4 hb1 hs1
  by_cases hr : 0 ≤ r ∧ r ≤ 255
  · have hi := inB_yes hr.1 hr.2
    by_cases hn : n < 12
    · have e0 : mE r n = 0 := by unfold mE; rw [if_pos hr, if_pos (by omega)]
      have e1 : mE r (n + 1) = 0 := by unfold mE; rw [if_pos hr, if_pos (by omega)]
      have v0 : mV r f n = many r f n := by unfold mV; rw [if_pos ⟨hr, by omega⟩]
      have v1 : mV r (ext f n false) (n + 1) = many r (ext f n false) (n + 1) := by unfold mV; rw [if_pos ⟨hr, by omega⟩]
      have v2 : mV r (ext f n true) (n + 1) = many r (ext f n true) (n + 1) := by unfold mV; rw [if_pos ⟨hr, by omega⟩]
      have d0 := many_bd r f (n := n) (by omega)
      have d1 := many_bd r (ext f n false) (n := n + 1) (by omega)
      have d2 := many_bd r (ext f n true) (n := n + 1) (by omega)
      have hq : (many r (ext f n false) (n + 1) + many r (ext f n true) (n + 1) == 2 * many r f n) = true := by
        rw [beq_iff_eq]
        exact many_sum r f _ _ n (fun i hi => by simp [ext, hi]) (fun i hi => by simp [ext, hi]) (by simp [ext]) (by simp [ext])
      have h12 : ((n : Int) == 12) = false := by rw [beq_eq_false_iff_ne]; omega
      clear hr
      go_wp2_with (go_at_call 8; refine (within_any _ _ _ _).mono ?_; rintro e w' ⟨rfl, rfl⟩)
      go_ret
      exact ⟨rfl, b7⟩
    · by_cases hn2 : n = 12
      · subst hn2
        have e0 : mE r 12 = 0 := by unfold mE; rw [if_pos hr, if_pos (by omega)]
        have e1 : mE r (12 + 1) = 1 := by unfold mE; rw [if_pos hr, if_neg (by omega)]
        clear hr hn
        go_wp2_with (go_at_call 8; refine (within_any _ _ _ _).mono ?_; rintro e w' ⟨rfl, rfl⟩)
        go_ret
        exact ⟨rfl, b7⟩
      · have hn3 : 12 < n := by omega
        have e0 : mE r n = 1 := by unfold mE; rw [if_pos hr, if_neg (by omega)]
        clear hr hn hn2
        go_wp2_with (go_at_call 8; refine (within_any _ _ _ _).mono ?_; rintro e w' ⟨rfl, rfl⟩)
        go_ret
        exact ⟨rfl, b7⟩
  · have hi := inB_no hr
    have e0 : mE r n = 4 := by unfold mE; rw [if_neg hr]
    clear hr
    go_wp2_with (go_at_call 8; refine (within_any _ _ _ _).mono ?_; rintro e w' ⟨rfl, rfl⟩)
    go_ret
    exact ⟨rfl, b7⟩
end Go.Proofs.Ytnagdnbdpknniaa.cellSum
