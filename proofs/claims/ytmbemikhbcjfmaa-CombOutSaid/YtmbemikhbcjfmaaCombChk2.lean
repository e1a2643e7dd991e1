/- comb's Check. Condition: the list reads as told. -/
import Derived.Test.YtmbemikhbcjfmaaCombChk
namespace Go.Proofs.Ytmbemikhbcjfmaa
open Go.ChangeShapes Go.WideShapes Go.ChangeAt Go.RowKit
set_option linter.unusedVariables false
set_option linter.unusedSimpArgs false
def ckE (L : Nat → Cb) (n : Nat) : Int := if n < 1 ∨ 40 < n then 1 else if fstE (cC L) n ≠ 0 then fstE (cC L) n else if 300 < (dec L (n - 1)).sz then 1 else 0
theorem ckE_zero {L : Nat → Cb} {n : Nat} (h : ckE L n = 0) : (1 ≤ n ∧ n ≤ 40) ∧ OkC L n ∧ (dec L (n - 1)).sz ≤ 300 := by
  unfold ckE at h
  split at h
  · omega
  · rename_i h1
    split at h
    · rename_i h2; exact absurd h h2
    · rename_i h2
      split at h
      · omega
      · exact ⟨by omega, fstE_zero.1 (Classical.not_not.1 h2), by omega⟩
theorem ckE_fst {L : Nat → Cb} {n i : Nat} {x : Int} (h1 : 1 ≤ n ∧ n ≤ 40) (hall : fstE (cC L) i = 0) (hi : i < n) (hx : cC L i = x) (h0 : x ≠ 0) : ckE L n = x := by
  have := fstE_stop hall hx h0 n hi
  unfold ckE
  rw [if_neg (by omega), if_pos (by rw [this]; exact h0), this]
set_option maxRecDepth 100000 in
set_option maxHeartbeats 4000000 in
theorem check_any (A : Option Addr) (n c : Nat) (L : Nat → Cb) (w : World) (h : Rd w A (n * 4) (lcC L)) (hn : n ≤ maxLen) :
    Calls Try.prog 18 #[.slice A n c] w fun e w' => e = .returned (.int .i64 (ckE L n)) ∧ Below w.heap.size w w' := by
  have hn63 : (n : Int) ≤ 9223372036854775807 := by unfold maxLen at hn; omega
  by_cases hb1 : n < 1 ∨ 40 < n
  · have he : ckE L n = 1 := by unfold ckE; rw [if_pos hb1]
    have HE := Lib.hid he
    rw [he]
    clear h he
    rcases hb1 with h1 | h1
    · obtain rfl : n = 0 := by omega
      go_enter Try.func18, Try.ntmps18
      go_wp2_with fail
      go_ret
      exact ⟨rfl, Below.refl _ _⟩
    · go_enter Try.func18, Try.ntmps18
      go_wp2_with fail
      go_ret
      exact ⟨rfl, Below.refl _ _⟩
  · have h1 : 1 ≤ n ∧ n ≤ 40 := by omega
    obtain ⟨b, o, rfl, hb, _⟩ := h.at_ (show 0 < n * 4 by omega)
    have H := Lib.hid h
    clear h hb1
    go_enter Try.func18, Try.ntmps18
    go_wp2_with fail
    go_loopw [15] (fun s15 wr => ∃ i : Nat, i ≤ n ∧ s15 = .int .i64 (i : Nat) ∧ Hid (fstE (cC L) i = 0) ∧ Hid (Below w.heap.size w wr)) (fun s15 _ => n - (intOf s15).toNat)
    case atStart => exact ⟨0, Nat.zero_le _, rfl, Lib.hid rfl, Lib.hid (Below.refl _ _)⟩
    case round =>
      obtain ⟨wo, rfl⟩ : ∃ wo : World, wo = wr := ⟨_, rfl⟩
      obtain ⟨i, hi, rfl, HF, HB⟩ := hrel
      by_cases hin : i < n
      · obtain ⟨k0, k1, k2, k3⟩ := lc_at (H.out.below HB.out) hin
        have hbo : b < wo.heap.size := by have := HB.out.size; omega
        have hcE : cC L i = if ¬ (1 ≤ (L i).1 ∧ (L i).1 ≤ 4) then 6 else if (L i).1 = 3 ∧ ¬ (0 ≤ (L i).2.2.2 ∧ (L i).2.2.2 ≤ 1000) then 4 else if (L i).1 = 4 ∧ ¬ ((0 ≤ (L i).2.1 ∧ (L i).2.1 < (i : Int)) ∧ 0 ≤ (L i).2.2.1 ∧ (L i).2.2.1 < (i : Int)) then 2 else 0 := rfl
        obtain ⟨K, hK⟩ : ∃ K, K = (L i).1 := ⟨_, rfl⟩
        obtain ⟨xa, hxa⟩ : ∃ K, K = (L i).2.1 := ⟨_, rfl⟩
        obtain ⟨xb, hxb⟩ : ∃ K, K = (L i).2.2.1 := ⟨_, rfl⟩
        obtain ⟨xv, hxv⟩ : ∃ K, K = (L i).2.2.2 := ⟨_, rfl⟩
        rw [← hK] at k0 hcE
        rw [← hxa] at k1 hcE
        rw [← hxb] at k2 hcE
        rw [← hxv] at k3 hcE
        clear hK hxa hxb hxv
        have HBA : Hid (Below w.heap.size w (wo.alloc (.cells #[.int .i64 K, .int .i64 xa, .int .i64 xb, .int .i64 xv] 37))) := Lib.hid (HB.out.alloc HB.out.size _)
        by_cases hk : 1 ≤ K ∧ K ≤ 4
        · rw [if_neg (by omega)] at hcE
          by_cases hk3 : K = 3
          · subst hk3
            by_cases hv : 0 ≤ xv ∧ xv ≤ 1000
            · rw [if_neg (by omega), if_neg (by omega)] at hcE
              have HN := Lib.hid (fstE_next HF.out hcE)
              clear hcE
              go_wp2_with fail
              go_roundw
              case rel => exact ⟨i + 1, by omega, by go_num, HN, HBA⟩
              case measure => simp [intOf]; omega
            · rw [if_pos ⟨rfl, hv⟩] at hcE
              have HE := Lib.hid (ckE_fst h1 HF.out hin hcE (by decide))
              clear hcE
              by_cases hv0 : xv < 0
              · go_wp2_with fail
                go_ret
                exact ⟨ret_int HE.out.symm, HBA.out⟩
              · have hv1 : 1000 < xv := by omega
                go_wp2_with fail
                go_ret
                exact ⟨ret_int HE.out.symm, HBA.out⟩
          · rw [if_neg (by omega)] at hcE
            have q3 : (K == 3) = false := by rw [beq_eq_false_iff_ne]; exact hk3
            by_cases hk4 : K = 4
            · subst hk4
              by_cases hv : (0 ≤ xa ∧ xa < (i : Int)) ∧ 0 ≤ xb ∧ xb < (i : Int)
              · rw [if_neg (by omega)] at hcE
                have HN := Lib.hid (fstE_next HF.out hcE)
                obtain ⟨⟨y1, y2⟩, y3, y4⟩ := hv
                clear hcE
                by_cases hlt : xb < xa
                · go_wp2_with fail
                  go_roundw
                  case rel => exact ⟨i + 1, by omega, by go_num, HN, HBA⟩
                  case measure => simp [intOf]; omega
                · by_cases hlt2 : xa < xb
                  · go_wp2_with fail
                    go_roundw
                    case rel => exact ⟨i + 1, by omega, by go_num, HN, HBA⟩
                    case measure => simp [intOf]; omega
                  · go_wp2_with fail
                    go_roundw
                    case rel => exact ⟨i + 1, by omega, by go_num, HN, HBA⟩
                    case measure => simp [intOf]; omega
              · rw [if_pos ⟨rfl, hv⟩] at hcE
                have HE := Lib.hid (ckE_fst h1 HF.out hin hcE (by decide))
                clear hcE
                by_cases hlt : xb < xa
                · by_cases hm0 : xb < 0
                  · go_wp2_with fail
                    go_ret
                    exact ⟨ret_int HE.out.symm, HBA.out⟩
                  · have hm1 : (i : Int) ≤ xa := by omega
                    go_wp2_with fail
                    go_ret
                    exact ⟨ret_int HE.out.symm, HBA.out⟩
                · by_cases hm0 : xa < 0
                  · by_cases hlt2 : xa < xb
                    · go_wp2_with fail
                      go_ret
                      exact ⟨ret_int HE.out.symm, HBA.out⟩
                    · go_wp2_with fail
                      go_ret
                      exact ⟨ret_int HE.out.symm, HBA.out⟩
                  · have hm1 : (i : Int) ≤ xb := by omega
                    by_cases hlt2 : xa < xb
                    · go_wp2_with fail
                      go_ret
                      exact ⟨ret_int HE.out.symm, HBA.out⟩
                    · have hm2 : (i : Int) ≤ xa := by omega
                      go_wp2_with fail
                      go_ret
                      exact ⟨ret_int HE.out.symm, HBA.out⟩
            · rw [if_neg (by omega)] at hcE
              have q4 : (K == 4) = false := by rw [beq_eq_false_iff_ne]; exact hk4
              have HN := Lib.hid (fstE_next HF.out hcE)
              clear hcE
              go_wp2_with fail
              go_roundw
              case rel => exact ⟨i + 1, by omega, by go_num, HN, HBA⟩
              case measure => simp [intOf]; omega
        · rw [if_pos hk] at hcE
          have HE := Lib.hid (ckE_fst h1 HF.out hin hcE (by decide))
          clear hcE
          by_cases hv0 : K < 1
          · go_wp2_with fail
            go_ret
            exact ⟨ret_int HE.out.symm, HBA.out⟩
          · have hv1 : 4 < K := by omega
            go_wp2_with fail
            go_ret
            exact ⟨ret_int HE.out.symm, HBA.out⟩
      · obtain rfl : i = n := by omega
        clear hn63 hn
        obtain ⟨l, rfl⟩ : ∃ l, i = l + 1 := ⟨i - 1, by omega⟩
        have hck : ckE L (l + 1) = if 300 < (dec L l).sz then 1 else 0 := by
          unfold ckE
          rw [if_neg (by omega), if_neg (by rw [HF.out]; exact fun h => h rfl)]; rfl
        have hsz := sizes_any (some ⟨b, o, none⟩) (l + 1) c L wo (H.out.below HB.out) (fstE_zero.1 HF.out) (by omega)
        have HCK := Lib.hid hck
        have HSZ := Lib.hid hsz
        clear hck hsz
        go_wp2_with fail
        refine HSZ.out.mono ?_
        rintro e w3 ⟨⟨A', c', rfl, hrd⟩, hb3⟩
        obtain ⟨G, o2, rfl, _, hc⟩ := hrd.at_ (show l < l + 1 by omega)
        have HB3 := Lib.hid (HB.out.trans (hb3.mono HB.out.size))
        have hcs : clS (dec L l) = min (dec L l).sz 301 := rfl
        obtain ⟨z, hz⟩ : ∃ z, z = clS (dec L l) := ⟨_, rfl⟩
        have hc' : w3.cell? ⟨G, o2 + l, none⟩ = some (.int .i64 (clS (dec L l) : Nat)) := hc
        rw [← hz] at hc' hcs
        have hz301 : z ≤ 301 := by omega
        clear hrd hb3 hz hc
        by_cases hbig : 300 < (dec L l).sz
        · have hz1 : 300 < z := by omega
          have HE : Hid (ckE L (l + 1) = 1) := Lib.hid (by rw [HCK.out, if_pos hbig])
          clear hcs hbig
          go_wp2_with fail
          go_ret
          exact ⟨by rw [HE.out]; rfl, HB3.out⟩
        · have hz1 : z ≤ 300 := by omega
          have HE : Hid (ckE L (l + 1) = 0) := Lib.hid (by rw [HCK.out, if_neg hbig])
          clear hcs hbig
          go_wp2_with fail
          go_ret
          exact ⟨by rw [HE.out]; rfl, HB3.out⟩
end Go.Proofs.Ytmbemikhbcjfmaa
