/- pairs.Ways: all ways, by sets of columns. Condition: the rows read as told. -/
import Derived.Test.YtenlnkcmabphfaaPairsFns
import Derived.Test.YtenlnkcmabphfaaOnes64
import Derived.Test.YtenlnkcmabphfaaRyser
import Derived.IntWalk
namespace Go.Proofs.Ytenlnkcmabphfaa
open Go.ChangeShapes Go.WideShapes Go.ChangeAt Go.RowKit
set_option linter.unusedVariables false
set_option linter.unusedSimpArgs false
def mtW (R : Nat → SI) (i j : Nat) : Int := (R i).f j
def InW (M : Nat → Nat → Int) (n : Nat) : Prop := ∀ i, i < n → ∀ j, j < n → -20 ≤ M i j ∧ M i j ≤ 20
theorem rs_bd {M : Nat → Nat → Int} {n s i : Nat} (h : InW M n) (hi : i < n) : ∀ {k : Nat}, k ≤ n → -(20 * (k : Int)) ≤ rsP M s i k ∧ rsP M s i k ≤ 20 * (k : Int)
  | 0, _ => by simp [rsP, sumI]
  | k + 1, hk => by
    have a := rs_bd h hi (s := s) (k := k) (by omega)
    have b := h i hi k (by omega)
    show _ ≤ rsP M s i k + (if btP s k = true then M i k else 0) ∧ rsP M s i k + (if btP s k = true then M i k else 0) ≤ _
    split <;> omega
theorem prod_bd {f : Nat → Int} {b : Int} (h1 : 1 ≤ b) : ∀ {k : Nat}, (∀ i, i < k → -b ≤ f i ∧ f i ≤ b) → -(b ^ k) ≤ prodI f k ∧ prodI f k ≤ b ^ k
  | 0, _ => by simp [prodI]
  | k + 1, h => by
    have a := prod_bd h1 (f := f) (k := k) fun i hi => h i (by omega)
    rw [Int.pow_succ]
    exact mul_bd a (h k (by omega))
theorem pow120 : ∀ k : Nat, k ≤ 6 → (120 : Int) ^ k ≤ 2985984000000 := by decide +kernel
theorem prodW_bd {M : Nat → Nat → Int} {n s k : Nat} (h : InW M n) (hn : n ≤ 6) (hk : k ≤ n) : -2985984000000 ≤ prodI (fun i => rsP M s i n) k ∧ prodI (fun i => rsP M s i n) k ≤ 2985984000000 := by
  have a := prod_bd (b := 120) (by decide) (f := fun i => rsP M s i n) (k := k) fun i hi => by
    have := rs_bd h (s := s) (i := i) (by omega) (Nat.le_refl n)
    omega
  have b := pow120 k (by omega)
  omega
theorem wy_bd {M : Nat → Nat → Int} {n s : Nat} (h : InW M n) (hn : n ≤ 6) : -2985984000000 ≤ wyP M n s ∧ wyP M n s ≤ 2985984000000 := by
  have a := prodW_bd (s := s) h hn (Nat.le_refl n)
  unfold wyP
  split <;> omega
theorem wys_bd {M : Nat → Nat → Int} {n k : Nat} (h : InW M n) (hn : n ≤ 6) (hk : k ≤ 64) : -(64 * 2985984000000) ≤ sumI (wyP M n) k ∧ sumI (wyP M n) k ≤ 64 * 2985984000000 := by
  have a := sumI_bd (f := wyP M n) (b := 2985984000000) (n := k) fun i _ => wy_bd h hn
  omega
theorem bit_W : ∀ s : Nat, s < 64 → ∀ j : Nat, j < 6 → bits .and .i64 ((s : Int) / 2 ^ j) 1 = if btP s j = true then 1 else 0 := by decide +kernel
set_option maxRecDepth 100000 in
set_option maxHeartbeats 4000000 in
theorem ways_any (A : Option Addr) (n c : Nat) (R : Nat → SI) (w : World) (h : GrP w A n R) (hn : n ≤ maxLen) :
    Calls Try.prog 13 #[.slice A n c] w fun e w' => e = .returned (.tuple #[.int .i64 (if pwE n R = 0 then dt 1 n (mtW R) else 0), .int .i64 (pwE n R)]) ∧ Below w.heap.size w w' := by
  have H := Lib.hid h
  have HN := Lib.hid hn
  obtain ⟨x, hx⟩ : ∃ x, x = pwE n R := ⟨_, rfl⟩
  have HX := Lib.hid hx
  rw [← hx]
  have hnx := hn
  unfold maxLen at hnx
  clear h hn
  by_cases hx0 : x = 0
  · obtain ⟨hn6, hlen, hval⟩ := pwE_zero (by rw [← hx]; exact hx0)
    have HLEN := Lib.hid hlen
    have hM : InW (mtW R) n := fun i hi j hj => hval i hi j hj
    have HM := Lib.hid hM
    obtain ⟨n1, n6⟩ := hn6
    have HRY := Lib.hid (ryser (mtW R) n6)
    clear hlen hval hM hx
    subst hx0
    obtain ⟨rB, rO, rfl, hAlt, _⟩ := H.out.1.at_ (show 0 < n by omega)
    go_enter Try.func13, Try.ntmps13
    go_wp2_with fail
    refine (wrongP_any _ n c R w H.out HN.out).mono ?_
    rintro e w1 ⟨rfl, hb1⟩
    rw [← HX.out]
    have HB1 := Lib.hid hb1
    have HG1 := Lib.hid (H.out.below hb1)
    clear hb1
    have hN64 := (full_bt n n6).2.2.1
    have hN1 := (full_bt n n6).2.2.2
    have hpm : wrap64 (2 ^ n) = ((2 ^ n : Nat) : Int) := by rw [IntWalk.wrap64_in _ (by rw [show (2 : Int) ^ n = ((2 ^ n : Nat) : Int) from (Int.natCast_pow 2 n).symm]; omega)]; exact (Int.natCast_pow 2 n).symm
    obtain ⟨N, hN⟩ : ∃ N, N = 2 ^ n := ⟨_, rfl⟩
    rw [← hN] at hpm hN64 hN1 HRY
    have HPM := Lib.hid hpm
    have HNN := Lib.hid hN
    clear hpm hN
    go_wp2_with fail
    rw [HPM.out]
    go_loop [6, 23] (fun s6 s23 => ∃ (s : Nat) (o : Int), s ≤ N ∧ s6 = .int .i64 o ∧ s23 = .int .i64 (s : Nat) ∧ Hid (o = sumI (wyP (mtW R) n) s)) (fun _ s23 => N - (intOf s23).toNat)
    case atStart => exact ⟨0, 0, Nat.zero_le _, rfl, rfl, Lib.hid rfl⟩
    case round =>
      obtain ⟨s, o, hsN, rfl, rfl, HO⟩ := hrel
      by_cases hs : s < N
      · have ho : -(64 * 2985984000000) ≤ o ∧ o ≤ 64 * 2985984000000 := by rw [HO.out]; exact wys_bd HM.out n6 (by omega)
        go_wp2_with fail
        go_loop [8, 28] (fun s8 s28 => ∃ (i : Nat) (p : Int), i ≤ n ∧ s8 = .int .i64 p ∧ s28 = .int .i64 (i : Nat) ∧ Hid (p = prodI (fun i => rsP (mtW R) s i n) i)) (fun _ s28 => n - (intOf s28).toNat)
        case atStart => exact ⟨0, 1, Nat.zero_le _, rfl, rfl, Lib.hid rfl⟩
        case round =>
          obtain ⟨i, p, hi, rfl, rfl, HP⟩ := hrel
          by_cases hin : i < n
          · have hAc : w1.cell? ⟨rB, rO + i, none⟩ = some (R i).val := by
              obtain ⟨b', o', e, _, hc⟩ := HG1.out.1.at_ hin
              cases e; exact hc
            have HLR := HLEN.out i hin
            have hg := HG1.out.2 i hin
            have hsr := fun k hk => rs_bd HM.out (s := s) (i := i) hin (k := k) hk
            have hrs : ∀ k, rsP (mtW R) s i (k + 1) = rsP (mtW R) s i k + if btP s k = true then (R i).f k else 0 := fun k => rfl
            have hval := HM.out i hin
            have hv : ∀ k, mtW R i k = (R i).f k := fun k => rfl
            have hPn : prodI (fun i => rsP (mtW R) s i n) (i + 1) = p * rsP (mtW R) s i n := by rw [HP.out]; rfl
            have hPb := prodW_bd (s := s) HM.out n6 (show i + 1 ≤ n by omega)
            obtain ⟨f, hf⟩ : ∃ f, f = rsP (mtW R) s i := ⟨_, rfl⟩
            obtain ⟨P, hP⟩ : ∃ P, P = prodI (fun i => rsP (mtW R) s i n) (i + 1) := ⟨_, rfl⟩
            obtain ⟨v, hvv⟩ : ∃ v, v = mtW R i := ⟨_, rfl⟩
            rw [← hvv] at hval hv
            rw [← hP] at hPb hPn
            rw [← hf] at hPn hsr
            have hf0 : f 0 = 0 := by rw [hf]; rfl
            have hfs : ∀ k, f (k + 1) = f k + if btP s k = true then v k else 0 := fun k => by rw [hv, hf]; exact hrs k
            obtain ⟨y, hy⟩ : ∃ y, y = R i := ⟨_, rfl⟩
            rw [← hy] at hg hAc HLR hv
            have hcl : ∀ j, j < n → ∃ b o, y.A = some ⟨b, o, none⟩ ∧ b < w1.heap.size ∧ w1.cell? ⟨b, o + j, none⟩ = some (.int .i64 (v j)) := fun j hj => by
              obtain ⟨b, o, e, hl, hc⟩ := hg.1.at_ (show j < y.n by rw [HLR]; exact hj)
              exact ⟨b, o, e, hl, by rw [hc, hv]⟩
            obtain ⟨yA, yn, yc, yf⟩ := y
            obtain rfl : yn = n := HLR
            have hAc' : w1.cell? ⟨rB, rO + i, none⟩ = some (.slice yA yn yc) := hAc
            have HPP := Lib.hid hP
            have HPN := Lib.hid hPn
            have HFS := Lib.hid hfs
            have HSR := Lib.hid hsr
            have HVAL := Lib.hid hval
            have HCL := Lib.hid hcl
            have HF0 := Lib.hid hf0
            clear hP hPn hfs hsr hval hcl hf hvv hv hy hg hrs hAc hf0
            go_wp2_with fail
            go_loop [11, 34] (fun s11 s34 => ∃ (j : Nat) (u : Int), j ≤ yn ∧ s11 = .int .i64 u ∧ s34 = .int .i64 (j : Nat) ∧ Hid (u = f j)) (fun _ s34 => yn - (intOf s34).toNat)
            case atStart => exact ⟨0, 0, Nat.zero_le _, rfl, rfl, Lib.hid HF0.out.symm⟩
            case round =>
              obtain ⟨j, u, hj, rfl, rfl, HU⟩ := hrel
              by_cases hjn : j < yn
              · obtain ⟨b2, o2, hA2, hb2, hcj⟩ := HCL.out j hjn
                obtain rfl : yA = some ⟨b2, o2, none⟩ := hA2
                have hu : -120 ≤ u ∧ u ≤ 120 := by rw [HU.out]; have := HSR.out j hj; omega
                have hvj := HVAL.out j hjn
                have hbt := bit_W s (by omega) j (by omega)
                have hfj := HFS.out j
                rw [← HU.out] at hfj
                obtain ⟨vj, hvj'⟩ : ∃ x, x = v j := ⟨_, rfl⟩
                rw [← hvj'] at hcj hvj hfj
                clear hvj'
                cases hbj : btP s j with
                | true =>
                  rw [hbj, if_pos rfl] at hbt hfj
                  have HFJ := Lib.hid hfj
                  clear hfj hbj
                  go_wp2_with fail
                  go_round
                  case rel => exact ⟨j + 1, u + vj, by omega, by go_num, by go_num, Lib.hid HFJ.out.symm⟩
                  case measure => simp [intOf]; omega
                | false =>
                  rw [hbj, if_neg (by decide)] at hbt hfj
                  have HFJ := Lib.hid hfj
                  clear hfj hbj
                  go_wp2_with fail
                  go_round
                  case rel => exact ⟨j + 1, u, by omega, by go_num, by go_num, Lib.hid (by rw [HFJ.out]; omega)⟩
                  case measure => simp [intOf]; omega
              · obtain rfl : j = yn := by omega
                have hw : IntKind.i64.wrap (p * u) = P := by rw [HPN.out, HU.out]; exact IntWalk.i64_in _ (by rw [← HPN.out]; omega)
                go_wp2_with fail
                go_round
                case rel => exact ⟨i + 1, P, by omega, by go_num, by go_num, HPP⟩
                case measure => simp [intOf]; omega
          · obtain rfl : i = n := by omega
            have hpb : -2985984000000 ≤ p ∧ p ≤ 2985984000000 := by rw [HP.out]; exact prodW_bd HM.out n6 (Nat.le_refl _)
            have wu : IntKind.u64.wrap (s : Int) = (s : Int) := IntWalk.u64_in _ (by omega)
            go_wp2_with fail
            refine (onesP_any s (by omega) w1).mono ?_
            rintro e w3 ⟨rfl, rfl⟩
            obtain ⟨hcn, _⟩ := bt_some i n6 s (by rw [← HNN.out]; exact hs)
            obtain ⟨r0, hr0⟩ : ∃ r0, r0 = i - cnP s := ⟨_, rfl⟩
            have wsub : IntKind.i64.wrap ((i : Int) - (cnP s : Nat)) = (r0 : Int) := by rw [show (i : Int) - (cnP s : Nat) = (r0 : Int) by omega]; exact IntWalk.i64_in _ (by omega)
            have hwy : wyP (mtW R) i s = if r0 % 2 = 1 then -p else p := by rw [hr0, HP.out]; rfl
            have hsn : sumI (wyP (mtW R) i) (s + 1) = o + wyP (mtW R) i s := by rw [HO.out]; rfl
            rw [hwy] at hsn
            have HSN := Lib.hid hsn
            clear hwy hsn hr0
            by_cases hr : r0 % 2 = 1
            · have hrm : (r0 : Int) % 2 = 1 := by omega
              have HS2 : Hid (sumI (wyP (mtW R) i) (s + 1) = o + -p) := Lib.hid (by rw [HSN.out, if_pos hr])
              go_wp2_with fail
              go_round
              case rel => exact ⟨s + 1, o + -p, by omega, by go_num, by go_num, Lib.hid HS2.out.symm⟩
              case measure => simp [intOf]; omega
            · have hrm : (r0 : Int) % 2 = 0 := by omega
              have HS2 : Hid (sumI (wyP (mtW R) i) (s + 1) = o + p) := Lib.hid (by rw [HSN.out, if_neg hr])
              go_wp2_with fail
              go_round
              case rel => exact ⟨s + 1, o + p, by omega, by go_num, by go_num, Lib.hid HS2.out.symm⟩
              case measure => simp [intOf]; omega
      · obtain rfl : s = N := by omega
        have HE : Hid (o = dt 1 n (mtW R)) := Lib.hid (by rw [HO.out]; exact HRY.out)
        go_wp2_with fail
        go_ret2
        exact ⟨by rw [HE.out]; rfl, HB1.out⟩
  · go_enter Try.func13, Try.ntmps13
    go_wp2_with fail
    refine (wrongP_any A n c R w H.out HN.out).mono ?_
    rintro e w1 ⟨rfl, hb1⟩
    have HB1 := Lib.hid hb1
    rw [← HX.out]
    have HE : Hid ((if x = 0 then dt 1 n (mtW R) else 0) = 0) := Lib.hid (if_neg hx0)
    clear hb1 hx
    go_wp2_with fail
    go_ret2
    exact ⟨rfl, HB1.out⟩
end Go.Proofs.Ytenlnkcmabphfaa
