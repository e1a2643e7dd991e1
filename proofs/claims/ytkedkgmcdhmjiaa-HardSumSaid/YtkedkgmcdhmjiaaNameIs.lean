/- What name.is and name.Many compute. Conditions: as each theorem states. -/
import Derived.Test.YtkedkgmcdhmjiaaNameFns
import Derived.Test.YtkedkgmcdhmjiaaBits
namespace Go.Proofs.Ytkedkgmcdhmjiaa
open Go.ChangeShapes Go.WideShapes Go.ChangeAt Go.RowKit
set_option linter.unusedVariables false
def yesP (h : Nat → Bool) (f : Nat → Int) (i : Nat) : Bool := h (f i).toNat
def noP (h : Nat → Bool) (f : Nat → Int) (i : Nat) : Bool := !(h (f i).toNat)
/-- clause k is true of h -/
def holdsC (Y N : Nat → SI) (h : Nat → Bool) (k : Nat) : Bool := anyB (yesP h (Y k).f) (Y k).n || anyB (noP h (N k).f) (N k).n
def isC (n : Nat) (Y N : Nat → SI) (h : Nat → Bool) : Bool := decide (∀ k, k < n → holdsC Y N h k = true)
theorem isC_iff {n : Nat} {Y N : Nat → SI} {h : Nat → Bool} : isC n Y N h = true ↔ ∀ k, k < n → holdsC Y N h k = true := by simp [isC]
theorem isC_no {n k : Nat} {Y N : Nat → SI} {h : Nat → Bool} (hk : k < n) (e : holdsC Y N h k = false) : isC n Y N h = false := by
  cases e2 : isC n Y N h
  · rfl
  · rw [isC_iff.1 e2 k hk] at e; cases e
/-- all variables are below m -/
def varsIn (m : Nat) (s : SI) : Prop := ∀ i, i < s.n → 0 ≤ s.f i ∧ s.f i < m
set_option maxRecDepth 100000 in
theorem yes_any (x : Int) (B m c : Nat) (HA : Option Addr) (h : Nat → Bool) (w : World) (hc : w.cell? ⟨B, 0, none⟩ = some (.slice HA m c)) (hr : Rd w HA m (fun i => .bool (h i))) (hx : 0 ≤ x ∧ x < m) :
    Calls Try.prog 39 #[.int .i64 x, .pointer (some ⟨B, 0, none⟩)] w fun e w' => e = .returned (.bool (h x.toNat)) ∧ w = w' := by
  obtain ⟨p, rfl⟩ := Int.eq_ofNat_of_zero_le hx.1
  have hp : p < m := by omega
  rw [Int.toNat_natCast]
  obtain ⟨b, off, rfl, _, hcell⟩ := hr.at_ hp
  clear hr hx
  go_enter Try.func39, Try.ntmps39
  go_wp2_with fail
  go_ret
  exact ⟨rfl, rfl⟩
set_option maxRecDepth 100000 in
theorem no_any (x : Int) (B m c : Nat) (HA : Option Addr) (h : Nat → Bool) (w : World) (hc : w.cell? ⟨B, 0, none⟩ = some (.slice HA m c)) (hr : Rd w HA m (fun i => .bool (h i))) (hx : 0 ≤ x ∧ x < m) :
    Calls Try.prog 40 #[.int .i64 x, .pointer (some ⟨B, 0, none⟩)] w fun e w' => e = .returned (.bool (!(h x.toNat))) ∧ w = w' := by
  obtain ⟨p, rfl⟩ := Int.eq_ofNat_of_zero_le hx.1
  have hp : p < m := by omega
  rw [Int.toNat_natCast]
  obtain ⟨b, off, rfl, _, hcell⟩ := hr.at_ hp
  clear hr hx
  go_enter Try.func40, Try.ntmps40
  go_wp2_with fail
  go_ret
  exact ⟨rfl, rfl⟩
set_option maxRecDepth 100000 in
set_option maxHeartbeats 2000000 in
theorem is_any (A HA : Option Addr) (n c m hc : Nat) (Y N : Nat → SI) (h : Nat → Bool) (w : World) (hC : Cls w A n Y N) (hr : Rd w HA m (fun i => .bool (h i))) (hn : n ≤ 1000000000) (hv : ∀ k, k < n → varsIn m (Y k) ∧ varsIn m (N k)) :
    Calls Try.prog 29 #[.slice A n c, .slice HA m hc] w fun e w' => e = .returned (.bool (isC n Y N h)) ∧ Below w.heap.size w w' := by
  have H := Lib.hid hC
  have G := Lib.hid hr
  have V := Lib.hid hv
  clear hC hr hv
  go_enter Try.func29, Try.ntmps29
  go_wp2_with fail
  go_loopw [11] (fun i wr => ∃ k : Nat, k ≤ n ∧ i = .int .i64 k ∧ (∀ j, j < k → holdsC Y N h j = true) ∧ wr.cell? ⟨w.heap.size, 0, none⟩ = some (.slice HA m hc) ∧ Below w.heap.size w wr ∧ w.heap.size < wr.heap.size) (fun i _ => n - (intOf i).toNat)
  case atStart => exact ⟨0, Nat.zero_le _, rfl, fun j hj => absurd hj (Nat.not_lt_zero _), by simp [go_sem], (Below.refl _ _).alloc (Nat.le_refl _) _, by simp⟩
  case round =>
    obtain ⟨wo, rfl⟩ : ∃ wo : World, wo = wr := ⟨_, rfl⟩
    obtain ⟨k, hk, rfl, hall0, hcl, hbel, hsz⟩ := hrel
    have hall := Lib.hid hall0
    clear hall0
    by_cases hlt : k < n
    · have hcls := H.out.below hbel
      obtain ⟨b, off, rfl, hb, f0, f1⟩ := hcls.at2 hlt
      obtain ⟨gy, gn⟩ := hcls.good k hlt
      obtain ⟨vy, vn⟩ := V.out k hlt
      have hh : holdsC Y N h k = (anyB (yesP h (Y k).f) (Y k).n || anyB (noP h (N k).f) (N k).n) := rfl
      obtain ⟨y, hy⟩ : ∃ y, y = Y k := ⟨_, rfl⟩
      obtain ⟨z, hz⟩ : ∃ z, z = N k := ⟨_, rfl⟩
      rw [← hy, ← hz] at hh
      rw [← hy] at f0 gy vy
      rw [← hz] at f1 gn vn
      obtain ⟨ry, _, ly, cy⟩ := gy
      obtain ⟨rz, _, lz, cz⟩ := gn
      have hb2 := hbel.alloc hbel.size (.cells #[.slice y.A y.n y.c, .slice z.A z.n z.c] 50)
      have hcl2 : (wo.alloc (.cells #[.slice y.A y.n y.c, .slice z.A z.n z.c] 50)).cell? ⟨w.heap.size, 0, none⟩ = some (.slice HA m hc) := by rw [World.cell?_alloc_lt _ _ _ hsz]; exact hcl
      have hg2 := G.out.below hb2
      have HCL := Lib.hid hcl2
      have HG := Lib.hid hg2
      have RY := Lib.hid (ry.alloc (.cells #[.slice y.A y.n y.c, .slice z.A z.n z.c] 50))
      have RZ := Lib.hid (rz.alloc (.cells #[.slice y.A y.n y.c, .slice z.A z.n z.c] 50))
      have CY := Lib.hid (show y.n ≤ maxLen by omega)
      have CZ := Lib.hid (show z.n ≤ maxLen by omega)
      have VY := Lib.hid vy
      have VN := Lib.hid vn
      have HH := Lib.hid hh
      clear hh hy hz hcl2 ry rz cy cz hcls hg2 vy vn
      have py : ∀ i, i < y.n → Calls Try.prog 39 (#[.int .i64 (y.f i)] ++ #[.pointer (some ⟨w.heap.size, 0, none⟩)]) (wo.alloc (.cells #[.slice y.A y.n y.c, .slice z.A z.n z.c] 50)) fun e w' => e = .returned (.bool (yesP h y.f i)) ∧ (wo.alloc (.cells #[.slice y.A y.n y.c, .slice z.A z.n z.c] 50)) = w' := fun i hi => yes_any (y.f i) w.heap.size m hc HA h _ HCL.out HG.out (VY.out i hi)
      have pn : ∀ i, i < z.n → Calls Try.prog 40 (#[.int .i64 (z.f i)] ++ #[.pointer (some ⟨w.heap.size, 0, none⟩)]) (wo.alloc (.cells #[.slice y.A y.n y.c, .slice z.A z.n z.c] 50)) fun e w' => e = .returned (.bool (noP h z.f i)) ∧ (wo.alloc (.cells #[.slice y.A y.n y.c, .slice z.A z.n z.c] 50)) = w' := fun i hi => no_any (z.f i) w.heap.size m hc HA h _ HCL.out HG.out (VN.out i hi)
      have PY := Lib.hid py
      have PN := Lib.hid pn
      clear py pn
      obtain ⟨p, hp⟩ : ∃ p, p = anyB (yesP h y.f) y.n := ⟨_, rfl⟩
      obtain ⟨q, hq⟩ : ∃ q, q = anyB (noP h z.f) z.n := ⟨_, rfl⟩
      have HP := Lib.hid hp
      have HQ := Lib.hid hq
      clear hp hq
      go_wp2_with fail
      refine (containsP_any 39 #[.pointer (some ⟨w.heap.size, 0, none⟩)] y.A y.n y.c y.f (yesP h y.f) _ RY.out CY.out (fun _ _ => rfl) PY.out).mono ?_
      rintro e w' ⟨rfl, rfl⟩
      rw [← HP.out]
      go_wp2_with fail
      refine (containsP_any 40 #[.pointer (some ⟨w.heap.size, 0, none⟩)] z.A z.n z.c z.f (noP h z.f) _ RZ.out CZ.out (fun _ _ => rfl) PN.out).mono ?_
      rintro e w' ⟨rfl, rfl⟩
      rw [← HQ.out]
      cases p with
      | true =>
        go_wp2_with fail
        go_roundw
        case rel => exact ⟨k + 1, by omega, by go_num, fun j hj => by
          by_cases e : j = k
          · subst e; rw [HH.out, ← HP.out]; rfl
          · exact hall.out j (by omega), HCL.out, hb2, by simp; omega⟩
        case measure => simp [intOf]; omega
      | false =>
        cases q with
        | true =>
          go_wp2_with fail
          go_roundw
          case rel => exact ⟨k + 1, by omega, by go_num, fun j hj => by
            by_cases e : j = k
            · subst e; rw [HH.out, ← HP.out, ← HQ.out]; rfl
            · exact hall.out j (by omega), HCL.out, hb2, by simp; omega⟩
          case measure => simp [intOf]; omega
        | false =>
          go_wp2_with fail
          go_ret
          exact ⟨ret_bool (isC_no hlt (by rw [HH.out, ← HP.out, ← HQ.out]; rfl)).symm, hb2⟩
    · obtain rfl : k = n := by omega
      go_wp2_with fail
      go_ret
      exact ⟨ret_bool (isC_iff.2 hall.out).symm, hbel⟩
def bitN (s v : Nat) : Bool := decide (s / 2 ^ v % 2 = 1)
def cntB (p : Nat → Bool) : Nat → Nat
  | 0 => 0
  | k + 1 => cntB p k + (p k).toNat
theorem cntB_le (p : Nat → Bool) (k : Nat) : cntB p k ≤ k := by
  induction k with
  | zero => exact Nat.le_refl _
  | succ k ih => simp only [cntB]; have := Bool.toNat_le (p k); omega
/-- of how many values the clauses are true -/
def manyC (n : Nat) (Y N : Nat → SI) (V : Nat) : Nat := cntB (fun s => isC n Y N (bitN s)) (2 ^ V)
theorem wrC_zero {vars most : Int} {n : Nat} {Y N : Nat → SI} (h : wrC vars most n Y N = 0) : (0 ≤ vars ∧ vars ≤ most ∧ n ≤ 200) ∧ ∀ k, k < n → ((Y k).n ≤ 8 ∧ (N k).n ≤ 8) ∧ varsIn vars.toNat (Y k) ∧ varsIn vars.toNat (N k) := by
  unfold wrC at h
  by_cases e : vars < 0 ∨ most < vars ∨ 200 < n
  · rw [if_pos e] at h; omega
  · rw [if_neg e] at h
    refine ⟨by omega, fun k hk => ?_⟩
    have hk0 := fstE_zero.1 h k hk
    unfold clE at hk0
    by_cases e1 : 8 < (Y k).n ∨ 8 < (N k).n
    · rw [if_pos e1] at hk0; omega
    · rw [if_neg e1] at hk0
      by_cases e2 : anyB (badV vars (Y k).f) (Y k).n = true ∨ anyB (badV vars (N k).f) (N k).n = true
      · rw [if_pos e2] at hk0; omega
      · have a1 : anyB (badV vars (Y k).f) (Y k).n = false := by
          cases e3 : anyB (badV vars (Y k).f) (Y k).n
          · rfl
          · exact absurd (.inl e3) e2
        have a2 : anyB (badV vars (N k).f) (N k).n = false := by
          cases e3 : anyB (badV vars (N k).f) (N k).n
          · rfl
          · exact absurd (.inr e3) e2
        refine ⟨by omega, fun i hi => ?_, fun i hi => ?_⟩
        · have := of_decide_eq_false (anyB_false.1 a1 i hi); omega
        · have := of_decide_eq_false (anyB_false.1 a2 i hi); omega
theorem pow8 {V : Nat} (h : V ≤ 8) : (1 : Int) ≤ 2 ^ V ∧ (2 : Int) ^ V ≤ 256 ∧ 1 ≤ 2 ^ V ∧ 2 ^ V ≤ 256 := by
  have : V = 0 ∨ V = 1 ∨ V = 2 ∨ V = 3 ∨ V = 4 ∨ V = 5 ∨ V = 6 ∨ V = 7 ∨ V = 8 := by omega
  rcases this with rfl | rfl | rfl | rfl | rfl | rfl | rfl | rfl | rfl <;> decide
theorem info_bool : (Try.prog.info? 4).map (fun i => (i.zero, i.size, i.bytes)) = some (some (.bool false), 1, 1) := by kernel_rfl
/-- what name.Many tells -/
def mnC (vars : Int) (n : Nat) (Y N : Nat → SI) : Int := if wrC vars 8 n Y N = 0 then (manyC n Y N vars.toNat : Int) else 0
set_option maxRecDepth 100000 in
set_option maxHeartbeats 2000000 in
theorem many_any (vars : Int) (A : Option Addr) (n c : Nat) (Y N : Nat → SI) (w : World) (h : Cls w A n Y N) (hn : n ≤ maxLen) :
    Calls Try.prog 10 #[.int .i64 vars, .slice A n c] w fun e w' => e = .returned (.tuple #[.int .i64 (mnC vars n Y N), .int .i64 (wrC vars 8 n Y N)]) ∧ Below w.heap.size w w' := by
  have H := Lib.hid h
  clear h
  unfold mnC
  by_cases he : wrC vars 8 n Y N = 0
  · rw [if_pos he]
    obtain ⟨⟨v0, v8, n2⟩, hV⟩ := wrC_zero he
    have HEZ := Lib.hid he
    obtain ⟨V, rfl⟩ := Int.eq_ofNat_of_zero_le v0
    rw [Int.toNat_natCast] at hV ⊢
    have HV := Lib.hid hV
    have hmk := fun W => run_make_row' (P := Try.prog) 52 4 (.bool false) 1 Try.underlying52 info_bool rfl .i64 .i64 V (by omega) (by omega) W
    obtain ⟨p0, p1, p2, p3⟩ := pow8 (V := V) (by omega)
    obtain ⟨P, hP⟩ : ∃ P, P = 2 ^ V := ⟨_, rfl⟩
    have hPI : (2 : Int) ^ V = (P : Int) := by rw [hP]; simp
    rw [hPI] at p0 p1
    rw [← hP] at p2 p3
    have HP := Lib.hid hP
    clear hV hP
    go_enter Try.func10, Try.ntmps10
    go_wp2_with fail
    refine (wrong_any V 8 A n c Y N w H.out hn).mono ?_
    rintro e w1 ⟨rfl, hb1⟩
    rw [he]
    clear he
    go_wp2_with fail
    obtain ⟨g, hg⟩ : ∃ g, g = w1.heap.size := ⟨_, rfl⟩
    have hrow0 := World.rowIs_made w1 (.bool false) V 4
    have hB1 := hb1.alloc hb1.size (.cells (madeCells #[.bool false] V) 4)
    have hgw : w.heap.size ≤ g := by have := hb1.size; omega
    rw [← hg] at hrow0
    go_loopw [7, 21] (fun s7 s21 wr => ∃ s : Nat, s ≤ P ∧ s21 = .int .i64 s ∧ s7 = .int .i64 (cntB (fun s => isC n Y N (bitN s)) s) ∧ (∃ R, wr.rowIs g 4 V R) ∧ Below w.heap.size w wr) (fun _ s21 _ => P - (intOf s21).toNat)
    case atStart => exact ⟨0, Nat.zero_le _, rfl, rfl, ⟨_, hrow0⟩, hB1⟩
    case round =>
      clear hrow0 hB1
      rw [← hg]
      have HGE := Lib.hid hg
      clear hg
      obtain ⟨wo, rfl⟩ : ∃ wo : World, wo = wr := ⟨_, rfl⟩
      obtain ⟨s, hs, rfl, rfl, ⟨R, hrow⟩, hbel⟩ := hrel
      by_cases hlt : s < P
      · have hcs := cntB_le (fun s => isC n Y N (bitN s)) s
        have hcn : cntB (fun s => isC n Y N (bitN s)) (s + 1) = cntB (fun s => isC n Y N (bitN s)) s + (isC n Y N (bitN s)).toNat := rfl
        obtain ⟨C, hC⟩ : ∃ C, C = cntB (fun s => isC n Y N (bitN s)) s := ⟨_, rfl⟩
        rw [← hC] at hcs hcn ⊢
        have HCN := Lib.hid hcn
        clear hC hcn
        go_wp2_with fail
        go_loopw [26] (fun s26 wr => ∃ k : Nat, k ≤ V ∧ s26 = .int .i64 k ∧ (∃ R, wr.rowIs g 4 V R ∧ ∀ i, i < k → R i = .bool (bitN s i)) ∧ Below w.heap.size w wr) (fun s26 _ => V - (intOf s26).toNat)
        case atStart => exact ⟨0, Nat.zero_le _, rfl, ⟨R, hrow, fun i hi => absurd hi (Nat.not_lt_zero _)⟩, hbel⟩
        case round =>
          clear hrow hbel
          obtain ⟨wq, rfl⟩ : ∃ wq : World, wq = wr := ⟨_, rfl⟩
          obtain ⟨k, hk, rfl, ⟨R2, hrow, hR2⟩, hbel⟩ := hrel
          by_cases hkV : k < V
          · have hcell := hrow.cell hkV
            have hfz := hrow.frozen k
            have sg := hrow.lt
            have hb := div_pow_bd (x := (s : Int)) (by omega) k
            have hand := and_one (x := (s : Int) / 2 ^ k) hb.1 (by omega)
            have hbit : (((s : Int) / 2 ^ k % 2) == 1) = bitN s k := by
              unfold bitN
              have e : ((s : Int) / 2 ^ k % 2) = ((s / 2 ^ k % 2 : Nat) : Int) := by simp
              rw [e, Bool.eq_iff_iff, beq_iff_eq, decide_eq_true_eq]
              omega
            have HR2 := Lib.hid hR2
            clear hb hR2
            go_wp2_with fail
            go_roundw
            case rel => exact ⟨k + 1, by omega, by go_num, ⟨_, hrow.set k _, fun i hi => by
              by_cases e : i = k
              · subst e; rw [if_pos rfl]
              · rw [if_neg e]; exact HR2.out i (by omega)⟩, hbel.setCell (by simpa using hgw) _⟩
            case measure => simp [intOf]; omega
          · obtain rfl : k = V := by omega
            have hrd : Rd wq (some ⟨g, 0, none⟩) k (fun i => .bool (bitN s i)) := (Rd.of_row hrow (Nat.le_refl _)).congr hR2
            have HRD := Lib.hid hrd
            have HR2 := Lib.hid hR2
            clear hrd hR2
            obtain ⟨q, hq⟩ : ∃ q, q = isC n Y N (bitN s) := ⟨_, rfl⟩
            have HQ := Lib.hid hq
            clear hq
            go_wp2_with fail
            refine (is_any A (some ⟨g, 0, none⟩) n c k k Y N (bitN s) _ (H.out.below hbel) HRD.out (by omega) (fun j hj => (HV.out j hj).2)).mono ?_
            rintro e w3 ⟨rfl, hb3⟩
            rw [← HQ.out]
            have hrow3 := row_below hrow hb3 hrow.lt
            have hB3 := hbel.trans (hb3.mono hbel.size)
            clear hrow hbel hb3
            cases q with
            | true =>
              go_wp2_with fail
              go_roundw
              case rel => exact ⟨s + 1, by omega, by go_num, by rw [HCN.out, ← HQ.out]; go_num, ⟨_, hrow3⟩, hB3⟩
              case measure => simp [intOf]; omega
            | false =>
              go_wp2_with fail
              go_roundw
              case rel => exact ⟨s + 1, by omega, by go_num, by rw [HCN.out, ← HQ.out]; rfl, ⟨_, hrow3⟩, hB3⟩
              case measure => simp [intOf]; omega
      · obtain rfl : s = P := by omega
        go_wp2_with fail
        go_ret2
        exact ⟨by rw [HP.out, HEZ.out]; rfl, hbel⟩
  · rw [if_neg he]
    have hq : (wrC vars 8 n Y N != 0) = true := by rw [bne_iff_ne]; exact he
    clear he
    go_enter Try.func10, Try.ntmps10
    go_wp2_with fail
    refine (wrong_any vars 8 A n c Y N w H.out hn).mono ?_
    rintro e w1 ⟨rfl, hb1⟩
    go_wp2_with fail
    go_ret2
    exact ⟨rfl, hb1⟩
end Go.Proofs.Ytkedkgmcdhmjiaa
