/- What the references' Ints computes, reading alone. Conditions: the slices read as functions of the index. -/
import Derived.Test.YtenlnkcmabphfaaInts
namespace Go.Proofs.Ytenlnkcmabphfaa
open Go.ChangeShapes Go.WideShapes Go.ChangeAt Go.RowKit
set_option linter.unusedVariables false
set_option maxRecDepth 100000 in
theorem intsq_any (A B : Option Addr) (n c m d : Nat) (f g : Nat → Int) (w : World) (b : Bool) (hs : sameI n m f g = b) (h : Rd w A n (fun i => .int .i64 (f i))) (h' : Rd w B m (fun i => .int .i64 (g i))) (hn : n ≤ maxLen) (hm : m ≤ maxLen) :
    Calls Try.prog 12 #[.slice A n c, .slice B m d] w fun e w' => e = .returned (.bool b) ∧ ∃ k, w' = w.drewN k := by
  subst hs
  unfold maxLen at hn hm
  by_cases hnm : n = m
  · subst hnm
    go_enter Try.func12, Try.ntmps12
    go_wp2
    go_loopw [5] (fun i wr => ∃ k : Nat, k ≤ n ∧ i = .int .i64 k ∧ (∀ j, j < k → f j = g j) ∧ Hid (∃ q, wr = w.drewN q)) (fun i _ => n - (intOf i).toNat)
    case atStart => exact ⟨0, Nat.zero_le _, rfl, fun j hj => absurd hj (Nat.not_lt_zero _), Lib.hid ⟨0, rfl⟩⟩
    case round =>
      obtain ⟨k, hk, rfl, hall0, hq⟩ := hrel
      have hall := Lib.hid hall0
      clear hall0
      by_cases hlt : k < n
      · obtain ⟨b, off, rfl, hb, hc0⟩ := h.at_ hlt
        obtain ⟨b', off', rfl, hb', hc0'⟩ := h'.at_ hlt
        have hc : wr.cell? ⟨b, off + k, none⟩ = some (.int .i64 (f k)) := by obtain ⟨q, e⟩ := hq.out; rw [e]; exact hc0
        have hc' : wr.cell? ⟨b', off' + k, none⟩ = some (.int .i64 (g k)) := by obtain ⟨q, e⟩ := hq.out; rw [e]; exact hc0'
        have H := Lib.hid h
        have H' := Lib.hid h'
        clear h h' hc0 hc0'
        have more : ∀ nq, Hid (∃ q, wr.drewN nq = w.drewN q) := fun nq => Lib.hid (by obtain ⟨q, e⟩ := hq.out; exact ⟨q + nq, by rw [e, World.drewN_drewN]⟩)
        have MORE := Lib.hid more
        clear more
        by_cases he : f k = g k
        · have hq1 : (f k != g k) = false := by simp [he]
          have hq' : (f k == g k) = true := by simp [he]
          have HE := Lib.hid he
          clear he
          go_wp2
          go_quiet (fail)
          go_wp2
          go_roundw
          case rel => exact ⟨k + 1, by omega, by go_num, fun j hj => by
            by_cases e : j = k
            · subst e; exact HE.out
            · exact hall.out j (by omega), MORE.out nq⟩
          case measure => simp [intOf]; omega
        · have hq1 : (f k != g k) = true := by simp [he]
          have hq' : (f k == g k) = false := by simp [he]
          have HE := Lib.hid he
          clear he
          go_wp2
          go_quiet (fail)
          go_wp2
          go_ret
          exact ⟨ret_bool (by
            cases hs : sameI n n f g
            · rfl
            · exact absurd ((sameI_iff.1 hs).2 k hlt) HE.out), (MORE.out nq).out⟩
      · obtain rfl : k = n := by omega
        go_wp2
        go_ret
        exact ⟨ret_bool (sameI_iff.2 ⟨rfl, hall.out⟩).symm, hq.out⟩
  · have hq : ((n : Int) != m) = true := by simp; omega
    have hs : sameI n m f g = false := by simp [sameI, hnm]
    have HS := Lib.hid hs
    clear hnm hs
    go_enter Try.func12, Try.ntmps12
    go_wp2
    go_ret
    exact ⟨ret_bool HS.out.symm, ⟨0, rfl⟩⟩
end Go.Proofs.Ytenlnkcmabphfaa
