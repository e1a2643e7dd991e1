/- Two runs with the same crossings, pasted: in the words of the walk. No condition. -/
import Derived.Test.YtcbcbanknjhhhaaPasteLaw
import Derived.Test.YtcbcbanknjhhhaaInts
namespace Go.Proofs.Ytcbcbanknjhhhaa
open Go.ChangeShapes Go.WideShapes Go.ChangeAt Go.RowKit
set_option linter.unusedVariables false
/-- the first p of the one, and of the other one those from q on -/
def gcP (p q : Nat) (ga gb : Nat → Int) (i : Nat) : Int := if i < p then ga i else gb (q + (i - p))
theorem gcP_ins {y : Int} {p q ka kb : Nat} {ga gb : Nat → Int} (ha : insB y ka ga = true) (hb : insB y kb gb = true) (hp : p ≤ ka) (hq : q ≤ kb) : insB y (p + (kb - q)) (gcP p q ga gb) = true := by
  rw [insB_iff] at *
  intro i hi
  unfold gcP
  by_cases e : i < p
  · rw [if_pos e]; exact ha i (by omega)
  · rw [if_neg e]; exact hb _ (by omega)
theorem ls_eq {l m : List Int} (h : sameI l.length m.length (fun i => l[i]?.getD 0) (fun i => m[i]?.getD 0) = true) : l = m := by
  obtain ⟨h1, h2⟩ := sameI_iff.1 h
  apply List.ext_getElem h1
  intro i a b
  have := h2 i a
  simp only [List.getElem?_eq_getElem a, List.getElem?_eq_getElem b, Option.getD_some] at this
  exact this
theorem paste_runs {n y p q ka kb da db dc Ma Mb : Nat} {T : Nat → Nat → Int} {ga gb : Nat → Int} (g : Gt n y T) (hy : 0 < y) (ha : insB y ka ga = true) (hb : insB y kb gb = true) (hp0 : 0 < p) (hq0 : 0 < q) (hp : p ≤ ka) (hq : q ≤ kb) (hpM : p < Ma) (hqM : q < Mb)
    (hda : ∀ j, j < da → (itC T j (begin0 ga ka)).s < n) (hdb : ∀ j, j < db → (itC T j (begin0 gb kb)).s < n) (hdc : ∀ j, j < dc → (itC T j (begin0 (gcP p q ga gb) (p + (kb - q)))).s < n)
    (ea : n ≤ (itC T da (begin0 ga ka)).s) (eb : n ≤ (itC T db (begin0 gb kb)).s) (ec : n ≤ (itC T dc (begin0 (gcP p q ga gb) (p + (kb - q)))).s)
    (hhb : (itC T db (begin0 gb kb)).h < q) (hl : crs Ma T (begin0 ga ka) da p = crs Mb T (begin0 gb kb) db q) :
    (itC T dc (begin0 (gcP p q ga gb) (p + (kb - q)))).h = (itC T da (begin0 ga ka)).h ∧ ∀ x, x < (p : Int) → (itC T dc (begin0 (gcP p q ga gb) (p + (kb - q)))).f x = (itC T da (begin0 ga ka)).f x := by
  have gva : Gv n y (begin0 ga ka) := (laid_gc (n := n) (B := ka) (s := 0) (h := 0) (first := 0) ha hy (Nat.zero_le _) (by omega) (by omega) (by omega)).1
  have gvb : Gv n y (begin0 gb kb) := (laid_gc (n := n) (B := kb) (s := 0) (h := 0) (first := 0) hb hy (Nat.zero_le _) (by omega) (by omega) (by omega)).1
  rw [crs_bcs g gva hpM da hda, crs_bcs g gvb hqM db hdb, ← bcs_mv (q : Int) ((p : Int) - q), show (q : Int) + ((p : Int) - q) = p by omega] at hl
  refine paste_end (c := begin0 (gcP p q ga gb) (p + (kb - q))) (d := dc) (p := (p : Int)) (U := fun σ => if σ then mvC ((p : Int) - q) (begin0 gb kb) else begin0 ga ka) (D := fun σ => if σ then db else da) g (fun σ => ?_) (fun σ j hj => ?_) (fun σ => ?_) hl ?_ ⟨fun τ => Nat.zero_le _, fun x => ?_, ?_, rfl, rfl, ?_, rfl⟩ hdc ec
  · cases σ
    · exact gva
    · exact fun x => gvb (x - ((p : Int) - q))
  · cases σ
    · exact hda j hj
    · show (itC T j (mvC ((p : Int) - q) (begin0 gb kb))).s < n
      rw [mvC_it]; exact hdb j hj
  · cases σ
    · exact ea
    · show n ≤ (itC T db (mvC ((p : Int) - q) (begin0 gb kb))).s
      rw [mvC_it]; exact eb
  · show sd p (itC T db (mvC ((p : Int) - q) (begin0 gb kb))).h = false
    rw [mvC_it, sd_false]
    show (itC T db (begin0 gb kb)).h + ((p : Int) - q) < p
    omega
  · show laid (gcP p q ga gb) (p + (kb - q)) 0 x = (if sd p x then mvC ((p : Int) - q) (begin0 gb kb) else begin0 ga ka).f x
    cases e : sd p x
    · have hx := sd_false.1 e
      show laid (gcP p q ga gb) (p + (kb - q)) 0 x = laid ga ka 0 x
      unfold laid
      by_cases h1 : (0 : Int) ≤ x
      · rw [if_pos (by omega), if_pos (by omega)]
        unfold gcP
        rw [if_pos (by omega)]
      · rw [if_neg (by omega), if_neg (by omega)]
    · have hx := sd_true.1 e
      show laid (gcP p q ga gb) (p + (kb - q)) 0 x = laid gb kb 0 (x - ((p : Int) - q))
      unfold laid
      by_cases h1 : x < (p : Int) + (kb - q)
      · rw [if_pos (by omega), if_pos (by omega)]
        unfold gcP
        rw [if_neg (by omega)]
        congr 1
        omega
      · rw [if_neg (by omega), if_neg (by omega)]
  · show sd p 0 = false
    rw [sd_false]; omega
  · show sd p (0 + ((p : Int) - q)) = false
    rw [sd_false]; omega
end Go.Proofs.Ytcbcbanknjhhhaa
