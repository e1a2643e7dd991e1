/- A region that draws its order: reads first, then a tail in one order; the world spelled as drawn once. No condition. -/
import Derived.StillTailTactics
namespace Go.Proofs.Ytoodmoliglhpiaa
open Go
theorem wp_still_tailD {P : Program} {id : Nat} {Q : Exit → Act → World → Prop} {a : Act} {w : World} {l : List Oper} (n : Nat) (hm : P.follows .mixedOrders = true) (hB : Region.lexTailB .any l.toArray n = true)
    (h : wpStill P l.toArray w.drew (fun a' => wpList P l.toArray Q (l.drop n) a' w.drew) (l.take n) a) : (Code.region id l.toArray true).wp P Q a w := wp_region_still_tail n hm hB h
end Go.Proofs.Ytoodmoliglhpiaa
