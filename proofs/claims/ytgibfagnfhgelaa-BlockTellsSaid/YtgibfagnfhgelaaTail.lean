/- A region whose order is open, that ends in one store (or a few operations in one forced order) behind reads: what is known of the world at its head goes on under one name. Proved over any program. -/
import Derived.StillTailTactics
import Derived.Deep.Quiet
import Derived.Below
namespace Go.Proofs.Ytgibfagnfhgelaa
open Go.RowKit

theorem wp_tail {P : Program} {id : Nat} {Q : Exit → Act → World → Prop} {a : Act} {w : World} {l : List Oper} (n : Nat) (F : World → Prop) (hm : P.follows .mixedOrders = true) (hB : Region.lexTailB .any l.toArray n = true) (hF : F w.drew)
    (h : ∀ W, F W → wpStill P l.toArray W (fun a' => wpList P l.toArray Q (l.drop n) a' W) (l.take n) a) : (Code.region id l.toArray true).wp P Q a w := wp_region_still_tail n hm hB (h _ hF)

end Go.Proofs.Ytgibfagnfhgelaa
