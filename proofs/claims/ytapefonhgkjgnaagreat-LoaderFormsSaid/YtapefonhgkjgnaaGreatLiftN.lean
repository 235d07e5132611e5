/- A slice that comes in lies in memory, whatever its length. -/
import Derived.Test.YtapefonhgkjgnaaGreatLiftM
namespace Go.Proofs.YtapefonhgkjgnaaGreat
open Go.Joins Go.ChangeShapes Go.WideShapes Go.RowKit Go.Deep

theorem bts_lt {P : Program} {w : World} {r : Reach} {b0 : Nat} {t e : TypeId} {x : Option Addr} {l c : Nat} {p : Addr} (ht : P.underlying t = some (.slice e)) (hx : x = some p) (h : Value.okWide P w r b0 t (.slice x l c)) : p.block < w.heap.size := by
  subst hx
  simp only [Value.okWide, ht, Cell.okWide, Cell.ok] at h
  obtain ⟨_, _, _, _, row, cells, hs, _⟩ := h
  rcases Nat.lt_or_ge p.block w.heap.size with h1 | h1
  · exact h1
  · exfalso
    have : w.heap[p.block]? = none := Array.getElem?_eq_none h1
    simp [World.shape?, this] at hs

end Go.Proofs.YtapefonhgkjgnaaGreat
