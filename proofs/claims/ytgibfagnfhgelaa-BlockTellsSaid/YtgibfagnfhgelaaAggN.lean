/- Boxes of many cells: made, filled, stored and loaded as a whole, behind a name of their own. -/
import Derived.Test.YtgibfagnfhgelaaArrN
import Derived.OwnWalk
namespace Go.Proofs.Ytgibfagnfhgelaa
open Go.RowKit

section
variable {P : Program} {ops : Array Oper} {rest : List Oper} {o : Oper} {a : Act} {w : World} {Q : Exit → Act → World → Prop}
theorem wpList_boxN (hg : o.guard = none) (t : TypeId) (x : Operand) (ho : o.op = .box t x) {n : Nat} {v : Nat → Value} (hx : a.eval x = aggN n v)
    (h : ∀ W, Blk W w.heap.size 0 n v → Below w.heap.size w W → W.heap.size = w.heap.size + 1 → wpList P ops Q rest (a.put o.dst (.pointer (some ⟨w.heap.size, 0, none⟩))) W) : wpList P ops Q (o :: rest) a w :=
  wpList_plain hg fun K hK => by
    unfold Oper.wp execOp
    simp only [ho, hx, Sem.run_bind, Instr.box, newVar, newRow, run_newObj_alloc, Sem.run_pure, Result.andThen_ok]
    exact hK _ _ (h (w.alloc (.cells (aggN n v).cells t)) (blk_new w n v _ t rfl) ((Below.refl _ w).alloc (Nat.le_refl _) _) (World.size_alloc _ _))
theorem run_allocN {t : TypeId} {n : Nat} {v : Nat → Value} (hz : (P.info? t).map (·.zero) = some (some (aggN n v))) : (Instr.alloc t true (.tuple #[])).run P w = .ok (.pointer (some ⟨w.heap.size, 0, none⟩)) (w.alloc (.cells (aggN n v).cells t)) := by
  cases hq : P.info? t with
  | none => simp [hq] at hz
  | some i =>
    have hs : i.zero = some (aggN n v) := by simp [hq] at hz; exact hz
    simp [Instr.alloc, zeroValue, typeInfo, hq, hs, newVar, newRow, Result.andThen]
theorem wpList_allocN (hg : o.guard = none) (t : TypeId) (ho : o.op = .alloc t) {n : Nat} {v : Nat → Value} (hz : (P.info? t).map (·.zero) = some (some (aggN n v)))
    (h : ∀ W, Blk W w.heap.size 0 n v → Below w.heap.size w W → W.heap.size = w.heap.size + 1 → wpList P ops Q rest (a.put o.dst (.pointer (some ⟨w.heap.size, 0, none⟩))) W) : wpList P ops Q (o :: rest) a w :=
  wpList_plain hg fun K hK => by
    have hr := run_allocN (P := P) (w := w) hz
    unfold Oper.wp
    simp [execOp, ho, hr, Result.andThen]
    exact hK _ _ (h (w.alloc (.cells (aggN n v).cells t)) (blk_new w n v _ t rfl) ((Below.refl _ w).alloc (Nat.le_refl _) _) (World.size_alloc _ _))
theorem wpList_allocTo (d : Tmp) (hd : o.dst = some d) (hg : o.guard = none) (t : TypeId) (ho : o.op = .alloc t) {n : Nat} {v : Nat → Value} (hz : (P.info? t).map (·.zero) = some (some (aggN n v)))
    (h : ∀ W, Blk W w.heap.size 0 n v → Below w.heap.size w W → W.heap.size = w.heap.size + 1 → wpList P ops Q rest (a.put (some d) (.pointer (some ⟨w.heap.size, 0, none⟩))) W) : wpList P ops Q (o :: rest) a w :=
  wpList_allocN hg t ho hz (by rw [hd]; exact h)
theorem wpList_storeB (hg : o.guard = none) (hd : o.dst = none) (t : TypeId) (p x : Operand) (ho : o.op = .store t p x) {b q n : Nat} (hp : a.eval p = .pointer (some ⟨b, q, none⟩)) {v u : Nat → Value} (hx : a.eval x = aggN n v) (h0 : Blk w b q n u)
    (h1 : ∀ j, j < n → (v j).oneCell' = true) (hi : (P.info? t).map (·.size) = some n) (h : ∀ W2, BlkSet b q n v w W2 → wpList P ops Q rest a W2) : wpList P ops Q (o :: rest) a w := by
  obtain ⟨W2, hr, hset⟩ := run_storeN (P := P) h0 h1 hi
  exact wpList_storeN hg hd t p x ho hp (by rw [hx]; exact hr) (h W2 hset)
theorem wpList_loadB (hg : o.guard = none) (t : TypeId) (p : Operand) (ho : o.op = .load t p) {b q n : Nat} (hp : a.eval p = .pointer (some ⟨b, q, none⟩)) {v : Nat → Value} (h0 : Blk w b q n v) {d : TypeDesc} (hu : P.underlying t = some d) (hd : (match d with | .struct _ | .array _ _ => true | _ => false) = true) (hi : (P.info? t).map (·.size) = some n)
    (h : wpList P ops Q rest (a.put o.dst (aggN n v)) w) : wpList P ops Q (o :: rest) a w :=
  wpList_loadN hg t p ho hp (run_loadN h0 hu hd hi) h
end

end Go.Proofs.Ytgibfagnfhgelaa
