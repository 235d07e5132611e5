/- Light operations of a drawn region whose run is known in every world of the class. Proved over any program. -/
import Derived.Test.YtgibfagnfhgelaaRegion
import Derived.BigQuiet
namespace Go.Proofs.Ytgibfagnfhgelaa
open Go.RowKit

section
variable {P : Program} {ops : Array Oper} {rest : List Oper} {o : Oper} {a : Act} {C : World → Prop} {Q : Act → Prop}
theorem wpQuiet_run (hw : Region.wanted o (yielded ops a.tmps) = true) {v : Value} (hrun : ∀ w', C w' → (execOp a.eval o).run P w' = .ok (.value v) w') (h : wpQuiet P ops C Q rest (a.put o.dst v)) : wpQuiet P ops C Q (o :: rest) a :=
  wpQuiet_step fun K hK => by
    rw [if_pos hw]
    exact ⟨v, fun w' hw' => by
      unfold Oper.quietAt
      rw [hrun w' hw']
      exact ⟨rfl, rfl⟩, hK _ h⟩
theorem wpQuiet_conv (hw : Region.wanted o (yielded ops a.tmps) = true) (src dst : TypeId) (x : Operand) (ho : o.op = .convert src dst x) {u v : Value} (hx : a.eval x = u) (hrun : ∀ w', C w' → (Go.convert src dst u).run P w' = .ok v w')
    (h : wpQuiet P ops C Q rest (a.put o.dst v)) : wpQuiet P ops C Q (o :: rest) a :=
  wpQuiet_run hw (fun w' hw' => by simp [execOp, ho, hx, hrun w' hw', Result.andThen]) h
end

end Go.Proofs.Ytgibfagnfhgelaa
