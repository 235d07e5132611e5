/- Loads and stores of runs of cells inside the wide fence. -/
import Derived.Test.YtjpicnfkmfjnoaaArrN
import Derived.TacticsIn
import Derived.RangeFuncCalls
namespace Go.Proofs.Ytjpicnfkmfjnoaa
open Go.RowKit

section
variable {P : Program} {n : Nat} {ops : Array Oper} {rest : List Oper} {o : Oper} {a : Act} {w : World} {Q : Exit → Act → World → Prop}
theorem wpListIn_loadN (hg : o.guard = none) (t : TypeId) (p : Operand) (ho : o.op = .load t p) {b q : Nat} (hp : a.eval p = .pointer (some ⟨b, q, none⟩)) {v : Value} (hrun : (loadVar t ⟨b, q, none⟩).run P w = .ok v w)
    (h : wpListIn Fence.wide n P ops Q rest (a.put o.dst v) w) : wpListIn Fence.wide n P ops Q (o :: rest) a w :=
  wpListIn_plain hg fun K hK => by
    refine ⟨fun _ _ => trivial, ?_⟩
    show o.uponIn Fence.wide n P a K Q ((Oper.semAt none a.eval o).run P w)
    rw [Oper.semAt_none]
    have e : (execOp a.eval o).run P w = .ok (.value v) w := by simp [execOp, ho, hp, Instr.loadAt, Instr.sureAddr, hrun, Result.andThen]
    rw [e]
    exact hK _ _ h
theorem wpListIn_storeN (hg : o.guard = none) (hd : o.dst = none) (t : TypeId) (p x : Operand) (ho : o.op = .store t p x) {b q : Nat} (hp : a.eval p = .pointer (some ⟨b, q, none⟩)) {w2 : World} (hrun : (storeVar t ⟨b, q, none⟩ (a.eval x)).run P w = .ok () w2)
    (h : wpListIn Fence.wide n P ops Q rest a w2) : wpListIn Fence.wide n P ops Q (o :: rest) a w :=
  wpListIn_plain hg fun K hK => by
    refine ⟨fun _ _ => trivial, ?_⟩
    show o.uponIn Fence.wide n P a K Q ((Oper.semAt none a.eval o).run P w)
    rw [Oper.semAt_none]
    have e : (execOp a.eval o).run P w = .ok .skip w2 := by simp [execOp, ho, hp, Instr.storeAt, Instr.sureAddr, hrun, Result.andThen]
    rw [e]
    have e2 : a.put o.dst undef = a := by rw [hd]; rfl
    show K (a.put o.dst undef) w2
    rw [e2]
    exact hK _ _ h
end

end Go.Proofs.Ytjpicnfkmfjnoaa
