/- The conversion of a string to bytes, as one operation. -/
import Derived.Test.YtapefonhgkjgnaaGreatLdF
import Derived.Lib.ConvBytes
namespace Go.Proofs.YtapefonhgkjgnaaGreat
open Go.RowKit

theorem wpList_strB {ops : Array Oper} {rest : List Oper} {o : Oper} {a : Act} {w : World} {Q : Exit → Act → World → Prop} (hg : o.guard = none) (x : Operand) (ho : o.op = .convert 9 22 x) {q : ByteArray} {nm : List UInt8} (hq : (⟨nm.toArray⟩ : ByteArray) = q) (hx : a.eval x = .string q)
    (h : ∀ y cy w', Bts w' y nm → (y = none → cy = 0) → Below w.heap.size w w' → wpList Tryz.prog ops Q rest (a.put o.dst (.slice y nm.length cy)) w') : wpList Tryz.prog ops Q (o :: rest) a w := by
  subst hq
  refine wpList_plain hg fun K hK => ?_
  have hs : Tryz.prog.underlying 9 = some .string := by kernel_rfl
  have hr := Lib.run_convert_string_bytes (P := Tryz.prog) w 9 22 5 ⟨nm.toArray⟩ hs Tryz.underlying22 Tryz.underlying5
  have hsz : (⟨nm.toArray⟩ : ByteArray).size = nm.length := by show nm.toArray.size = _; simp
  have hb : Below w.heap.size w (Lib.bytesWorld w 5 ⟨nm.toArray⟩) := by
    refine ⟨rfl, rfl, rfl, ?_, fun k hk => Lib.bytesWorld_at_old w _ _ k hk⟩
    rw [Lib.bytesWorld_size]; omega
  have hy : Bts (Lib.bytesWorld w 5 ⟨nm.toArray⟩) (some ⟨w.heap.size, 0, none⟩) nm := .inr ⟨w.heap.size, 0, rfl, fun i hi => by
    rw [Nat.zero_add, Lib.bytesWorld_cell w _ _ i (by rw [hsz]; exact hi)]
    simp [encB]⟩
  rw [hsz] at hr
  have hk := h _ (grownCap w nm.length 0 5) _ hy (fun e => by cases e) hb
  unfold Oper.wp
  simp [execOp, ho, hx, hr, Result.andThen]
  exact hK _ _ hk

end Go.Proofs.YtapefonhgkjgnaaGreat
