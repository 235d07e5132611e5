/- Operations as structs of three cells; what the operations of an installation are. -/
import Derived.Test.YtapefonhgkjgnaaLdU
import Derived.Test.YtapefonhgkjgnaaLdZ
set_option maxRecDepth 20000
namespace Go.Proofs.Ytapefonhgkjgnaa
open Go.RowKit

def opF (u : OpV) (j : Nat) : Value := if j = 0 then .int .i64 u.blk else if j = 1 then .bool u.er else .slice u.x u.d.length u.c
theorem opF_one (u : OpV) (j : Nat) : (opF u j).oneCell' = true := by
  unfold opF
  split
  · rfl
  · split <;> rfl
theorem op_zero : (Try.prog.info? 66).map (·.zero) = some (some (aggN 3 (opF op0))) := by kernel_rfl
theorem op_struct : (match Try.prog.underlying 66 with | some (.struct _) => true | _ => false) = true := by kernel_rfl
theorem op_size : (Try.prog.info? 66).map (·.size) = some 3 := by kernel_rfl
/-- Cells, whether or not they may be written. -/
def Cel (W : World) (b o n : Nat) (v : Nat → Value) : Prop := ∀ j, j < n → W.cell? ⟨b, o + j, none⟩ = some (v j)
theorem Cel.later {w w' : World} {b o n : Nat} {v : Nat → Value} (h : Cel w b o n v) (hb : Below w.heap.size w w') : Cel w' b o n v := fun j hj => Go.Proofs.Ytapefonhgkjgnaa.later hb (h j hj)
theorem Cel.low {B : Nat} {w w' : World} {b o n : Nat} {v : Nat → Value} (h : Cel w b o n v) (hb : Below B w w') (hB : b < B) : Cel w' b o n v := fun j hj => (hb.cell (p := ⟨b, o + j, none⟩) hB).trans (h j hj)
theorem run_loadCel {P : Program} {W : World} {b o n : Nat} {v : Nat → Value} (h : Cel W b o n v) {t : TypeId} {d : TypeDesc} (hu : P.underlying t = some d) (hd : (match d with | .struct _ | .array _ _ => true | _ => false) = true) (hi : (P.info? t).map (·.size) = some n) : (loadVar t ⟨b, o, none⟩).run P W = .ok (aggN n v) W := by
  have hl := run_loadCells_list (P := P) W ⟨b, o, none⟩ ((List.range n).map v) (fun j u hj => by
    have hjn : j < n := by
      rcases Nat.lt_or_ge j n with h | h
      · exact h
      · rw [List.getElem?_eq_none (by simpa using h)] at hj; cases hj
    rw [listN_get n v j hjn] at hj
    have hadd : (⟨b, o, none⟩ : Addr).add j = ⟨b, o + j, none⟩ := by unfold Addr.add; split <;> simp_all
    rw [hadd, h j hjn]; exact hj)
  rw [show ((List.range n).map v).length = n by simp] at hl
  cases hq : P.info? t with
  | none => simp [hq] at hi
  | some i =>
    have hs : i.size = n := by simp [hq] at hi; exact hi
    cases d <;> simp at hd <;> simp [loadVar, isAgg, run_underlying hu, sizeOf, typeInfo, hq, hs, hl, aggN]
theorem run_loadOp {W : World} {b o : Nat} {v : Nat → Value} (h : Cel W b o 3 v) : (loadVar 66 ⟨b, o, none⟩).run Try.prog W = .ok (aggN 3 v) W := by
  have hs := op_struct
  cases hq : Try.prog.underlying 66 with
  | none => rw [hq] at hs; cases hs
  | some d =>
    rw [hq] at hs
    exact run_loadCel h hq (by cases d <;> first | rfl | (simp at hs)) op_size
theorem cel_B {P : Program} {W : World} {b o n : Nat} {v : Nat → Value} {B : Nat} {t : TypeId} {r : Value} (h : Cel W b o n v) (hb : b < B) (hl : ∀ X, Cel X b o n v → (loadVar t ⟨b, o, none⟩).run P X = .ok r X) : ∀ w', OutB B W w' → (loadVar t ⟨b, o, none⟩).run P w' = .ok r w' := by
  rintro w' ⟨x, rfl⟩
  exact hl _ (h.low (plusB_below B W x) hb)
theorem Ops.row {w : World} {x : Option Addr} {os : List OpV} (h : Ops w x os) (h0 : os ≠ []) : ∃ g q, x = some ⟨g, q, none⟩ ∧ ∀ i, i < os.length → Cel w g (q + i * 3) 3 (opF (os.getD i op0)) := by
  rcases h.1 with h1 | ⟨g, q, hx, hc⟩
  · exact absurd h1 h0
  · refine ⟨g, q, hx, fun i hi j hj => ?_⟩
    obtain ⟨k0, k1, k2⟩ := hc i hi
    match j, hj with
    | 0, _ => exact k0
    | 1, _ => exact k1
    | 2, _ => exact k2
    | j + 3, h => exact absurd h (by omega)
theorem Ops.dat {w : World} {x : Option Addr} {os : List OpV} (h : Ops w x os) (i : Nat) (hi : i < os.length) : Bts w (os.getD i op0).x (os.getD i op0).d := by
  refine (h.2 (os.getD i op0) ?_).1
  rw [List.getD_eq_getElem?_getD, List.getElem?_eq_getElem hi]
  exact List.getElem_mem _

namespace Ld
theorem rb_at (bk ck nm : Nat) (dg : D64) : (rbytes ⟨bk, ck, nm, dg⟩).getD 0 0 = UInt8.ofNat nm ∧ (rbytes ⟨bk, ck, nm, dg⟩).getD 4 0 = UInt8.ofNat bk ∧ (rbytes ⟨bk, ck, nm, dg⟩).getD 5 0 = UInt8.ofNat ck := ⟨rfl, rfl, rfl⟩
/-- The operations of an installation, one by one. -/
theorem ins_at {os : List OpV} {f : List UInt8} {nb m to : Nat} {rb : List UInt8} (h : os.map opP = opsP f nb m to rb) : os.length = m + 1 ∧ (∀ i, i ≤ m → (os.getD i op0).er = false ∧ (os.getD i op0).blk = if i = m then (to : Int) else ((2 + 16 * nb + i : Nat) : Int)) ∧ (os.getD m op0).d = rb := by
  obtain ⟨hl, hc, b1, b2, b3⟩ := ops_at h
  refine ⟨hl, fun i hi => ?_, b3⟩
  by_cases e : i = m
  · subst e; rw [if_pos rfl]; exact ⟨b2, b1⟩
  · rw [if_neg e]; obtain ⟨c1, c2, _⟩ := hc i (by omega); exact ⟨c2, c1⟩
end Ld

end Go.Proofs.Ytapefonhgkjgnaa
