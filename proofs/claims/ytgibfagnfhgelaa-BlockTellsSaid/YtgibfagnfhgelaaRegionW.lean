/- Regions whose order is open, inside a function at the wide fence (an iterator, say). Proved over any program. -/
import Derived.Test.YtgibfagnfhgelaaRegionB
import Derived.OrdersIn
import Derived.TacticsIn
import Derived.RangeFuncCalls
namespace Go.Proofs.Ytgibfagnfhgelaa
open Go.RowKit

section
variable {P : Program} {ops : Array Oper} {Q : Exit → Act → World → Prop} {md : Region.Mode} {n : Nat}

theorem op_inW {o : Oper} {a : Act} {w : World} {K : Act → World → Prop} (h : o.wp P a w K Q) : o.wpIn Fence.wide n P a w K Q := by
  refine ⟨fun f _ => trivial, ?_⟩
  show o.uponIn Fence.wide n P a K Q ((Oper.semAt none a.eval o).run P w)
  rw [Oper.semAt_none]
  unfold Oper.wp at h
  revert h
  generalize (execOp a.eval o).run P w = r
  intro h
  cases r with
  | ok x w' =>
    cases x <;> first
      | exact h
      | exact ⟨fun e => by simp [Fence.wide] at e, callsIn_wide.2 h⟩
      | exact ⟨fun e => by simp [Fence.wide] at e, fun c cs _ => by obtain ⟨v, w2, hr, hs⟩ := h c cs; exact ⟨v, w2, hr, stepsIn_wide.2 hs⟩⟩
      | exact h.elim
  | halt x w' => cases x <;> first | exact h | exact h.elim

def noDeferW (ops : Array Oper) : Bool := ops.all fun o => match o.op with | .defer _ => false | _ => true
theorem noDefer_ofW {i : Nat} {o : Oper} (h : noDeferW ops = true) (ho : ops[i]? = some o) : ∀ c, o.op ≠ .defer c := fun c e => by
  have hm := Array.all_eq_true'.1 h o (Array.mem_of_getElem? ho)
  rw [e] at hm
  cases hm

theorem any_inW (hd : noDeferW ops = true) (hlo : ¬ LetsOut Q) : ∀ (fuel : Nat) (listed : Array Bool) (a : Act) (w : World), wpAny P md ops Q fuel listed a w → wpAnyIn Fence.wide n P md ops Q fuel listed a w
  | 0, _, _, _, h => h
  | fuel + 1, listed, a, w, h => by
    refine ⟨h.1, fun i hi => ?_⟩
    have h2 := h.2 i hi
    unfold wpOp at h2
    unfold wpOpIn
    cases ho : ops[i]? with
    | none => rw [ho] at h2; exact any_inW hd hlo fuel _ _ _ h2
    | some o =>
      rw [ho] at h2
      simp only at h2 ⊢
      split
      · rename_i hw
        rw [if_pos hw] at h2
        exact op_inW (Oper.wp_mono (fun a' w' h' => any_inW hd hlo fuel _ _ _ h') (h2.resolve_right fun h' => hlo h'.2))
      · rename_i hw
        rw [if_neg hw] at h2
        exact ⟨fun f _ => trivial, any_inW hd hlo fuel _ _ _ h2⟩

/-- A schedule, at the wide fence. -/
theorem wpIn_region_schedBW {B : Nat} {id : Nat} {a : Act} {w : World} (F : World → Prop) (s : Sched) (hm : P.follows .mixedOrders = true)
    (hok : (Region.noSelect ops && noDeferW ops && okSched .any ops s (Array.replicate ops.size false) && decide (lenSched s = ops.size)) = true) (hlo : ¬ LetsOut Q)
    (hQ0 : ∀ c (a : Act) t v w, Q (.panic c) (Act.mk (a.tmps.setIfInBounds t v) a.defers) w → Q (.panic c) a w) (hF : F w.drew)
    (h : ∀ W, F W → wpSchedB B P ops Q s a W) : (Code.region id ops true).wpIn Fence.wide n P Q a w := by
  have hQ : ∀ c a d v w, Q (.panic c) (Act.put a d v) w → Q (.panic c) a w := fun c a d v w hq => by
    cases d with
    | none => exact hq
    | some t => exact hQ0 c a t v w hq
  simp only [Bool.and_eq_true, decide_eq_true_eq] at hok
  refine wpIn_region_any hm (any_inW hok.1.1.2 hlo _ _ _ _ ?_)
  have := wpAnyH_of_schedB hok.1.1.1 hQ s _ a w.drew hok.1.2 (h _ hF)
  rw [hok.2] at this
  exact wpAny_of_held (S := fun x => Below B w.drew x) _ _ _ _ this

end

end Go.Proofs.Ytgibfagnfhgelaa
