/- Regions whose order is open, inside the body of a range over a function (the wide fence with a round): each rule of the plain walk that comes by way of 'wpAny' serves there too. Proved over any program. -/
import Derived.Test.YtgibfagnfhgelaaRegionB
import Derived.Test.YtgibfagnfhgelaaTail
import Derived.OrdersIn
import Derived.TacticsIn
import Derived.RangeFuncCalls
namespace Go.Proofs.Ytgibfagnfhgelaa
open Go.RowKit

section
variable {P : Program} {ops : Array Oper} {Q : Exit → Act → World → Prop} {md : Region.Mode} {l n : Nat}

theorem op_in {o : Oper} {a : Act} {w : World} {K : Act → World → Prop} (hd : ∀ c, o.op ≠ .defer c) (h : o.wp P a w K Q) : o.wpIn (Fence.wide.inRound l) n P a w K Q := by
  refine ⟨fun f _ => trivial, ?_⟩
  show o.uponIn (Fence.wide.inRound l) n P a K Q ((Oper.semAt (some l) a.eval o).run P w)
  rw [Oper.semAt_some l _ o hd]
  unfold Oper.wp at h
  revert h
  generalize (execOp a.eval o).run P w = r
  intro h
  cases r with
  | ok x w' =>
    cases x <;> first
      | exact h
      | exact ⟨fun e => by simp [Fence.wide] at e, CallsIn.inRound _ (callsIn_wide.2 h)⟩
      | exact ⟨fun e => by simp [Fence.wide] at e, fun c cs _ => by obtain ⟨v, w2, hr, hs⟩ := h c cs; exact ⟨v, w2, hr, stepsIn_wide.2 hs⟩⟩
      | exact h.elim
  | halt x w' => cases x <;> first | exact h | exact h.elim

def noDefer (ops : Array Oper) : Bool := ops.all fun o => match o.op with | .defer _ => false | _ => true
theorem noDefer_of {i : Nat} {o : Oper} (h : noDefer ops = true) (ho : ops[i]? = some o) : ∀ c, o.op ≠ .defer c := fun c e => by
  have hm := Array.all_eq_true'.1 h o (Array.mem_of_getElem? ho)
  rw [e] at hm
  cases hm

theorem any_in (hd : noDefer ops = true) (hlo : ¬ LetsOut Q) : ∀ (fuel : Nat) (listed : Array Bool) (a : Act) (w : World), wpAny P md ops Q fuel listed a w → wpAnyIn (Fence.wide.inRound l) n P md ops Q fuel listed a w
  | 0, _, _, _, h => h
  | fuel + 1, listed, a, w, h => by
    refine ⟨h.1, fun i hi => ?_⟩
    have h2 := h.2 i hi
    unfold wpOp at h2
    unfold wpOpIn
    cases ho : ops[i]? with
    | none => rw [ho] at h2; exact any_in hd hlo fuel _ _ _ h2
    | some o =>
      rw [ho] at h2
      simp only at h2 ⊢
      split
      · rename_i hw
        rw [if_pos hw] at h2
        exact op_in (noDefer_of hd ho) (Oper.wp_mono (fun a' w' h' => any_in hd hlo fuel _ _ _ h') (h2.resolve_right fun h' => hlo h'.2))
      · rename_i hw
        rw [if_neg hw] at h2
        exact ⟨fun f _ => trivial, any_in hd hlo fuel _ _ _ h2⟩

/-- A schedule, in a round. -/
theorem wpIn_region_schedB {B : Nat} {id : Nat} {a : Act} {w : World} (F : World → Prop) (s : Sched) (hm : P.follows .mixedOrders = true)
    (hok : (Region.noSelect ops && noDefer ops && okSched .any ops s (Array.replicate ops.size false) && decide (lenSched s = ops.size)) = true) (hlo : ¬ LetsOut Q)
    (hQ0 : ∀ c (a : Act) t v w, Q (.panic c) (Act.mk (a.tmps.setIfInBounds t v) a.defers) w → Q (.panic c) a w) (hF : F w.drew)
    (h : ∀ W, F W → wpSchedB B P ops Q s a W) : (Code.region id ops true).wpIn (Fence.wide.inRound l) n P Q a w := by
  have hQ : ∀ c a d v w, Q (.panic c) (Act.put a d v) w → Q (.panic c) a w := fun c a d v w hq => by
    cases d with
    | none => exact hq
    | some t => exact hQ0 c a t v w hq
  simp only [Bool.and_eq_true, decide_eq_true_eq] at hok
  refine wpIn_region_any hm (any_in hok.1.1.2 hlo _ _ _ _ ?_)
  have := wpAnyH_of_schedB hok.1.1.1 hQ s _ a w.drew hok.1.2 (h _ hF)
  rw [hok.2] at this
  exact wpAny_of_held (S := fun x => Below B w.drew x) _ _ _ _ this

/-- Reads, then a few operations in one forced order, in a round. -/
theorem wpIn_tail {id : Nat} {a : Act} {w : World} {ops : List Oper} (k : Nat) (F : World → Prop) (hm : P.follows .mixedOrders = true) (hB : (Region.lexTailB .any ops.toArray k && noDefer ops.toArray) = true) (hlo : ¬ LetsOut Q) (hF : F w.drew)
    (h : ∀ W, F W → wpStill P ops.toArray W (fun a' => wpList P ops.toArray Q (ops.drop k) a' W) (ops.take k) a) : (Code.region id ops.toArray true).wpIn (Fence.wide.inRound l) n P Q a w := by
  simp only [Bool.and_eq_true] at hB
  obtain ⟨hL, hd⟩ := hB
  simp only [Region.lexTailB, Bool.and_eq_true, decide_eq_true_eq] at hL
  obtain ⟨⟨⟨⟨e1, e2⟩, e3⟩, e4⟩, e5⟩ := hL
  have hk : k < ops.length := by simpa using e2
  have n1 : (ops.take k).length = k := by rw [List.length_take]; omega
  have n2 : (ops.drop k).length = ops.toArray.size - k := by simp
  have start : HeadInv .any ops.toArray k (Array.replicate ops.toArray.size false) :=
    { size := by simp, closed := fun j _ _ hl => (by rw [getD_replicate_false] at hl; cases hl), tail := fun t _ ht => getD_in (by simpa using ht) (getD_replicate_false _ _) }
  have head := wpAnyL_lex (P := P) (md := .any) (g := ops.toArray.size - k) e1 e3 e4 e2 (ops.take k) 0 _ a (fun j hj => by rw [n1] at hj; simp [hj]) (by rw [n1]; omega) start (by rw [n1]; exact e5) (h _ hF)
  have whole := wpAny_of_head (Q' := Q) (g := ops.toArray.size - k) (fun listed a' hL => by
    have := wpAny_of_seq (md := .any) (Q' := Q) (ops.drop k) k listed a' w.drew (fun j => by simp [List.getElem?_drop]) (by rw [n2]; exact hL.1) hL.2
    rwa [n2] at this) _ _ _ head
  rw [n1, show k + (ops.toArray.size - k) = ops.toArray.size by omega] at whole
  exact wpIn_region_any hm (any_in hd hlo _ _ _ _ whole)

end

end Go.Proofs.Ytgibfagnfhgelaa
