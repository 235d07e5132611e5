/- A region whose order is open, whose operations may also write what the region itself has made: all that the light operations read lies below B. One schedule serves every order. Proved over any program. -/
import Derived.Test.YtgibfagnfhgelaaRegion
namespace Go.Proofs.Ytgibfagnfhgelaa
open Go.RowKit

/-- The world x where it has kept what lies below B; else w. -/
noncomputable def plusB (B : Nat) (w x : World) : World := @ite _ (Below B w x) (Classical.propDecidable _) x w

theorem plusB_below (B : Nat) (w x : World) : Below B w (plusB B w x) := by
  unfold plusB
  split
  · assumption
  · exact Below.refl _ _

theorem plusB_of {B : Nat} {w w' : World} (h : Below B w w') : w' = plusB B w w' := by
  unfold plusB; rw [if_pos h]

theorem plusB_cell {B : Nat} {w : World} {a : Addr} {v : Value} (h : w.cell? a = some v) (ha : a.block < B) (x : World) : (plusB B w x).cell? a = some v := ((plusB_below B w x).cell ha).trans h

@[go_sem] def OutB (B : Nat) (w w' : World) : Prop := ∃ x, w' = plusB B w x

theorem OutB.mk {B : Nat} {w w' : World} (h : Below B w w') : OutB B w w' := ⟨w', plusB_of h⟩

section
variable {B : Nat} {P : Program} {ops : Array Oper} {Q : Exit → Act → World → Prop} {md : Region.Mode}

/-- An operation that may make memory, where it comes up. -/
def HeavyB (B : Nat) (P : Program) (ops : Array Oper) (Q : Exit → Act → World → Prop) (o : Oper) (K : Act → World → Prop) (a : Act) (w : World) : Prop :=
  if Region.wanted o (yielded ops a.tmps) = true then o.wp P a w (fun a' w' => Below B w w' ∧ K a' w') Q else K (a.put o.dst undef) w

/-- The walk of a schedule. -/
def wpSchedB (B : Nat) (P : Program) (ops : Array Oper) (Q : Exit → Act → World → Prop) : Sched → Act → World → Prop
  | .done l, a, w => wpQuiet P ops (OutB B w) (fun a' => Q .normal a' w) (l.map (pick ops)) a
  | .one l h s, a, w => wpQuiet P ops (OutB B w) (fun a' => HeavyB B P ops Q (pick ops h) (wpSchedB B P ops Q s) a' w) (l.map (pick ops)) a
  | .two l h s h' s', a, w => wpQuiet P ops (OutB B w) (fun a' => HeavyB B P ops Q (pick ops h) (wpSchedB B P ops Q s) a' w ∧ HeavyB B P ops Q (pick ops h') (wpSchedB B P ops Q s') a' w) (l.map (pick ops)) a
  | .three l h s h' s' h'' s'', a, w => wpQuiet P ops (OutB B w) (fun a' => HeavyB B P ops Q (pick ops h) (wpSchedB B P ops Q s) a' w ∧ HeavyB B P ops Q (pick ops h') (wpSchedB B P ops Q s') a' w ∧ HeavyB B P ops Q (pick ops h'') (wpSchedB B P ops Q s'') a' w) (l.map (pick ops)) a

theorem yieldsIfB_of_yieldsIn {o : Oper} {a : Act} {w : World} {v : Value} (hl : lightOp o.op = true) (h : YieldsIn P ops (OutB B w) o v a) : YieldsIf P ops (fun w' => Below B w w') o v a := by
  rcases h with ⟨hw, hv⟩ | h
  · refine .inl ⟨hw, fun w' hw' => ?_⟩
    have h1 := hv w' (OutB.mk hw')
    unfold Oper.quietAt at h1
    revert h1
    generalize hr : (execOp a.eval o).run P w' = r
    intro h1
    cases r with
    | ok n w2 =>
      obtain ⟨u, rfl⟩ := light_value hl hr
      simp only [Oper.quietUpon] at h1
      rw [h1.1, h1.2]
    | halt x w2 => simp only [Oper.quietUpon] at h1
  · exact .inr h

/-- The light operations, taken one after the other. -/
theorem take_lightsB (hs : Region.noSelect ops = true) (hQ : ∀ c a d v w, Q (.panic c) (Act.put a d v) w → Q (.panic c) a w) (K : Act → Prop) (w : World) :
    ∀ (l : List Nat) (listed t : Array Bool) (fuel : Nat) (a : Act), okLights md ops l listed = some t → wpQuiet P ops (OutB B w) K (l.map (pick ops)) a →
      (∀ a', K a' → wpAnyH P md ops Q (fun w' => Below B w w') fuel t a' w) → wpAnyH P md ops Q (fun w' => Below B w w') (fuel + l.length) listed a w
  | [], listed, t, fuel, a, hok, hw, hK => by
    simp only [okLights, Option.some.injEq] at hok
    subst hok
    exact hK a hw
  | i :: r, listed, t, fuel, a, hok, hw, hK => by
    simp only [okLights] at hok
    split at hok
    · rename_i hc
      simp only [Bool.and_eq_true] at hc
      obtain ⟨o, ho⟩ := mem_ready_some (by simpa using hc.1.1 : i ∈ Region.ready md ops listed)
      have hp := pick_of ho
      have hl : lightOp o.op = true := by rw [← hp]; exact hc.2
      have hq : qOp P ops (OutB B w) i (wpQuiet P ops (OutB B w) K (r.map (pick ops))) a := by
        unfold qOp; simp only [ho]
        have := hw
        simp only [List.map_cons, hp] at this
        exact this
      obtain ⟨v, hy, hk⟩ := yieldsIn_of_qOp ho hq
      exact wpAnyH_take ho hs hc.1.2 (by simpa using hc.1.1) (fun c a w => hQ c a o.dst v w) (yieldsIfB_of_yieldsIn hl hy) (Below.refl _ _) (take_lightsB hs hQ K w r _ t fuel _ hok hk hK)
    · cases hok

theorem heavyB_wpOp {o : Oper} {h : Nat} {K : Act → World → Prop} {fuel : Nat} {t : Array Bool} {a : Act} {w : World} (ho : ops[h]? = some o) (hh : HeavyB B P ops Q (pick ops h) K a w)
    (hK : ∀ a' w', K a' w' → wpAnyH P md ops Q (fun x => Below B w' x) fuel t a' w') :
    wpOp P ops Q h (fun a' w' => Below B w w' ∧ wpAnyH P md ops Q (fun x => Below B w x) fuel t a' w') a w := by
  rw [pick_of ho] at hh
  unfold HeavyB at hh
  unfold wpOp
  simp only [ho]
  split
  · rename_i hw
    rw [if_pos hw] at hh
    exact .inl (Oper.wp_mono (fun a' w' hb => ⟨hb.1, wpAnyH_weaken (fun x hx => hb.1.trans hx) fuel t a' w' (hK a' w' hb.2)⟩) hh)
  · rename_i hw
    rw [if_neg hw] at hh
    exact ⟨Below.refl _ _, hK _ _ hh⟩

theorem wpAnyH_of_schedB (hs : Region.noSelect ops = true) (hQ : ∀ c a d v w, Q (.panic c) (Act.put a d v) w → Q (.panic c) a w) :
    ∀ (s : Sched) (listed : Array Bool) (a : Act) (w : World), okSched md ops s listed = true → wpSchedB B P ops Q s a w → wpAnyH P md ops Q (fun x => Below B w x) (lenSched s) listed a w
  | .done l, listed, a, w, hok, hw => by
    simp only [okSched] at hok
    split at hok
    · rename_i t ht
      have := take_lightsB (fuel := 0) hs hQ _ w l listed t a ht hw (fun a' ha => ⟨by simpa using hok, ha⟩)
      rwa [Nat.zero_add] at this
    · cases hok
  | .one l h s, listed, a, w, hok, hw => by
    simp only [okSched] at hok
    split at hok
    · rename_i t ht
      simp only [Bool.and_eq_true, decide_eq_true_eq] at hok
      refine take_lightsB (fuel := lenSched s + 1) hs hQ _ w l listed t a ht hw (fun a' ha => ?_)
      refine wpAnyH_all hok.1 (by simp) (fun i hi => ?_)
      obtain ⟨o, ho⟩ := mem_ready_some (by rw [hok.1]; exact hi : i ∈ Region.ready md ops t)
      obtain rfl : i = h := by simpa using hi
      exact heavyB_wpOp ho ha (fun a2 w2 h2 => wpAnyH_of_schedB hs hQ s _ a2 w2 hok.2 h2)
    · cases hok
  | .two l h s h' s', listed, a, w, hok, hw => by
    simp only [okSched] at hok
    split at hok
    · rename_i t ht
      simp only [Bool.and_eq_true, decide_eq_true_eq] at hok
      refine take_lightsB (fuel := lenSched s + 1) hs hQ _ w l listed t a ht hw (fun a' ha => ?_)
      refine wpAnyH_all hok.1.1.1 (by simp) (fun i hi => ?_)
      obtain ⟨o, ho⟩ := mem_ready_some (by rw [hok.1.1.1]; exact hi : i ∈ Region.ready md ops t)
      simp only [List.mem_cons, List.not_mem_nil, or_false] at hi
      rcases hi with rfl | rfl
      · exact heavyB_wpOp ho ha.1 (fun a2 w2 h2 => wpAnyH_of_schedB hs hQ s _ a2 w2 hok.1.2 h2)
      · exact heavyB_wpOp ho ha.2 (fun a2 w2 h2 => by rw [← hok.1.1.2]; exact wpAnyH_of_schedB hs hQ s' _ a2 w2 hok.2 h2)
    · cases hok
  | .three l h s h' s' h'' s'', listed, a, w, hok, hw => by
    simp only [okSched] at hok
    split at hok
    · rename_i t ht
      simp only [Bool.and_eq_true, decide_eq_true_eq] at hok
      refine take_lightsB (fuel := lenSched s + 1) hs hQ _ w l listed t a ht hw (fun a' ha => ?_)
      refine wpAnyH_all hok.1.1.1.1 (by simp) (fun i hi => ?_)
      obtain ⟨o, ho⟩ := mem_ready_some (by rw [hok.1.1.1.1]; exact hi : i ∈ Region.ready md ops t)
      simp only [List.mem_cons, List.not_mem_nil, or_false] at hi
      rcases hi with rfl | rfl | rfl
      · exact heavyB_wpOp ho ha.1 (fun a2 w2 h2 => wpAnyH_of_schedB hs hQ s _ a2 w2 hok.1.1.2 h2)
      · exact heavyB_wpOp ho ha.2.1 (fun a2 w2 h2 => by rw [← hok.1.1.1.2.1]; exact wpAnyH_of_schedB hs hQ s' _ a2 w2 hok.1.2 h2)
      · exact heavyB_wpOp ho ha.2.2 (fun a2 w2 h2 => by rw [← hok.1.1.1.2.2]; exact wpAnyH_of_schedB hs hQ s'' _ a2 w2 hok.2 h2)
    · cases hok

/-- ONE SCHEDULE SERVES EVERY ORDER. What is known of the world at the region's head goes on as F. -/
theorem wp_region_schedB {id : Nat} {a : Act} {w : World} (F : World → Prop) (s : Sched) (hm : P.follows .mixedOrders = true)
    (hok : (Region.noSelect ops && okSched .any ops s (Array.replicate ops.size false) && decide (lenSched s = ops.size)) = true)
    (hQ0 : ∀ c (a : Act) t v w, Q (.panic c) (Act.mk (a.tmps.setIfInBounds t v) a.defers) w → Q (.panic c) a w) (hF : F w.drew)
    (h : ∀ W, F W → wpSchedB B P ops Q s a W) : (Code.region id ops true).wp P Q a w := by
  have hQ : ∀ c a d v w, Q (.panic c) (Act.put a d v) w → Q (.panic c) a w := fun c a d v w hq => by
    cases d with
    | none => exact hq
    | some t => exact hQ0 c a t v w hq
  simp only [Bool.and_eq_true, decide_eq_true_eq] at hok
  refine wp_region_held (S := fun _ => True) hm ?_
  have := wpAnyH_of_schedB hok.1.1 hQ s _ a w.drew hok.1.2 (h _ hF)
  rw [hok.2] at this
  exact wpAnyH_weaken (S' := fun x => Below B w.drew x) (fun _ _ => trivial) _ _ _ _ this

theorem heavyB_want {o : Oper} {K : Act → World → Prop} {a : Act} {w : World} (hw : Region.wanted o (yielded ops a.tmps) = true)
    (h : ∀ K' : Act → World → Prop, (∀ a' w', Below B w w' → K a' w' → K' a' w') → o.wp P a w K' Q) : HeavyB B P ops Q o K a w := by
  unfold HeavyB; rw [if_pos hw]; exact h _ (fun a' w' h1 h2 => ⟨h1, h2⟩)

theorem heavyB_skip {o : Oper} {K : Act → World → Prop} {a : Act} {w : World} (hw : Region.wanted o (yielded ops a.tmps) = false) (h : K (a.put o.dst undef) w) : HeavyB B P ops Q o K a w := by
  unfold HeavyB; rw [if_neg (by rw [hw]; exact Bool.false_ne_true)]; exact h

end

/-- A cut behind a piece of code that ends normally. -/
theorem wp_cut {P : Program} {c : Code} {Q : Exit → Act → World → Prop} {a : Act} {w : World} (R : Act → World → Prop) (h1 : c.wp P (fun e a' w' => e = .normal ∧ R a' w') a w) (h2 : ∀ a' w', R a' w' → Q .normal a' w') : c.wp P Q a w :=
  wp_mono h1 fun e a' w' h => by obtain ⟨rfl, hr⟩ := h; exact h2 _ _ hr

end Go.Proofs.Ytgibfagnfhgelaa
