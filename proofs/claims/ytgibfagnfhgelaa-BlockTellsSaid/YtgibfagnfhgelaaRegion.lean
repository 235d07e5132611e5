/- A region whose order is open, with calls that make memory beside loads and arithmetic: one schedule serves every order, if each call leaves what lay there as it was. Proved over any program. -/
import Derived.OrdersHeld
import Derived.Deep.Quiet
import Derived.Below
namespace Go.Proofs.Ytgibfagnfhgelaa
open Go.RowKit

theorem later {w w' : World} (hb : Below w.heap.size w w') {a : Addr} {v : Value} (h : w.cell? a = some v) : w'.cell? a = some v := (hb.cell (World.block_lt_of_cell? w a h)).trans h

/-- The world x where it has grown out of w; else w. -/
noncomputable def plusW (w x : World) : World := @ite _ (Below w.heap.size w x) (Classical.propDecidable _) x w

theorem plusW_below (w x : World) : Below w.heap.size w (plusW w x) := by
  unfold plusW
  split
  · assumption
  · exact Below.refl _ _

theorem plusW_of {w w' : World} (h : Below w.heap.size w w') : w' = plusW w w' := by
  unfold plusW; rw [if_pos h]

theorem plusW_cell {w : World} {a : Addr} {v : Value} (h : w.cell? a = some v) (x : World) : (plusW w x).cell? a = some v := later (plusW_below w x) h

@[go_sem] def OutOf (w w' : World) : Prop := ∃ x, w' = plusW w x

theorem OutOf.below {w w' : World} (h : OutOf w w') : Below w.heap.size w w' := by obtain ⟨x, rfl⟩ := h; exact plusW_below w x
theorem OutOf.mk {w w' : World} (h : Below w.heap.size w w') : OutOf w w' := ⟨w', plusW_of h⟩

section
variable {P : Program} {ops : Array Oper} {Q : Exit → Act → World → Prop} {md : Region.Mode}

/-- An operation that may make memory, where it comes up. -/
def Heavy (P : Program) (ops : Array Oper) (Q : Exit → Act → World → Prop) (o : Oper) (K : Act → World → Prop) (a : Act) (w : World) : Prop :=
  if Region.wanted o (yielded ops a.tmps) = true then o.wp P a w (fun a' w' => Below w.heap.size w w' ∧ K a' w') Q else K (a.put o.dst undef) w

/-- A schedule: light operations, then a heavy one (or whichever of two or three comes up), and so on. -/
inductive Sched where
  | done (l : List Nat)
  | one (l : List Nat) (h : Nat) (s : Sched)
  | two (l : List Nat) (h : Nat) (s : Sched) (h' : Nat) (s' : Sched)
  | three (l : List Nat) (h : Nat) (s : Sched) (h' : Nat) (s' : Sched) (h'' : Nat) (s'' : Sched)

def pick (ops : Array Oper) (i : Nat) : Oper := ops.getD i default

/-- The walk of a schedule. -/
def wpSched (P : Program) (ops : Array Oper) (Q : Exit → Act → World → Prop) : Sched → Act → World → Prop
  | .done l, a, w => wpQuiet P ops (OutOf w) (fun a' => Q .normal a' w) (l.map (pick ops)) a
  | .one l h s, a, w => wpQuiet P ops (OutOf w) (fun a' => Heavy P ops Q (pick ops h) (wpSched P ops Q s) a' w) (l.map (pick ops)) a
  | .two l h s h' s', a, w => wpQuiet P ops (OutOf w) (fun a' => Heavy P ops Q (pick ops h) (wpSched P ops Q s) a' w ∧ Heavy P ops Q (pick ops h') (wpSched P ops Q s') a' w) (l.map (pick ops)) a
  | .three l h s h' s' h'' s'', a, w => wpQuiet P ops (OutOf w) (fun a' => Heavy P ops Q (pick ops h) (wpSched P ops Q s) a' w ∧ Heavy P ops Q (pick ops h') (wpSched P ops Q s') a' w ∧ Heavy P ops Q (pick ops h'') (wpSched P ops Q s'') a' w) (l.map (pick ops)) a

/-- An operation that yields a value or does not go through. -/
def lightOp : Op → Bool
  | .nilCheck _ | .move _ | .assign _ | .pick .. | .load .. | .binOp .. | .unOp .. | .convert .. | .slice .. | .fieldAddr .. | .field .. | .indexAddr .. | .index .. | .extract .. | .build .. => true
  | .call { callee := .builtin .len, .. } | .call { callee := .builtin .cap, .. } | .call { callee := .builtin .min, .. } | .call { callee := .builtin .max, .. } => true
  | _ => false

theorem mem_ready_some {listed : Array Bool} {i : Nat} (h : i ∈ Region.ready md ops listed) : ∃ o, ops[i]? = some o := by
  obtain ⟨_, o, ho, _⟩ := mem_ready.1 h
  exact ⟨o, ho⟩

theorem pick_of {i : Nat} {o : Oper} (h : ops[i]? = some o) : pick ops i = o := by
  unfold pick; simp [Array.getD_eq_getD_getElem?, h]

def lenSched : Sched → Nat
  | .done l => l.length
  | .one l _ s => (lenSched s + 1) + l.length
  | .two l _ s _ _ => (lenSched s + 1) + l.length
  | .three l _ s _ _ _ _ => (lenSched s + 1) + l.length

def okLights (md : Region.Mode) (ops : Array Oper) : List Nat → Array Bool → Option (Array Bool)
  | [], listed => some listed
  | i :: r, listed => if (Region.ready md ops listed).contains i && Region.free md ops listed i && lightOp (pick ops i).op then okLights md ops r (listed.setIfInBounds i true) else none

def okSched (md : Region.Mode) (ops : Array Oper) : Sched → Array Bool → Bool
  | .done l, listed => match okLights md ops l listed with
    | some t => (Region.ready md ops t).isEmpty
    | none => false
  | .one l h s, listed => match okLights md ops l listed with
    | some t => decide (Region.ready md ops t = [h]) && okSched md ops s (t.setIfInBounds h true)
    | none => false
  | .two l h s h' s', listed => match okLights md ops l listed with
    | some t => decide (Region.ready md ops t = [h, h'] ∧ lenSched s' = lenSched s) && okSched md ops s (t.setIfInBounds h true) && okSched md ops s' (t.setIfInBounds h' true)
    | none => false
  | .three l h s h' s' h'' s'', listed => match okLights md ops l listed with
    | some t => decide (Region.ready md ops t = [h, h', h''] ∧ lenSched s' = lenSched s ∧ lenSched s'' = lenSched s) && okSched md ops s (t.setIfInBounds h true) && okSched md ops s' (t.setIfInBounds h' true) && okSched md ops s'' (t.setIfInBounds h'' true)
    | none => false


theorem wpAnyH_weaken {S S' : World → Prop} (h : ∀ w, S' w → S w) : ∀ (fuel : Nat) (listed : Array Bool) (a : Act) (w : World), wpAnyH P md ops Q S' fuel listed a w → wpAnyH P md ops Q S fuel listed a w
  | 0, _, _, _, hh => hh
  | fuel + 1, _, _, _, hh => ⟨hh.1, fun i hi => wpOp_mono (fun a' w' h' => ⟨h _ h'.1, wpAnyH_weaken h fuel _ a' w' h'.2⟩) (hh.2 i hi)⟩

theorem run_value {α : Type} (s : Sem α) (f : α → Value) (w w' : World) (n : Next) (h : (do pure (Next.value (f (← s))) : Sem Next).run P w = .ok n w') : ∃ u, n = .value u := by
  rw [Sem.run_bind] at h
  cases hs : s.run P w with
  | ok u w2 => rw [hs] at h; simp [Result.andThen] at h; exact ⟨_, h.1.symm⟩
  | halt x w2 => rw [hs] at h; simp [Result.andThen] at h

theorem run_then {r : Result Value} {n : Next} {w' : World} (h : (r.andThen fun a w' => Result.ok (Next.value a) w') = .ok n w') : ∃ u, n = .value u := by
  cases r with
  | ok u w2 => simp [Result.andThen] at h; exact ⟨_, h.1.symm⟩
  | halt x w2 => simp [Result.andThen] at h

theorem run_bind_ok {α β : Type} {s : Sem α} {f : α → Sem β} {w w' : World} {n : β} (h : (s >>= f).run P w = .ok n w') : ∃ a w1, (f a).run P w1 = .ok n w' := by
  rw [Sem.run_bind] at h
  cases hs : s.run P w with
  | ok u w2 => rw [hs] at h; exact ⟨u, w2, h⟩
  | halt x w2 => rw [hs] at h; simp [Result.andThen] at h

theorem light_value {ρ : Operand → Value} {o : Oper} (hl : lightOp o.op = true) {w w' : World} {n : Next} (h : (execOp ρ o).run P w = .ok n w') : ∃ u, n = .value u := by
  unfold execOp at h
  revert hl h
  cases o.op <;> intro hl h <;> first | cases hl | skip
  case call c =>
    obtain ⟨callee, args, argTypes⟩ := c
    cases callee with
    | builtin b =>
      cases b <;> first | (exact absurd hl Bool.false_ne_true) | (simp only [resolve, invoke, builtin, Sem.run_bind, Sem.run_pure, Result.andThen_ok] at h; exact run_then h)
    | invoke recv name => cases hl
    | value f => cases hl
  case nilCheck x =>
    dsimp only at h
    split at h
    · simp [runtimePanic] at h
    · simp [runtimePanic] at h
    · simp [runtimePanic] at h
    · split at h
      · simp [runtimePanic] at h
      · obtain ⟨_, w1, h⟩ := run_bind_ok h
        obtain ⟨_, w2, h⟩ := run_bind_ok h
        split at h
        · obtain ⟨_, w3, h⟩ := run_bind_ok h
          simp at h; exact ⟨_, h.1.symm⟩
        · simp at h; exact ⟨_, h.1.symm⟩
      · simp at h; exact ⟨_, h.1.symm⟩
    · simp at h; exact ⟨_, h.1.symm⟩
  all_goals first
    | (exact run_value _ (fun x => x) _ _ _ h)
    | (simp at h; exact ⟨_, h.1.symm⟩)
    | (exact run_value _ (fun b : Bool => if b = true then _ else _) _ _ _ h)

theorem yieldsIf_of_yieldsIn {o : Oper} {a : Act} {w : World} {v : Value} (hl : lightOp o.op = true) (h : YieldsIn P ops (OutOf w) o v a) : YieldsIf P ops (fun w' => Below w.heap.size w w') o v a := by
  rcases h with ⟨hw, hv⟩ | h
  · refine .inl ⟨hw, fun w' hw' => ?_⟩
    have h1 := hv w' (OutOf.mk hw')
    unfold Oper.quietAt at h1
    revert h1
    generalize hr : (execOp a.eval o).run P w' = r
    intro h1
    cases r with
    | ok n w2 =>
      obtain ⟨u, rfl⟩ := light_value hl hr
      simp only [Oper.quietUpon] at h1
      rw [h1.1, h1.2]
    | halt x w2 => simp only [Oper.quietUpon] at h1
  · exact .inr h

/-- The light operations, taken one after the other. -/
theorem take_lights (hs : Region.noSelect ops = true) (hQ : ∀ c a d v w, Q (.panic c) (Act.put a d v) w → Q (.panic c) a w) (K : Act → Prop) (w : World) :
    ∀ (l : List Nat) (listed t : Array Bool) (fuel : Nat) (a : Act), okLights md ops l listed = some t → wpQuiet P ops (OutOf w) K (l.map (pick ops)) a →
      (∀ a', K a' → wpAnyH P md ops Q (fun w' => Below w.heap.size w w') fuel t a' w) → wpAnyH P md ops Q (fun w' => Below w.heap.size w w') (fuel + l.length) listed a w
  | [], listed, t, fuel, a, hok, hw, hK => by
    simp only [okLights, Option.some.injEq] at hok
    subst hok
    exact hK a hw
  | i :: r, listed, t, fuel, a, hok, hw, hK => by
    simp only [okLights] at hok
    split at hok
    · rename_i hc
      simp only [Bool.and_eq_true] at hc
      obtain ⟨o, ho⟩ := mem_ready_some (by simpa using hc.1.1 : i ∈ Region.ready md ops listed)
      have hp := pick_of ho
      have hl : lightOp o.op = true := by rw [← hp]; exact hc.2
      have hq : qOp P ops (OutOf w) i (wpQuiet P ops (OutOf w) K (r.map (pick ops))) a := by
        unfold qOp; simp only [ho]
        have := hw
        simp only [List.map_cons, hp] at this
        exact this
      obtain ⟨v, hy, hk⟩ := yieldsIn_of_qOp ho hq
      exact wpAnyH_take ho hs hc.1.2 (by simpa using hc.1.1) (fun c a w => hQ c a o.dst v w) (yieldsIf_of_yieldsIn hl hy) (Below.refl _ _) (take_lights hs hQ K w r _ t fuel _ hok hk hK)
    · cases hok

theorem heavy_wpOp {o : Oper} {h : Nat} {K : Act → World → Prop} {fuel : Nat} {t : Array Bool} {a : Act} {w : World} (ho : ops[h]? = some o) (hh : Heavy P ops Q (pick ops h) K a w)
    (hK : ∀ a' w', K a' w' → wpAnyH P md ops Q (fun x => Below w'.heap.size w' x) fuel t a' w') :
    wpOp P ops Q h (fun a' w' => Below w.heap.size w w' ∧ wpAnyH P md ops Q (fun x => Below w.heap.size w x) fuel t a' w') a w := by
  rw [pick_of ho] at hh
  unfold Heavy at hh
  unfold wpOp
  simp only [ho]
  split
  · rename_i hw
    rw [if_pos hw] at hh
    exact .inl (Oper.wp_mono (fun a' w' hb => ⟨hb.1, wpAnyH_weaken (fun x hx => hb.1.trans (hx.mono hb.1.size)) fuel t a' w' (hK a' w' hb.2)⟩) hh)
  · rename_i hw
    rw [if_neg hw] at hh
    exact ⟨Below.refl _ _, hK _ _ hh⟩

theorem wpAnyH_of_sched (hs : Region.noSelect ops = true) (hQ : ∀ c a d v w, Q (.panic c) (Act.put a d v) w → Q (.panic c) a w) :
    ∀ (s : Sched) (listed : Array Bool) (a : Act) (w : World), okSched md ops s listed = true → wpSched P ops Q s a w → wpAnyH P md ops Q (fun x => Below w.heap.size w x) (lenSched s) listed a w
  | .done l, listed, a, w, hok, hw => by
    simp only [okSched] at hok
    split at hok
    · rename_i t ht
      have := take_lights (fuel := 0) hs hQ _ w l listed t a ht hw (fun a' ha => ⟨by simpa using hok, ha⟩)
      rwa [Nat.zero_add] at this
    · cases hok
  | .one l h s, listed, a, w, hok, hw => by
    simp only [okSched] at hok
    split at hok
    · rename_i t ht
      simp only [Bool.and_eq_true, decide_eq_true_eq] at hok
      refine take_lights (fuel := lenSched s + 1) hs hQ _ w l listed t a ht hw (fun a' ha => ?_)
      refine wpAnyH_all hok.1 (by simp) (fun i hi => ?_)
      obtain ⟨o, ho⟩ := mem_ready_some (by rw [hok.1]; exact hi : i ∈ Region.ready md ops t)
      obtain rfl : i = h := by simpa using hi
      exact heavy_wpOp ho ha (fun a2 w2 h2 => wpAnyH_of_sched hs hQ s _ a2 w2 hok.2 h2)
    · cases hok
  | .two l h s h' s', listed, a, w, hok, hw => by
    simp only [okSched] at hok
    split at hok
    · rename_i t ht
      simp only [Bool.and_eq_true, decide_eq_true_eq] at hok
      refine take_lights (fuel := lenSched s + 1) hs hQ _ w l listed t a ht hw (fun a' ha => ?_)
      refine wpAnyH_all hok.1.1.1 (by simp) (fun i hi => ?_)
      obtain ⟨o, ho⟩ := mem_ready_some (by rw [hok.1.1.1]; exact hi : i ∈ Region.ready md ops t)
      simp only [List.mem_cons, List.not_mem_nil, or_false] at hi
      rcases hi with rfl | rfl
      · exact heavy_wpOp ho ha.1 (fun a2 w2 h2 => wpAnyH_of_sched hs hQ s _ a2 w2 hok.1.2 h2)
      · exact heavy_wpOp ho ha.2 (fun a2 w2 h2 => by rw [← hok.1.1.2]; exact wpAnyH_of_sched hs hQ s' _ a2 w2 hok.2 h2)
    · cases hok
  | .three l h s h' s' h'' s'', listed, a, w, hok, hw => by
    simp only [okSched] at hok
    split at hok
    · rename_i t ht
      simp only [Bool.and_eq_true, decide_eq_true_eq] at hok
      refine take_lights (fuel := lenSched s + 1) hs hQ _ w l listed t a ht hw (fun a' ha => ?_)
      refine wpAnyH_all hok.1.1.1.1 (by simp) (fun i hi => ?_)
      obtain ⟨o, ho⟩ := mem_ready_some (by rw [hok.1.1.1.1]; exact hi : i ∈ Region.ready md ops t)
      simp only [List.mem_cons, List.not_mem_nil, or_false] at hi
      rcases hi with rfl | rfl | rfl
      · exact heavy_wpOp ho ha.1 (fun a2 w2 h2 => wpAnyH_of_sched hs hQ s _ a2 w2 hok.1.1.2 h2)
      · exact heavy_wpOp ho ha.2.1 (fun a2 w2 h2 => by rw [← hok.1.1.1.2.1]; exact wpAnyH_of_sched hs hQ s' _ a2 w2 hok.1.2 h2)
      · exact heavy_wpOp ho ha.2.2 (fun a2 w2 h2 => by rw [← hok.1.1.1.2.2]; exact wpAnyH_of_sched hs hQ s'' _ a2 w2 hok.2 h2)
    · cases hok

/-- ONE SCHEDULE SERVES EVERY ORDER. What is known of the world at the region's head goes on as F. -/
theorem wp_region_sched {id : Nat} {a : Act} {w : World} (F : World → Prop) (s : Sched) (hm : P.follows .mixedOrders = true)
    (hok : (Region.noSelect ops && okSched .any ops s (Array.replicate ops.size false) && decide (lenSched s = ops.size)) = true)
    (hQ0 : ∀ c (a : Act) t v w, Q (.panic c) (Act.mk (a.tmps.setIfInBounds t v) a.defers) w → Q (.panic c) a w) (hF : F w.drew)
    (h : ∀ W, F W → wpSched P ops Q s a W) : (Code.region id ops true).wp P Q a w := by
  have hQ : ∀ c a d v w, Q (.panic c) (Act.put a d v) w → Q (.panic c) a w := fun c a d v w hq => by
    cases d with
    | none => exact hq
    | some t => exact hQ0 c a t v w hq
  simp only [Bool.and_eq_true, decide_eq_true_eq] at hok
  refine wp_region_held (S := fun _ => True) hm ?_
  have := wpAnyH_of_sched hok.1.1 hQ s _ a w.drew hok.1.2 (h _ hF)
  rw [hok.2] at this
  exact wpAnyH_weaken (S' := fun x => Below w.drew.heap.size w.drew x) (fun _ _ => trivial) _ _ _ _ this

theorem heavy_want {o : Oper} {K : Act → World → Prop} {a : Act} {w : World} (hw : Region.wanted o (yielded ops a.tmps) = true)
    (h : ∀ K' : Act → World → Prop, (∀ a' w', Below w.heap.size w w' → K a' w' → K' a' w') → o.wp P a w K' Q) : Heavy P ops Q o K a w := by
  unfold Heavy; rw [if_pos hw]; exact h _ (fun a' w' h1 h2 => ⟨h1, h2⟩)

theorem heavy_skip {o : Oper} {K : Act → World → Prop} {a : Act} {w : World} (hw : Region.wanted o (yielded ops a.tmps) = false) (h : K (a.put o.dst undef) w) : Heavy P ops Q o K a w := by
  unfold Heavy; rw [if_neg (by rw [hw]; exact Bool.false_ne_true)]; exact h

end

end Go.Proofs.Ytgibfagnfhgelaa
