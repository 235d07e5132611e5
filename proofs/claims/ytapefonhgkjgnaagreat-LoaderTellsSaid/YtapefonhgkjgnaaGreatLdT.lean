/- A region whose order is open, whose heavy operations may change a given set of blocks: one schedule serves every order; light operations whose run is known. Proved over any program. -/
import Derived.Test.YtapefonhgkjgnaaGreatLdI
import Derived.Test.YtapefonhgkjgnaaGreatLdS
import Derived.BigQuiet
set_option maxRecDepth 20000
namespace Go.Proofs.YtapefonhgkjgnaaGreat
open Go.RowKit

/-- The world x where only blocks of T have changed; else w. -/
noncomputable def plusT (T : Nat → Prop) (w x : World) : World := @ite _ (Turns T w x) (Classical.propDecidable _) x w

theorem plusT_below (T : Nat → Prop) (w x : World) : Turns T w (plusT T w x) := by
  unfold plusT
  split
  · assumption
  · exact Turns.refl _ _

theorem plusT_of {T : Nat → Prop} {w w' : World} (h : Turns T w w') : w' = plusT T w w' := by
  unfold plusT; rw [if_pos h]

theorem plusT_cell {T : Nat → Prop} {w : World} {a : Addr} {v : Value} (h : w.cell? a = some v) (ha : ¬ T a.block) (x : World) : (plusT T w x).cell? a = some v := (plusT_below T w x).cell ha h

@[go_sem] def OutT (T : Nat → Prop) (w w' : World) : Prop := ∃ x, w' = plusT T w x

theorem OutT.mk {T : Nat → Prop} {w w' : World} (h : Turns T w w') : OutT T w w' := ⟨w', plusT_of h⟩

section
variable {T : Nat → Prop} {P : Program} {ops : Array Oper} {Q : Exit → Act → World → Prop} {md : Region.Mode}

/-- An operation that may make memory, where it comes up. -/
def HeavyT (T : Nat → Prop) (P : Program) (ops : Array Oper) (Q : Exit → Act → World → Prop) (o : Oper) (K : Act → World → Prop) (a : Act) (w : World) : Prop :=
  if Region.wanted o (yielded ops a.tmps) = true then o.wp P a w (fun a' w' => Turns T w w' ∧ K a' w') Q else K (a.put o.dst undef) w

/-- The walk of a schedule. -/
def wpSchedT (T : Nat → Prop) (P : Program) (ops : Array Oper) (Q : Exit → Act → World → Prop) : Sched → Act → World → Prop
  | .done l, a, w => wpQuiet P ops (OutT T w) (fun a' => Q .normal a' w) (l.map (pick ops)) a
  | .one l h s, a, w => wpQuiet P ops (OutT T w) (fun a' => HeavyT T P ops Q (pick ops h) (wpSchedT T P ops Q s) a' w) (l.map (pick ops)) a
  | .two l h s h' s', a, w => wpQuiet P ops (OutT T w) (fun a' => HeavyT T P ops Q (pick ops h) (wpSchedT T P ops Q s) a' w ∧ HeavyT T P ops Q (pick ops h') (wpSchedT T P ops Q s') a' w) (l.map (pick ops)) a
  | .three l h s h' s' h'' s'', a, w => wpQuiet P ops (OutT T w) (fun a' => HeavyT T P ops Q (pick ops h) (wpSchedT T P ops Q s) a' w ∧ HeavyT T P ops Q (pick ops h') (wpSchedT T P ops Q s') a' w ∧ HeavyT T P ops Q (pick ops h'') (wpSchedT T P ops Q s'') a' w) (l.map (pick ops)) a

theorem yieldsIfT_of_yieldsIn {o : Oper} {a : Act} {w : World} {v : Value} (hl : lightOp o.op = true) (h : YieldsIn P ops (OutT T w) o v a) : YieldsIf P ops (fun w' => Turns T w w') o v a := by
  rcases h with ⟨hw, hv⟩ | h
  · refine .inl ⟨hw, fun w' hw' => ?_⟩
    have h1 := hv w' (OutT.mk hw')
    unfold Oper.quietAt at h1
    revert h1
    generalize hr : (execOp a.eval o).run P w' = r
    intro h1
    cases r with
    | ok n w2 =>
      obtain ⟨u, rfl⟩ := light_value hl hr
      simp only [Oper.quietUpon] at h1
      rw [h1.1, h1.2]
    | halt x w2 => simp only [Oper.quietUpon] at h1
  · exact .inr h

/-- The light operations, taken one after the other. -/
theorem take_lightsT (hs : Region.noSelect ops = true) (hQ : ∀ c a d v w, Q (.panic c) (Act.put a d v) w → Q (.panic c) a w) (K : Act → Prop) (w : World) :
    ∀ (l : List Nat) (listed t : Array Bool) (fuel : Nat) (a : Act), okLights md ops l listed = some t → wpQuiet P ops (OutT T w) K (l.map (pick ops)) a →
      (∀ a', K a' → wpAnyH P md ops Q (fun w' => Turns T w w') fuel t a' w) → wpAnyH P md ops Q (fun w' => Turns T w w') (fuel + l.length) listed a w
  | [], listed, t, fuel, a, hok, hw, hK => by
    simp only [okLights, Option.some.injEq] at hok
    subst hok
    exact hK a hw
  | i :: r, listed, t, fuel, a, hok, hw, hK => by
    simp only [okLights] at hok
    split at hok
    · rename_i hc
      simp only [Bool.and_eq_true] at hc
      obtain ⟨o, ho⟩ := mem_ready_some (by simpa using hc.1.1 : i ∈ Region.ready md ops listed)
      have hp := pick_of ho
      have hl : lightOp o.op = true := by rw [← hp]; exact hc.2
      have hq : qOp P ops (OutT T w) i (wpQuiet P ops (OutT T w) K (r.map (pick ops))) a := by
        unfold qOp; simp only [ho]
        have := hw
        simp only [List.map_cons, hp] at this
        exact this
      obtain ⟨v, hy, hk⟩ := yieldsIn_of_qOp ho hq
      exact wpAnyH_take ho hs hc.1.2 (by simpa using hc.1.1) (fun c a w => hQ c a o.dst v w) (yieldsIfT_of_yieldsIn hl hy) (Turns.refl _ _) (take_lightsT hs hQ K w r _ t fuel _ hok hk hK)
    · cases hok

theorem heavyT_wpOp {o : Oper} {h : Nat} {K : Act → World → Prop} {fuel : Nat} {t : Array Bool} {a : Act} {w : World} (ho : ops[h]? = some o) (hh : HeavyT T P ops Q (pick ops h) K a w)
    (hK : ∀ a' w', K a' w' → wpAnyH P md ops Q (fun x => Turns T w' x) fuel t a' w') :
    wpOp P ops Q h (fun a' w' => Turns T w w' ∧ wpAnyH P md ops Q (fun x => Turns T w x) fuel t a' w') a w := by
  rw [pick_of ho] at hh
  unfold HeavyT at hh
  unfold wpOp
  simp only [ho]
  split
  · rename_i hw
    rw [if_pos hw] at hh
    exact .inl (Oper.wp_mono (fun a' w' hb => ⟨hb.1, wpAnyH_weaken (fun x hx => hb.1.trans hx) fuel t a' w' (hK a' w' hb.2)⟩) hh)
  · rename_i hw
    rw [if_neg hw] at hh
    exact ⟨Turns.refl _ _, hK _ _ hh⟩

theorem wpAnyH_of_schedT (hs : Region.noSelect ops = true) (hQ : ∀ c a d v w, Q (.panic c) (Act.put a d v) w → Q (.panic c) a w) :
    ∀ (s : Sched) (listed : Array Bool) (a : Act) (w : World), okSched md ops s listed = true → wpSchedT T P ops Q s a w → wpAnyH P md ops Q (fun x => Turns T w x) (lenSched s) listed a w
  | .done l, listed, a, w, hok, hw => by
    simp only [okSched] at hok
    split at hok
    · rename_i t ht
      have := take_lightsT (fuel := 0) hs hQ _ w l listed t a ht hw (fun a' ha => ⟨by simpa using hok, ha⟩)
      rwa [Nat.zero_add] at this
    · cases hok
  | .one l h s, listed, a, w, hok, hw => by
    simp only [okSched] at hok
    split at hok
    · rename_i t ht
      simp only [Bool.and_eq_true, decide_eq_true_eq] at hok
      refine take_lightsT (fuel := lenSched s + 1) hs hQ _ w l listed t a ht hw (fun a' ha => ?_)
      refine wpAnyH_all hok.1 (by simp) (fun i hi => ?_)
      obtain ⟨o, ho⟩ := mem_ready_some (by rw [hok.1]; exact hi : i ∈ Region.ready md ops t)
      obtain rfl : i = h := by simpa using hi
      exact heavyT_wpOp ho ha (fun a2 w2 h2 => wpAnyH_of_schedT hs hQ s _ a2 w2 hok.2 h2)
    · cases hok
  | .two l h s h' s', listed, a, w, hok, hw => by
    simp only [okSched] at hok
    split at hok
    · rename_i t ht
      simp only [Bool.and_eq_true, decide_eq_true_eq] at hok
      refine take_lightsT (fuel := lenSched s + 1) hs hQ _ w l listed t a ht hw (fun a' ha => ?_)
      refine wpAnyH_all hok.1.1.1 (by simp) (fun i hi => ?_)
      obtain ⟨o, ho⟩ := mem_ready_some (by rw [hok.1.1.1]; exact hi : i ∈ Region.ready md ops t)
      simp only [List.mem_cons, List.not_mem_nil, or_false] at hi
      rcases hi with rfl | rfl
      · exact heavyT_wpOp ho ha.1 (fun a2 w2 h2 => wpAnyH_of_schedT hs hQ s _ a2 w2 hok.1.2 h2)
      · exact heavyT_wpOp ho ha.2 (fun a2 w2 h2 => by rw [← hok.1.1.2]; exact wpAnyH_of_schedT hs hQ s' _ a2 w2 hok.2 h2)
    · cases hok
  | .three l h s h' s' h'' s'', listed, a, w, hok, hw => by
    simp only [okSched] at hok
    split at hok
    · rename_i t ht
      simp only [Bool.and_eq_true, decide_eq_true_eq] at hok
      refine take_lightsT (fuel := lenSched s + 1) hs hQ _ w l listed t a ht hw (fun a' ha => ?_)
      refine wpAnyH_all hok.1.1.1.1 (by simp) (fun i hi => ?_)
      obtain ⟨o, ho⟩ := mem_ready_some (by rw [hok.1.1.1.1]; exact hi : i ∈ Region.ready md ops t)
      simp only [List.mem_cons, List.not_mem_nil, or_false] at hi
      rcases hi with rfl | rfl | rfl
      · exact heavyT_wpOp ho ha.1 (fun a2 w2 h2 => wpAnyH_of_schedT hs hQ s _ a2 w2 hok.1.1.2 h2)
      · exact heavyT_wpOp ho ha.2.1 (fun a2 w2 h2 => by rw [← hok.1.1.1.2.1]; exact wpAnyH_of_schedT hs hQ s' _ a2 w2 hok.1.2 h2)
      · exact heavyT_wpOp ho ha.2.2 (fun a2 w2 h2 => by rw [← hok.1.1.1.2.2]; exact wpAnyH_of_schedT hs hQ s'' _ a2 w2 hok.2 h2)
    · cases hok

/-- ONE SCHEDULE SERVES EVERY ORDER. What is known of the world at the region's head goes on as F. -/
theorem wp_region_schedT {id : Nat} {a : Act} {w : World} (F : World → Prop) (s : Sched) (hm : P.follows .mixedOrders = true)
    (hok : (Region.noSelect ops && okSched .any ops s (Array.replicate ops.size false) && decide (lenSched s = ops.size)) = true)
    (hQ0 : ∀ c (a : Act) t v w, Q (.panic c) (Act.mk (a.tmps.setIfInBounds t v) a.defers) w → Q (.panic c) a w) (hF : F w.drew)
    (h : ∀ W, F W → wpSchedT T P ops Q s a W) : (Code.region id ops true).wp P Q a w := by
  have hQ : ∀ c a d v w, Q (.panic c) (Act.put a d v) w → Q (.panic c) a w := fun c a d v w hq => by
    cases d with
    | none => exact hq
    | some t => exact hQ0 c a t v w hq
  simp only [Bool.and_eq_true, decide_eq_true_eq] at hok
  refine wp_region_held (S := fun _ => True) hm ?_
  have := wpAnyH_of_schedT hok.1.1 hQ s _ a w.drew hok.1.2 (h _ hF)
  rw [hok.2] at this
  exact wpAnyH_weaken (S' := fun x => Turns T w.drew x) (fun _ _ => trivial) _ _ _ _ this

theorem heavyT_want {o : Oper} {K : Act → World → Prop} {a : Act} {w : World} (hw : Region.wanted o (yielded ops a.tmps) = true)
    (h : ∀ K' : Act → World → Prop, (∀ a' w', Turns T w w' → K a' w' → K' a' w') → o.wp P a w K' Q) : HeavyT T P ops Q o K a w := by
  unfold HeavyT; rw [if_pos hw]; exact h _ (fun a' w' h1 h2 => ⟨h1, h2⟩)

theorem heavyT_skip {o : Oper} {K : Act → World → Prop} {a : Act} {w : World} (hw : Region.wanted o (yielded ops a.tmps) = false) (h : K (a.put o.dst undef) w) : HeavyT T P ops Q o K a w := by
  unfold HeavyT; rw [if_neg (by rw [hw]; exact Bool.false_ne_true)]; exact h

end


section
variable {P : Program} {ops : Array Oper} {Q : Exit → Act → World → Prop} {md : Region.Mode} {l n : Nat}
end

section
variable {P : Program} {ops : Array Oper} {rest : List Oper} {o : Oper} {a : Act} {C : World → Prop} {Q : Act → Prop}
theorem wpQuiet_run (hw : Region.wanted o (yielded ops a.tmps) = true) {v : Value} (hrun : ∀ w', C w' → (execOp a.eval o).run P w' = .ok (.value v) w') (h : wpQuiet P ops C Q rest (a.put o.dst v)) : wpQuiet P ops C Q (o :: rest) a :=
  wpQuiet_step fun K hK => by
    rw [if_pos hw]
    exact ⟨v, fun w' hw' => by
      unfold Oper.quietAt
      rw [hrun w' hw']
      exact ⟨rfl, rfl⟩, hK _ h⟩
theorem wpQuiet_conv (hw : Region.wanted o (yielded ops a.tmps) = true) (src dst : TypeId) (x : Operand) (ho : o.op = .convert src dst x) {u v : Value} (hx : a.eval x = u) (hrun : ∀ w', C w' → (Go.convert src dst u).run P w' = .ok v w')
    (h : wpQuiet P ops C Q rest (a.put o.dst v)) : wpQuiet P ops C Q (o :: rest) a :=
  wpQuiet_run hw (fun w' hw' => by simp [execOp, ho, hx, hrun w' hw', Result.andThen]) h
end


section
variable {P : Program} {ops : Array Oper} {rest : List Oper} {o : Oper} {a : Act} {w : World} {C : World → Prop} {Qa : Act → Prop} {K : Act → World → Prop} {Q : Exit → Act → World → Prop}
theorem wpQuiet_loadN (hw : Region.wanted o (yielded ops a.tmps) = true) (t : TypeId) (p : Operand) (ho : o.op = .load t p) {b q : Nat} (hp : a.eval p = .pointer (some ⟨b, q, none⟩)) {v : Value} (hrun : ∀ w', C w' → (loadVar t ⟨b, q, none⟩).run P w' = .ok v w')
    (h : wpQuiet P ops C Qa rest (a.put o.dst v)) : wpQuiet P ops C Qa (o :: rest) a :=
  wpQuiet_run hw (fun w' hw' => by simp [execOp, ho, hp, Instr.loadAt, Instr.sureAddr, hrun w' hw', Result.andThen]) h
/-- A store of n cells, one operation. -/
theorem wp_storeAt (hd : o.dst = none) (t : TypeId) (p x : Operand) (ho : o.op = .store t p x) {b q n : Nat} (hp : a.eval p = .pointer (some ⟨b, q, none⟩)) {v u : Nat → Value} (hx : a.eval x = aggN n v) (h0 : Blk w b q n u)
    (h1 : ∀ j, j < n → (v j).oneCell' = true) (hi : (P.info? t).map (·.size) = some n) (h : ∀ W2, BlkSet b q n v w W2 → K a W2) : o.wp P a w K Q := by
  obtain ⟨W2, hr, hset⟩ := run_storeN (P := P) h0 h1 hi
  unfold Oper.wp
  simp [execOp, ho, hp, hx, Instr.storeAt, Instr.sureAddr, hr, Result.andThen]
  have e : a.put o.dst undef = a := by rw [hd]; rfl
  show K (a.put o.dst undef) W2
  rw [e]
  exact h W2 hset
/-- A box of n cells is made, one operation. -/
theorem wp_allocAt (t : TypeId) (ho : o.op = .alloc t) {n : Nat} {v : Nat → Value} (hz : (P.info? t).map (·.zero) = some (some (aggN n v)))
    (h : ∀ W, Blk W w.heap.size 0 n v → Below w.heap.size w W → W.heap.size = w.heap.size + 1 → K (a.put o.dst (.pointer (some ⟨w.heap.size, 0, none⟩))) W) : o.wp P a w K Q := by
  have hr := run_allocN (P := P) (w := w) hz
  unfold Oper.wp
  simp [execOp, ho, hr, Result.andThen]
  exact h (w.alloc (.cells (aggN n v).cells t)) (blk_new w n v _ t rfl) ((Below.refl _ w).alloc (Nat.le_refl _) _) (World.size_alloc _ _)
end
theorem Blk.plusT {W : World} {b o n : Nat} {v : Nat → Value} {T : Nat → Prop} (h : Blk W b o n v) (hb : ¬ T b) (x : World) : Blk (plusT T W x) b o n v := h.turn (plusT_below T W x) hb
theorem loadN_T {P : Program} {W : World} {b o n : Nat} {v : Nat → Value} {T : Nat → Prop} {t : TypeId} {r : Value} (h : Blk W b o n v) (hb : ¬ T b) (hl : ∀ X, Blk X b o n v → (loadVar t ⟨b, o, none⟩).run P X = .ok r X) : ∀ w', OutT T W w' → (loadVar t ⟨b, o, none⟩).run P w' = .ok r w' := by
  rintro w' ⟨x, rfl⟩
  exact hl _ (h.plusT hb x)
theorem loadN_B {P : Program} {W : World} {b o n : Nat} {v : Nat → Value} {B : Nat} {t : TypeId} {r : Value} (h : Blk W b o n v) (hb : b < B) (hl : ∀ X, Blk X b o n v → (loadVar t ⟨b, o, none⟩).run P X = .ok r X) : ∀ w', OutB B W w' → (loadVar t ⟨b, o, none⟩).run P w' = .ok r w' := by
  rintro w' ⟨x, rfl⟩
  exact hl _ (h.low (plusB_below B W x) hb)

def NormQ (R : Act → World → Prop) : Exit → Act → World → Prop
  | .normal, a, w => R a w
  | _, _, _ => False
theorem NormQ.mk {R : Act → World → Prop} {a : Act} {w : World} (h : R a w) : NormQ R .normal a w := h
/-- A cut that says nothing of the frame where the code panics. -/
theorem wp_cutN {P : Program} {c : Code} {Q : Exit → Act → World → Prop} {a : Act} {w : World} (R : Act → World → Prop) (h1 : c.wp P (NormQ R) a w) (h2 : ∀ a' w', R a' w' → Q .normal a' w') : c.wp P Q a w :=
  wp_mono h1 fun e a' w' h => by cases e <;> first | exact h2 _ _ h | exact h.elim
theorem ex_frame {p : (Nat → Value) → Act} {a : Act} (h : a = p (fun i => a.tmps.getD i undef)) : ∃ u, a = p u := ⟨_, h⟩

end Go.Proofs.YtapefonhgkjgnaaGreat
