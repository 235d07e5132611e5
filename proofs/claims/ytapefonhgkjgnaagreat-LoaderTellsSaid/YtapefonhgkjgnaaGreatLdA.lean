/- Texts of the layers below, under one roof: DigP. -/
import Derived.OrdersHeld
import Derived.Deep.Quiet
import Derived.Below
import Derived.Test.YtapefonhgkjgnaaGreatProg
import Derived.WalkKit
import Derived.WalkSpells
import Derived.WalkLawsBesides
import Derived.Deep.Draws
import Derived.Handy
import Derived.LoopN
import Derived.LoopTactic
import Derived.Lib.Hide
import Derived.Deep.OwnRows
import Derived.Maps.AppendAt
import Derived.Laws.AppendOwnNone
import Derived.ArgAppend
import Derived.Laws.OwnMore
namespace Go.Proofs.YtapefonhgkjgnaaGreat

section
open Go.RowKit

theorem later {w w' : World} (hb : Below w.heap.size w w') {a : Addr} {v : Value} (h : w.cell? a = some v) : w'.cell? a = some v := (hb.cell (World.block_lt_of_cell? w a h)).trans h

/-- The world x where it has grown out of w; else w. -/
noncomputable def plusW (w x : World) : World := @ite _ (Below w.heap.size w x) (Classical.propDecidable _) x w

theorem plusW_below (w x : World) : Below w.heap.size w (plusW w x) := by
  unfold plusW
  split
  · assumption
  · exact Below.refl _ _

theorem plusW_of {w w' : World} (h : Below w.heap.size w w') : w' = plusW w w' := by
  unfold plusW; rw [if_pos h]

theorem plusW_cell {w : World} {a : Addr} {v : Value} (h : w.cell? a = some v) (x : World) : (plusW w x).cell? a = some v := later (plusW_below w x) h

@[go_sem] def OutOf (w w' : World) : Prop := ∃ x, w' = plusW w x

theorem OutOf.below {w w' : World} (h : OutOf w w') : Below w.heap.size w w' := by obtain ⟨x, rfl⟩ := h; exact plusW_below w x
theorem OutOf.mk {w w' : World} (h : Below w.heap.size w w') : OutOf w w' := ⟨w', plusW_of h⟩

section
variable {P : Program} {ops : Array Oper} {Q : Exit → Act → World → Prop} {md : Region.Mode}

/-- An operation that may make memory, where it comes up. -/
def Heavy (P : Program) (ops : Array Oper) (Q : Exit → Act → World → Prop) (o : Oper) (K : Act → World → Prop) (a : Act) (w : World) : Prop :=
  if Region.wanted o (yielded ops a.tmps) = true then o.wp P a w (fun a' w' => Below w.heap.size w w' ∧ K a' w') Q else K (a.put o.dst undef) w

/-- A schedule: light operations, then a heavy one (or whichever of two or three comes up), and so on. -/
inductive Sched where
  | done (l : List Nat)
  | one (l : List Nat) (h : Nat) (s : Sched)
  | two (l : List Nat) (h : Nat) (s : Sched) (h' : Nat) (s' : Sched)
  | three (l : List Nat) (h : Nat) (s : Sched) (h' : Nat) (s' : Sched) (h'' : Nat) (s'' : Sched)

def pick (ops : Array Oper) (i : Nat) : Oper := ops.getD i default

/-- The walk of a schedule. -/
def wpSched (P : Program) (ops : Array Oper) (Q : Exit → Act → World → Prop) : Sched → Act → World → Prop
  | .done l, a, w => wpQuiet P ops (OutOf w) (fun a' => Q .normal a' w) (l.map (pick ops)) a
  | .one l h s, a, w => wpQuiet P ops (OutOf w) (fun a' => Heavy P ops Q (pick ops h) (wpSched P ops Q s) a' w) (l.map (pick ops)) a
  | .two l h s h' s', a, w => wpQuiet P ops (OutOf w) (fun a' => Heavy P ops Q (pick ops h) (wpSched P ops Q s) a' w ∧ Heavy P ops Q (pick ops h') (wpSched P ops Q s') a' w) (l.map (pick ops)) a
  | .three l h s h' s' h'' s'', a, w => wpQuiet P ops (OutOf w) (fun a' => Heavy P ops Q (pick ops h) (wpSched P ops Q s) a' w ∧ Heavy P ops Q (pick ops h') (wpSched P ops Q s') a' w ∧ Heavy P ops Q (pick ops h'') (wpSched P ops Q s'') a' w) (l.map (pick ops)) a

/-- An operation that yields a value or does not go through. -/
def lightOp : Op → Bool
  | .nilCheck _ | .move _ | .assign _ | .pick .. | .load .. | .binOp .. | .unOp .. | .convert .. | .slice .. | .fieldAddr .. | .field .. | .indexAddr .. | .index .. | .extract .. | .build .. => true
  | .call { callee := .builtin .len, .. } | .call { callee := .builtin .cap, .. } | .call { callee := .builtin .min, .. } | .call { callee := .builtin .max, .. } => true
  | _ => false

theorem mem_ready_some {listed : Array Bool} {i : Nat} (h : i ∈ Region.ready md ops listed) : ∃ o, ops[i]? = some o := by
  obtain ⟨_, o, ho, _⟩ := mem_ready.1 h
  exact ⟨o, ho⟩

theorem pick_of {i : Nat} {o : Oper} (h : ops[i]? = some o) : pick ops i = o := by
  unfold pick; simp [Array.getD_eq_getD_getElem?, h]

def lenSched : Sched → Nat
  | .done l => l.length
  | .one l _ s => (lenSched s + 1) + l.length
  | .two l _ s _ _ => (lenSched s + 1) + l.length
  | .three l _ s _ _ _ _ => (lenSched s + 1) + l.length

def okLights (md : Region.Mode) (ops : Array Oper) : List Nat → Array Bool → Option (Array Bool)
  | [], listed => some listed
  | i :: r, listed => if (Region.ready md ops listed).contains i && Region.free md ops listed i && lightOp (pick ops i).op then okLights md ops r (listed.setIfInBounds i true) else none

def okSched (md : Region.Mode) (ops : Array Oper) : Sched → Array Bool → Bool
  | .done l, listed => match okLights md ops l listed with
    | some t => (Region.ready md ops t).isEmpty
    | none => false
  | .one l h s, listed => match okLights md ops l listed with
    | some t => decide (Region.ready md ops t = [h]) && okSched md ops s (t.setIfInBounds h true)
    | none => false
  | .two l h s h' s', listed => match okLights md ops l listed with
    | some t => decide (Region.ready md ops t = [h, h'] ∧ lenSched s' = lenSched s) && okSched md ops s (t.setIfInBounds h true) && okSched md ops s' (t.setIfInBounds h' true)
    | none => false
  | .three l h s h' s' h'' s'', listed => match okLights md ops l listed with
    | some t => decide (Region.ready md ops t = [h, h', h''] ∧ lenSched s' = lenSched s ∧ lenSched s'' = lenSched s) && okSched md ops s (t.setIfInBounds h true) && okSched md ops s' (t.setIfInBounds h' true) && okSched md ops s'' (t.setIfInBounds h'' true)
    | none => false


theorem wpAnyH_weaken {S S' : World → Prop} (h : ∀ w, S' w → S w) : ∀ (fuel : Nat) (listed : Array Bool) (a : Act) (w : World), wpAnyH P md ops Q S' fuel listed a w → wpAnyH P md ops Q S fuel listed a w
  | 0, _, _, _, hh => hh
  | fuel + 1, _, _, _, hh => ⟨hh.1, fun i hi => wpOp_mono (fun a' w' h' => ⟨h _ h'.1, wpAnyH_weaken h fuel _ a' w' h'.2⟩) (hh.2 i hi)⟩

theorem run_value {α : Type} (s : Sem α) (f : α → Value) (w w' : World) (n : Next) (h : (do pure (Next.value (f (← s))) : Sem Next).run P w = .ok n w') : ∃ u, n = .value u := by
  rw [Sem.run_bind] at h
  cases hs : s.run P w with
  | ok u w2 => rw [hs] at h; simp [Result.andThen] at h; exact ⟨_, h.1.symm⟩
  | halt x w2 => rw [hs] at h; simp [Result.andThen] at h

theorem run_then {r : Result Value} {n : Next} {w' : World} (h : (r.andThen fun a w' => Result.ok (Next.value a) w') = .ok n w') : ∃ u, n = .value u := by
  cases r with
  | ok u w2 => simp [Result.andThen] at h; exact ⟨_, h.1.symm⟩
  | halt x w2 => simp [Result.andThen] at h

theorem run_bind_ok {α β : Type} {s : Sem α} {f : α → Sem β} {w w' : World} {n : β} (h : (s >>= f).run P w = .ok n w') : ∃ a w1, (f a).run P w1 = .ok n w' := by
  rw [Sem.run_bind] at h
  cases hs : s.run P w with
  | ok u w2 => rw [hs] at h; exact ⟨u, w2, h⟩
  | halt x w2 => rw [hs] at h; simp [Result.andThen] at h

theorem light_value {ρ : Operand → Value} {o : Oper} (hl : lightOp o.op = true) {w w' : World} {n : Next} (h : (execOp ρ o).run P w = .ok n w') : ∃ u, n = .value u := by
  unfold execOp at h
  revert hl h
  cases o.op <;> intro hl h <;> first | cases hl | skip
  case call c =>
    obtain ⟨callee, args, argTypes⟩ := c
    cases callee with
    | builtin b =>
      cases b <;> first | (exact absurd hl Bool.false_ne_true) | (simp only [resolve, invoke, builtin, Sem.run_bind, Sem.run_pure, Result.andThen_ok] at h; exact run_then h)
    | invoke recv name => cases hl
    | value f => cases hl
  case nilCheck x =>
    dsimp only at h
    split at h
    · simp [runtimePanic] at h
    · simp [runtimePanic] at h
    · simp [runtimePanic] at h
    · split at h
      · simp [runtimePanic] at h
      · obtain ⟨_, w1, h⟩ := run_bind_ok h
        obtain ⟨_, w2, h⟩ := run_bind_ok h
        split at h
        · obtain ⟨_, w3, h⟩ := run_bind_ok h
          simp at h; exact ⟨_, h.1.symm⟩
        · simp at h; exact ⟨_, h.1.symm⟩
      · simp at h; exact ⟨_, h.1.symm⟩
    · simp at h; exact ⟨_, h.1.symm⟩
  all_goals first
    | (exact run_value _ (fun x => x) _ _ _ h)
    | (simp at h; exact ⟨_, h.1.symm⟩)
    | (exact run_value _ (fun b : Bool => if b = true then _ else _) _ _ _ h)

theorem yieldsIf_of_yieldsIn {o : Oper} {a : Act} {w : World} {v : Value} (hl : lightOp o.op = true) (h : YieldsIn P ops (OutOf w) o v a) : YieldsIf P ops (fun w' => Below w.heap.size w w') o v a := by
  rcases h with ⟨hw, hv⟩ | h
  · refine .inl ⟨hw, fun w' hw' => ?_⟩
    have h1 := hv w' (OutOf.mk hw')
    unfold Oper.quietAt at h1
    revert h1
    generalize hr : (execOp a.eval o).run P w' = r
    intro h1
    cases r with
    | ok n w2 =>
      obtain ⟨u, rfl⟩ := light_value hl hr
      simp only [Oper.quietUpon] at h1
      rw [h1.1, h1.2]
    | halt x w2 => simp only [Oper.quietUpon] at h1
  · exact .inr h

/-- The light operations, taken one after the other. -/
theorem take_lights (hs : Region.noSelect ops = true) (hQ : ∀ c a d v w, Q (.panic c) (Act.put a d v) w → Q (.panic c) a w) (K : Act → Prop) (w : World) :
    ∀ (l : List Nat) (listed t : Array Bool) (fuel : Nat) (a : Act), okLights md ops l listed = some t → wpQuiet P ops (OutOf w) K (l.map (pick ops)) a →
      (∀ a', K a' → wpAnyH P md ops Q (fun w' => Below w.heap.size w w') fuel t a' w) → wpAnyH P md ops Q (fun w' => Below w.heap.size w w') (fuel + l.length) listed a w
  | [], listed, t, fuel, a, hok, hw, hK => by
    simp only [okLights, Option.some.injEq] at hok
    subst hok
    exact hK a hw
  | i :: r, listed, t, fuel, a, hok, hw, hK => by
    simp only [okLights] at hok
    split at hok
    · rename_i hc
      simp only [Bool.and_eq_true] at hc
      obtain ⟨o, ho⟩ := mem_ready_some (by simpa using hc.1.1 : i ∈ Region.ready md ops listed)
      have hp := pick_of ho
      have hl : lightOp o.op = true := by rw [← hp]; exact hc.2
      have hq : qOp P ops (OutOf w) i (wpQuiet P ops (OutOf w) K (r.map (pick ops))) a := by
        unfold qOp; simp only [ho]
        have := hw
        simp only [List.map_cons, hp] at this
        exact this
      obtain ⟨v, hy, hk⟩ := yieldsIn_of_qOp ho hq
      exact wpAnyH_take ho hs hc.1.2 (by simpa using hc.1.1) (fun c a w => hQ c a o.dst v w) (yieldsIf_of_yieldsIn hl hy) (Below.refl _ _) (take_lights hs hQ K w r _ t fuel _ hok hk hK)
    · cases hok

theorem heavy_wpOp {o : Oper} {h : Nat} {K : Act → World → Prop} {fuel : Nat} {t : Array Bool} {a : Act} {w : World} (ho : ops[h]? = some o) (hh : Heavy P ops Q (pick ops h) K a w)
    (hK : ∀ a' w', K a' w' → wpAnyH P md ops Q (fun x => Below w'.heap.size w' x) fuel t a' w') :
    wpOp P ops Q h (fun a' w' => Below w.heap.size w w' ∧ wpAnyH P md ops Q (fun x => Below w.heap.size w x) fuel t a' w') a w := by
  rw [pick_of ho] at hh
  unfold Heavy at hh
  unfold wpOp
  simp only [ho]
  split
  · rename_i hw
    rw [if_pos hw] at hh
    exact .inl (Oper.wp_mono (fun a' w' hb => ⟨hb.1, wpAnyH_weaken (fun x hx => hb.1.trans (hx.mono hb.1.size)) fuel t a' w' (hK a' w' hb.2)⟩) hh)
  · rename_i hw
    rw [if_neg hw] at hh
    exact ⟨Below.refl _ _, hK _ _ hh⟩

theorem wpAnyH_of_sched (hs : Region.noSelect ops = true) (hQ : ∀ c a d v w, Q (.panic c) (Act.put a d v) w → Q (.panic c) a w) :
    ∀ (s : Sched) (listed : Array Bool) (a : Act) (w : World), okSched md ops s listed = true → wpSched P ops Q s a w → wpAnyH P md ops Q (fun x => Below w.heap.size w x) (lenSched s) listed a w
  | .done l, listed, a, w, hok, hw => by
    simp only [okSched] at hok
    split at hok
    · rename_i t ht
      have := take_lights (fuel := 0) hs hQ _ w l listed t a ht hw (fun a' ha => ⟨by simpa using hok, ha⟩)
      rwa [Nat.zero_add] at this
    · cases hok
  | .one l h s, listed, a, w, hok, hw => by
    simp only [okSched] at hok
    split at hok
    · rename_i t ht
      simp only [Bool.and_eq_true, decide_eq_true_eq] at hok
      refine take_lights (fuel := lenSched s + 1) hs hQ _ w l listed t a ht hw (fun a' ha => ?_)
      refine wpAnyH_all hok.1 (by simp) (fun i hi => ?_)
      obtain ⟨o, ho⟩ := mem_ready_some (by rw [hok.1]; exact hi : i ∈ Region.ready md ops t)
      obtain rfl : i = h := by simpa using hi
      exact heavy_wpOp ho ha (fun a2 w2 h2 => wpAnyH_of_sched hs hQ s _ a2 w2 hok.2 h2)
    · cases hok
  | .two l h s h' s', listed, a, w, hok, hw => by
    simp only [okSched] at hok
    split at hok
    · rename_i t ht
      simp only [Bool.and_eq_true, decide_eq_true_eq] at hok
      refine take_lights (fuel := lenSched s + 1) hs hQ _ w l listed t a ht hw (fun a' ha => ?_)
      refine wpAnyH_all hok.1.1.1 (by simp) (fun i hi => ?_)
      obtain ⟨o, ho⟩ := mem_ready_some (by rw [hok.1.1.1]; exact hi : i ∈ Region.ready md ops t)
      simp only [List.mem_cons, List.not_mem_nil, or_false] at hi
      rcases hi with rfl | rfl
      · exact heavy_wpOp ho ha.1 (fun a2 w2 h2 => wpAnyH_of_sched hs hQ s _ a2 w2 hok.1.2 h2)
      · exact heavy_wpOp ho ha.2 (fun a2 w2 h2 => by rw [← hok.1.1.2]; exact wpAnyH_of_sched hs hQ s' _ a2 w2 hok.2 h2)
    · cases hok
  | .three l h s h' s' h'' s'', listed, a, w, hok, hw => by
    simp only [okSched] at hok
    split at hok
    · rename_i t ht
      simp only [Bool.and_eq_true, decide_eq_true_eq] at hok
      refine take_lights (fuel := lenSched s + 1) hs hQ _ w l listed t a ht hw (fun a' ha => ?_)
      refine wpAnyH_all hok.1.1.1.1 (by simp) (fun i hi => ?_)
      obtain ⟨o, ho⟩ := mem_ready_some (by rw [hok.1.1.1.1]; exact hi : i ∈ Region.ready md ops t)
      simp only [List.mem_cons, List.not_mem_nil, or_false] at hi
      rcases hi with rfl | rfl | rfl
      · exact heavy_wpOp ho ha.1 (fun a2 w2 h2 => wpAnyH_of_sched hs hQ s _ a2 w2 hok.1.1.2 h2)
      · exact heavy_wpOp ho ha.2.1 (fun a2 w2 h2 => by rw [← hok.1.1.1.2.1]; exact wpAnyH_of_sched hs hQ s' _ a2 w2 hok.1.2 h2)
      · exact heavy_wpOp ho ha.2.2 (fun a2 w2 h2 => by rw [← hok.1.1.1.2.2]; exact wpAnyH_of_sched hs hQ s'' _ a2 w2 hok.2 h2)
    · cases hok

/-- ONE SCHEDULE SERVES EVERY ORDER. What is known of the world at the region's head goes on as F. -/
theorem wp_region_sched {id : Nat} {a : Act} {w : World} (F : World → Prop) (s : Sched) (hm : P.follows .mixedOrders = true)
    (hok : (Region.noSelect ops && okSched .any ops s (Array.replicate ops.size false) && decide (lenSched s = ops.size)) = true)
    (hQ0 : ∀ c (a : Act) t v w, Q (.panic c) (Act.mk (a.tmps.setIfInBounds t v) a.defers) w → Q (.panic c) a w) (hF : F w.drew)
    (h : ∀ W, F W → wpSched P ops Q s a W) : (Code.region id ops true).wp P Q a w := by
  have hQ : ∀ c a d v w, Q (.panic c) (Act.put a d v) w → Q (.panic c) a w := fun c a d v w hq => by
    cases d with
    | none => exact hq
    | some t => exact hQ0 c a t v w hq
  simp only [Bool.and_eq_true, decide_eq_true_eq] at hok
  refine wp_region_held (S := fun _ => True) hm ?_
  have := wpAnyH_of_sched hok.1.1 hQ s _ a w.drew hok.1.2 (h _ hF)
  rw [hok.2] at this
  exact wpAnyH_weaken (S' := fun x => Below w.drew.heap.size w.drew x) (fun _ _ => trivial) _ _ _ _ this

theorem heavy_want {o : Oper} {K : Act → World → Prop} {a : Act} {w : World} (hw : Region.wanted o (yielded ops a.tmps) = true)
    (h : ∀ K' : Act → World → Prop, (∀ a' w', Below w.heap.size w w' → K a' w' → K' a' w') → o.wp P a w K' Q) : Heavy P ops Q o K a w := by
  unfold Heavy; rw [if_pos hw]; exact h _ (fun a' w' h1 h2 => ⟨h1, h2⟩)

theorem heavy_skip {o : Oper} {K : Act → World → Prop} {a : Act} {w : World} (hw : Region.wanted o (yielded ops a.tmps) = false) (h : K (a.put o.dst undef) w) : Heavy P ops Q o K a w := by
  unfold Heavy; rw [if_neg (by rw [hw]; exact Bool.false_ne_true)]; exact h

end
end

section
open Go.RowKit

theorem bcell {W w1 : World} (hb : Below W.heap.size W w1) : (∀ b o, b < W.heap.size → w1.cell? ⟨b, o, none⟩ = W.cell? ⟨b, o, none⟩) ∧ (∀ b o, b < W.heap.size → w1.frozen? ⟨b, o, none⟩ = W.frozen? ⟨b, o, none⟩) :=
  ⟨fun b o h => hb.cell (p := ⟨b, o, none⟩) h, fun b o h => hb.frozen (p := ⟨b, o, none⟩) h⟩

def encB (b : UInt8) : Value := .int .u8 (b.toNat : Int)

/-- The slice that begins at x holds these bytes. -/
def Bts (w : World) (x : Option Addr) (l : List UInt8) : Prop :=
  l = [] ∨ ∃ b o, x = some ⟨b, o, none⟩ ∧ ∀ i, i < l.length → w.cell? ⟨b, o + i, none⟩ = some (encB (l.getD i 0))

theorem Bts.later {w w' : World} {x : Option Addr} {l : List UInt8} (h : Bts w x l) (hb : Below w.heap.size w w') : Bts w' x l := by
  rcases h with h | ⟨b, o, hx, hc⟩
  · exact .inl h
  · exact .inr ⟨b, o, hx, fun i hi => Go.Proofs.YtapefonhgkjgnaaGreat.later hb (hc i hi)⟩

theorem Bts.nil (w : World) (x : Option Addr) : Bts w x [] := .inl rfl

theorem encB_oneCell (b : UInt8) : (encB b).oneCell' = true := rfl

theorem run_conv {P : Program} {w : World} {src e dst : TypeId} (hs : P.underlying src = some (.slice e)) (he : P.underlying e = some (.int .u8)) (hd : P.underlying dst = some .string)
    {x : Option Addr} {l : List UInt8} (h : Bts w x l) (cap : Nat) : (convert src dst (.slice x l.length cap)).run P w = .ok (.string ⟨l.toArray⟩) w := by
  cases x with
  | none =>
    have hl : l = [] := by
      rcases h with h | ⟨b, o, hx, _⟩
      · exact h
      · cases hx
    subst hl
    rw [run_convert_bytes_nil w src e hs he _ _ dst hd]
    rfl
  | some a =>
    rw [run_convert_bytes_string w src dst e _ _ _ hs he hd]
    have hl : (loadCells a l.length).run P w = .ok ((l.map fun b => (b.toNat : Int)).map (Value.int .u8)).toArray w := by
      have := run_loadCells_list (P := P) w a ((l.map fun b => (b.toNat : Int)).map (Value.int .u8)) (fun j v hj => by
        rcases h with h | ⟨b, o, hx, hc⟩
        · subst h; simp at hj
        · cases hx
          have hjl : j < l.length := by
            rcases Nat.lt_or_ge j l.length with h | h
            · exact h
            · simp [List.getElem?_eq_none h] at hj
          have hplain : (⟨b, o, none⟩ : Addr).add j = ⟨b, o + j, none⟩ := by unfold Addr.add; split <;> simp_all
          rw [hplain, hc j hjl]
          simp [List.getElem?_eq_getElem hjl] at hj
          subst hj
          simp [encB, List.getElem?_eq_getElem hjl])
      simpa using this
    rw [run_bytesToString w a l.length cap _ hl, foldl_push_bytes]
    have : (List.map (fun n => UInt8.ofNat n.toNat) (List.map (fun b => (b.toNat : Int)) l)) = l := by
      rw [List.map_map]; conv => rhs; rw [← List.map_id l]
      apply List.map_congr_left
      intro b _
      simp
    rw [this]
    simp [ByteArray.empty, ByteArray.emptyWithCapacity]
    rfl

/-- A row that the call owns is a slice of these bytes. -/
theorem Bts.of_owns {w : World} {base : Nat} {e : TypeId} {x : Option Addr} {n cap : Nat} {l : List UInt8} (h : w.ownsRow base e 1 (.slice x n cap) n (l.map encB)) : n = l.length ∧ Bts w x l := by
  have hlen : n = l.length := by have := h.1; simpa using this.symm
  refine ⟨hlen, ?_⟩
  rcases h.2 with ⟨hv, h0⟩ | ⟨g, cap', cur, hv, _, hg, hnc, _, hcs, htake⟩
  · left; exact List.eq_nil_of_length_eq_zero (by omega)
  · right
    simp only [Value.slice.injEq] at hv
    refine ⟨g, 0, hv.1, fun i hi => ?_⟩
    have h1 := h.cells (g := g) (by rw [hv.1]; rfl) i (encB (l.getD i 0)) (by simp [List.getElem?_eq_getElem hi])
    have hplain : (⟨g, 0, none⟩ : Addr).add i = ⟨g, 0 + i, none⟩ := by unfold Addr.add; split <;> simp_all
    rw [hplain] at h1
    exact h1
end

namespace Dig
abbrev D := BitVec 64

def ofB (v : UInt8) : D := v.toBitVec.setWidth 64
def mul1 (x : D) : D := x + x <<< 28
def rot (x : D) : D := x <<< 20 ||| x >>> 44
def step (s : D) (v : UInt8) : D := rot (mul1 (s ^^^ ofB v))
def addL (s : D) (l : List UInt8) : D := l.foldl step s
def mul2 (x : D) : D := x + x <<< 36
def fold2 (x : D) : D := x ^^^ x >>> 28
def half (d : D) : D := fold2 (mul2 d)
def fin (s : D) (n : Int) : D := half (half (s ^^^ BitVec.ofInt 64 n))
def start : D := 0x6E6163656C6C6521#64
def ofL (l : List UInt8) : D := fin (addL start l) l.length
/-- Byte i of a number. -/
def byteAt (d : D) (i : Nat) : UInt8 := ⟨(d >>> (8 * i)).setWidth 8⟩
def bytes (d : D) : List UInt8 := (List.range 8).map (byteAt d)
def pair (a b : D) : D := ofL (bytes a ++ bytes b)

theorem addL_nil (s : D) : addL s [] = s := rfl
theorem addL_append (s : D) (l m : List UInt8) : addL s (l ++ m) = addL (addL s l) m := List.foldl_append ..
theorem addL_snoc (s : D) (l : List UInt8) (v : UInt8) : addL s (l ++ [v]) = step (addL s l) v := by rw [addL_append]; rfl
theorem addL_cons (s : D) (v : UInt8) (l : List UInt8) : addL s (v :: l) = addL (step s v) l := rfl
theorem bytes_length (d : D) : (bytes d).length = 8 := by simp [bytes]

theorem shl_mul (x : D) (n : Nat) : x <<< n = x * BitVec.twoPow 64 n := BitVec.shiftLeft_eq_mul_twoPow x n

theorem mul1_eq (x : D) : mul1 x = x * 0x10000001#64 := by
  unfold mul1
  rw [shl_mul]
  have : x * 0x10000001#64 = x * (1#64 + BitVec.twoPow 64 28) := by rfl
  rw [this, BitVec.mul_add, BitVec.mul_one]

/-- Undoing the multiplication. -/
def un1 (y : D) : D := y - y <<< 28 + y <<< 56

theorem un1_eq (y : D) : un1 y = y * 0x00FFFFFFF0000001#64 := by
  unfold un1
  rw [shl_mul, shl_mul, BitVec.sub_eq_add_neg]
  have e : y * 0x00FFFFFFF0000001#64 = y * (1#64 + -(BitVec.twoPow 64 28) + BitVec.twoPow 64 56) := by rfl
  rw [e, BitVec.mul_add, BitVec.mul_add, BitVec.mul_one, BitVec.mul_neg]

theorem mul1_un1 (y : D) : mul1 (un1 y) = y := by
  rw [mul1_eq, un1_eq, BitVec.mul_assoc]
  have : 0x00FFFFFFF0000001#64 * 0x10000001#64 = 1#64 := by decide
  rw [this, BitVec.mul_one]

theorem un1_mul1 (y : D) : un1 (mul1 y) = y := by
  rw [mul1_eq, un1_eq, BitVec.mul_assoc]
  have : 0x10000001#64 * 0x00FFFFFFF0000001#64 = 1#64 := by decide
  rw [this, BitVec.mul_one]

theorem mul1_inj {x y : D} (h : mul1 x = mul1 y) : x = y := by rw [← un1_mul1 x, h, un1_mul1]

theorem mul2_inj {x y : D} (h : mul2 x = mul2 y) : x = y := by
  have e : ∀ x, mul2 x = x * 0x1000000001#64 := by
    intro x
    unfold mul2
    rw [shl_mul]
    have : x * 0x1000000001#64 = x * (1#64 + BitVec.twoPow 64 36) := by rfl
    rw [this, BitVec.mul_add, BitVec.mul_one]
  rw [e, e] at h
  have h2 := congrArg (fun t => t * 0xFFFFFFF000000001#64) h
  simp only [BitVec.mul_assoc] at h2
  have : 0x1000000001#64 * 0xFFFFFFF000000001#64 = 1#64 := by decide
  rwa [this, BitVec.mul_one, BitVec.mul_one] at h2

/-- Rotating back. -/
def unrot (y : D) : D := y >>> 20 ||| y <<< 44

theorem rot_bit (x : D) (i : Nat) (hi : i < 64) : (rot x).getLsbD i = if i < 20 then x.getLsbD (44 + i) else x.getLsbD (i - 20) := by
  unfold rot
  rw [BitVec.getLsbD_or, BitVec.getLsbD_shiftLeft, BitVec.getLsbD_ushiftRight]
  by_cases h : i < 20
  · simp [h]
  · simp [h, hi, BitVec.getLsbD_of_ge x (44 + i) (by omega)]

theorem unrot_bit (x : D) (i : Nat) (hi : i < 64) : (unrot x).getLsbD i = if i < 44 then x.getLsbD (20 + i) else x.getLsbD (i - 44) := by
  unfold unrot
  rw [BitVec.getLsbD_or, BitVec.getLsbD_shiftLeft, BitVec.getLsbD_ushiftRight]
  by_cases h : i < 44
  · simp [h]
  · simp [h, hi, BitVec.getLsbD_of_ge x (20 + i) (by omega)]

theorem rot_unrot (y : D) : rot (unrot y) = y := by
  apply BitVec.eq_of_getLsbD_eq
  intro i hi
  rw [rot_bit _ i hi]
  by_cases h : i < 20
  · rw [if_pos h, unrot_bit _ _ (by omega), if_neg (by omega)]; congr 1; omega
  · rw [if_neg h, unrot_bit _ _ (by omega), if_pos (by omega)]; congr 1; omega

theorem unrot_rot (y : D) : unrot (rot y) = y := by
  apply BitVec.eq_of_getLsbD_eq
  intro i hi
  rw [unrot_bit _ i hi]
  by_cases h : i < 44
  · rw [if_pos h, rot_bit _ _ (by omega), if_neg (by omega)]; congr 1; omega
  · rw [if_neg h, rot_bit _ _ (by omega), if_pos (by omega)]; congr 1; omega

theorem rot_inj {x y : D} (h : rot x = rot y) : x = y := by rw [← unrot_rot x, h, unrot_rot]

theorem xor_right_inj {a b c : D} (h : a ^^^ c = b ^^^ c) : a = b := by
  have := congrArg (fun t => t ^^^ c) h
  simpa only [BitVec.xor_assoc, BitVec.xor_self, BitVec.xor_zero] using this

theorem xor_left_inj {a b c : D} (h : c ^^^ a = c ^^^ b) : a = b := by
  rw [BitVec.xor_comm c a, BitVec.xor_comm c b] at h; exact xor_right_inj h

theorem ofB_inj {a b : UInt8} (h : ofB a = ofB b) : a = b := by
  apply UInt8.toNat_inj.mp
  have := congrArg BitVec.toNat h
  simpa [ofB] using this

theorem step_inj {s t : D} {v : UInt8} (h : step s v = step t v) : s = t := xor_right_inj (mul1_inj (rot_inj h))
theorem step_byte_inj {s : D} {u v : UInt8} (h : step s u = step s v) : u = v := ofB_inj (xor_left_inj (mul1_inj (rot_inj h)))

theorem addL_inj (l : List UInt8) : ∀ {s t : D}, addL s l = addL t l → s = t := by
  induction l with
  | nil => intro s t h; exact h
  | cons v l ih => intro s t h; exact step_inj (ih h)

/-- The state before. -/
theorem step_undo (t : D) (v : UInt8) : step (un1 (unrot t) ^^^ ofB v) v = t := by
  unfold step
  rw [BitVec.xor_assoc, BitVec.xor_self, BitVec.xor_zero, mul1_un1, rot_unrot]

theorem fold2_inj {x y : D} (h : fold2 x = fold2 y) : x = y := by
  have hz : ∀ z : D, z = z >>> 28 → z = 0#64 := by
    intro z hz
    have h2 : z = z >>> 84 := by
      have a : z = z >>> 28 >>> 28 >>> 28 := by rw [← hz, ← hz, ← hz]
      rwa [← BitVec.shiftRight_add, ← BitVec.shiftRight_add] at a
    rw [h2]
    apply BitVec.eq_of_getLsbD_eq
    intro i hi
    rw [BitVec.getLsbD_ushiftRight, BitVec.getLsbD_of_ge z _ (by omega), BitVec.getLsbD_zero]
  have e : x ^^^ y = (x ^^^ y) >>> 28 := by
    unfold fold2 at h
    rw [BitVec.ushiftRight_xor_distrib]
    have h2 : (x ^^^ x >>> 28) ^^^ (y ^^^ x >>> 28) = (y ^^^ y >>> 28) ^^^ (y ^^^ x >>> 28) := by rw [h]
    have l1 : x ^^^ x >>> 28 ^^^ (y ^^^ x >>> 28) = x ^^^ y := by
      rw [BitVec.xor_comm y, BitVec.xor_assoc, ← BitVec.xor_assoc (x >>> 28), BitVec.xor_self, BitVec.zero_xor]
    have l2 : y ^^^ y >>> 28 ^^^ (y ^^^ x >>> 28) = x >>> 28 ^^^ y >>> 28 := by
      rw [BitVec.xor_comm y (y >>> 28), BitVec.xor_assoc, ← BitVec.xor_assoc y, BitVec.xor_self, BitVec.zero_xor, BitVec.xor_comm]
    rwa [l1, l2] at h2
  have e2 := hz _ e
  have e3 := congrArg (fun t => t ^^^ y) e2
  simpa only [BitVec.xor_assoc, BitVec.xor_self, BitVec.xor_zero, BitVec.zero_xor] using e3

theorem half_inj {x y : D} (h : half x = half y) : x = y := mul2_inj (fold2_inj h)
theorem fin_inj {s t : D} {n : Int} (h : fin s n = fin t n) : s = t := xor_right_inj (half_inj (half_inj h))

theorem addL_mid (s : D) (a b : List UInt8) (x y : UInt8) (h : addL s (a ++ x :: b) = addL s (a ++ y :: b)) : x = y := by
  rw [addL_append, addL_append, addL_cons, addL_cons] at h
  exact step_byte_inj (addL_inj _ h)

/-- One byte differs: the states differ. -/
theorem addL_set (s : D) (l : List UInt8) (i : Nat) (hi : i < l.length) (x : UInt8) : addL s (l.set i x) = addL s l ↔ x = l[i] := by
  constructor
  · intro h
    have e1 : l.set i x = l.take i ++ x :: l.drop (i + 1) := by rw [List.set_eq_take_append_cons_drop, if_pos hi]
    have e2 : l = l.take i ++ l[i] :: l.drop (i + 1) := by rw [List.getElem_cons_drop, List.take_append_drop]
    exact addL_mid s _ _ _ _ (by rw [← e1, h, ← e2])
  · intro h; rw [h, List.set_getElem_self]

theorem ofL_set (l : List UInt8) (i : Nat) (hi : i < l.length) (x : UInt8) : ofL (l.set i x) = ofL l ↔ x = l[i] := by
  unfold ofL
  rw [List.length_set]
  exact ⟨fun h => (addL_set start l i hi x).1 (fin_inj h), fun h => by rw [(addL_set start l i hi x).2 h]⟩
end Dig

section
open Go.RowKit

abbrev D64 := BitVec 64

theorem wrap64u (n : Int) : IntKind.u64.wrap n = n % 18446744073709551616 := by
  simp [IntKind.wrap, IntKind.bits, IntKind.signed]

theorem wrap64_of (n : Int) : IntKind.u64.wrap n = ((BitVec.ofInt 64 n).toNat : Int) := by
  rw [wrap64u, BitVec.toNat_ofInt]
  omega

theorem ofInt_toNat (x : D64) : BitVec.ofInt 64 (x.toNat : Int) = x := by
  apply BitVec.eq_of_toNat_eq; simp

/-- A word's number: a name that the walk does not open. -/
def num (x : D64) : Int := (x.toNat : Int)
theorem num_inj {x y : D64} (h : num x = num y) : x = y := BitVec.eq_of_toNat_eq (by unfold num at h; omega)
theorem num_nonneg (x : D64) : 0 ≤ num x := by unfold num; omega
theorem num_lt (x : D64) : num x < 18446744073709551616 := by have := x.isLt; unfold num; omega
theorem num_of (n : Int) (h0 : 0 ≤ n) (h1 : n < 18446744073709551616) : n = num (BitVec.ofInt 64 n) := by
  unfold num; rw [BitVec.toNat_ofInt]; omega
@[go_sem] theorem num_eq (x y : D64) : (num x == num y) = (x == y) := by
  rw [Bool.eq_iff_iff]; simp only [beq_iff_eq]; exact ⟨num_inj, fun h => by rw [h]⟩
theorem wrap_num (n : Int) : IntKind.u64.wrap n = num (BitVec.ofInt 64 n) := wrap64_of n
@[go_sem] theorem u64_wrap (x : D64) : IntKind.u64.wrap (num x) = num x := by
  have h0 := num_nonneg x; have h1 := num_lt x; rw [wrap64u]; omega
@[go_sem] theorem u64_xor (x y : D64) : bits .xor .u64 (num x) (num y) = num (x ^^^ y) := by
  show IntKind.u64.wrap ((BitVec.ofInt 64 (num x) ^^^ BitVec.ofInt 64 (num y) : D64).toNat : Int) = _
  unfold num; rw [ofInt_toNat, ofInt_toNat, wrap64_of, ofInt_toNat]
@[go_sem] theorem u64_or (x y : D64) : bits .or .u64 (num x) (num y) = num (x ||| y) := by
  show IntKind.u64.wrap ((BitVec.ofInt 64 (num x) ||| BitVec.ofInt 64 (num y) : D64).toNat : Int) = _
  unfold num; rw [ofInt_toNat, ofInt_toNat, wrap64_of, ofInt_toNat]
@[go_sem] theorem u64_and (x y : D64) : bits .and .u64 (num x) (num y) = num (x &&& y) := by
  show IntKind.u64.wrap ((BitVec.ofInt 64 (num x) &&& BitVec.ofInt 64 (num y) : D64).toNat : Int) = _
  unfold num; rw [ofInt_toNat, ofInt_toNat, wrap64_of, ofInt_toNat]
@[go_sem] theorem u64_add (x y : D64) : IntKind.u64.wrap (num x + num y) = num (x + y) := by
  unfold num; rw [wrap64u, BitVec.toNat_add]; omega
@[go_sem] theorem u64_sub (x y : D64) : IntKind.u64.wrap (num x - num y) = num (x - y) := by
  unfold num; rw [wrap64u, BitVec.toNat_sub]; omega
theorem shl_of (x : D64) (k : Nat) : IntKind.u64.wrap (num x * (2 ^ k : Nat)) = num (x <<< k) := by
  unfold num; rw [wrap64u, BitVec.toNat_shiftLeft, Nat.shiftLeft_eq]; omega
theorem shr_of (x : D64) (k : Nat) : num x / (2 ^ k : Nat) = num (x >>> k) := by
  unfold num; rw [BitVec.toNat_ushiftRight, Nat.shiftRight_eq_div_pow]; omega
@[go_sem] theorem shl_20 (x : D64) : IntKind.u64.wrap (num x * (1048576 : Int)) = num (x <<< 20) := shl_of x 20
@[go_sem] theorem shl_28 (x : D64) : IntKind.u64.wrap (num x * (268435456 : Int)) = num (x <<< 28) := shl_of x 28
@[go_sem] theorem shl_36 (x : D64) : IntKind.u64.wrap (num x * (68719476736 : Int)) = num (x <<< 36) := shl_of x 36
@[go_sem] theorem shl_44 (x : D64) : IntKind.u64.wrap (num x * (17592186044416 : Int)) = num (x <<< 44) := shl_of x 44
@[go_sem] theorem shl_56 (x : D64) : IntKind.u64.wrap (num x * (72057594037927936 : Int)) = num (x <<< 56) := shl_of x 56
@[go_sem] theorem shl_4 (x : D64) : IntKind.u64.wrap (num x * (16 : Int)) = num (x <<< 4) := shl_of x 4
@[go_sem] theorem shr_20 (x : D64) : num x / (1048576 : Int) = num (x >>> 20) := shr_of x 20
@[go_sem] theorem shr_28 (x : D64) : num x / (268435456 : Int) = num (x >>> 28) := shr_of x 28
@[go_sem] theorem shr_44 (x : D64) : num x / (17592186044416 : Int) = num (x >>> 44) := shr_of x 44
end

section
open Go.RowKit

/-- Of what was there only blocks of T may have changed. -/
structure Turns (T : Nat → Prop) (w w' : World) : Prop where
  os : w'.os = w.os
  tape : w'.tape = w.tape
  output : w'.output = w.output
  size : w.heap.size ≤ w'.heap.size
  block : ∀ k, k < w.heap.size → ¬ T k → w'.heap[k]? = w.heap[k]?

namespace Turns
variable {T T' : Nat → Prop} {a b c w w' : World}
theorem refl (T : Nat → Prop) (w : World) : Turns T w w := ⟨rfl, rfl, rfl, Nat.le_refl _, fun _ _ _ => rfl⟩
theorem trans (h : Turns T a b) (k : Turns T b c) : Turns T a c :=
  ⟨k.os.trans h.os, k.tape.trans h.tape, k.output.trans h.output, Nat.le_trans h.size k.size, fun i hi ht => (k.block i (Nat.lt_of_lt_of_le hi h.size) ht).trans (h.block i hi ht)⟩
/-- A second step may also turn blocks that the first has made. -/
theorem trans' (h : Turns T a b) (k : Turns T' b c) (hT : ∀ i, i < a.heap.size → T' i → T i) : Turns T a c :=
  ⟨k.os.trans h.os, k.tape.trans h.tape, k.output.trans h.output, Nat.le_trans h.size k.size, fun i hi ht => (k.block i (Nat.lt_of_lt_of_le hi h.size) (fun e => ht (hT i hi e))).trans (h.block i hi ht)⟩
theorem mono (h : Turns T a b) (hT : ∀ i, i < a.heap.size → T i → T' i) : Turns T' a b := ⟨h.os, h.tape, h.output, h.size, fun i hi ht => h.block i hi (fun e => ht (hT i hi e))⟩
theorem of_below {B : Nat} (h : Below B a b) (hB : a.heap.size ≤ B) : Turns T a b := ⟨h.os, h.tape, h.output, h.size, fun i hi _ => h.block i (by omega)⟩
theorem below {B : Nat} (h : Turns T a b) (hB : B ≤ a.heap.size) (hT : ∀ i, i < B → ¬ T i) : Below B a b := ⟨h.os, h.tape, h.output, h.size, fun i hi => h.block i (by omega) (hT i hi)⟩
theorem alloc (h : Turns T a b) (o : Obj) : Turns T a (b.alloc o) := h.trans' (T' := fun _ => False) (of_below ((Below.refl _ b).alloc (Nat.le_refl _) o) (Nat.le_refl _)) (fun _ _ e => e.elim)
theorem drew (h : Turns T a b) : Turns T a b.drew := ⟨h.os, h.tape, h.output, h.size, h.block⟩
theorem drewN (h : Turns T a b) (n : Nat) : Turns T a (b.drewN n) := ⟨h.os, h.tape, h.output, h.size, h.block⟩
theorem setCell (h : Turns T a b) {p : Addr} (hp : p.block < a.heap.size → T p.block) (u : Value) : Turns T a (b.setCell p u) :=
  h.trans' (T' := fun i => i = p.block) ⟨rfl, rfl, rfl, by simp [World.setCell], fun k _ hk => Below.heap_setCell _ _ _ _ hk⟩ (fun i hi e => by cases e; exact hp hi)
theorem cell (h : Turns T w w') {p : Addr} {v : Value} (hp : ¬ T p.block) (hc : w.cell? p = some v) : w'.cell? p = some v :=
  (World.cell?_of_block (w := w) (h.block _ (World.block_lt_of_cell? w p hc) hp)).trans hc
theorem frozen (h : Turns T w w') {p : Addr} {v : Bool} (hp : ¬ T p.block) (hs : p.block < w.heap.size) (hc : w.frozen? p = v) : w'.frozen? p = v :=
  (World.frozen?_of_block (w := w) (h.block _ hs hp)).trans hc
theorem obj (h : Turns T w w') {k : Nat} {o : Obj} (hk : ¬ T k) (hc : w.heap[k]? = some o) : w'.heap[k]? = some o := (h.block k (Array.getElem?_eq_some_iff.1 hc).1 hk).trans hc
end Turns

theorem al {w W : World} (h : Below w.heap.size w W) (o : Obj) : Below w.heap.size w (W.alloc o) := h.alloc h.size o
theorem thru {w W w' : World} (h : Below w.heap.size w W) (hb : Below W.heap.size W w') : Below w.heap.size w w' := h.trans (hb.mono h.size)
theorem belN {B : Nat} {w W : World} (h : Below B w W) (n : Nat) : Below B w (W.drewN n) := ⟨h.os, h.tape, h.output, h.size, h.block⟩
theorem cell_new (w : World) (C : Array Value) (T : TypeId) (p : Nat × Nat) (i : Nat) : (w.alloc (.cells C T p)).cell? ⟨w.heap.size, i, none⟩ = C[i]? := by
  have h : (w.alloc (.cells C T p)).heap[w.heap.size]? = some (.cells C T p) := by
    show (w.heap.push _)[w.heap.size]? = _
    simp
  unfold World.cell?; simp only [h]; rfl
theorem take_succ_getD (l : List UInt8) (j : Nat) (h : j < l.length) : l.take (j + 1) = l.take j ++ [l.getD j 0] := by
  rw [List.take_succ_eq_append_getElem h, List.getD_eq_getElem?_getD, List.getElem?_eq_getElem h]; rfl
@[go_sem] theorem u8_of_u8 (v : UInt8) : IntKind.u8.wrap (v.toNat : Int) = (v.toNat : Int) := by
  have := v.toNat_lt
  simp [IntKind.wrap, IntKind.bits, IntKind.signed]; omega
theorem u8_xor (a b : UInt8) : bits .xor .u8 (a.toNat : Int) (b.toNat : Int) = ((a ^^^ b).toNat : Int) := by
  show IntKind.u8.wrap ((BitVec.ofInt 8 (a.toNat : Int) ^^^ BitVec.ofInt 8 (b.toNat : Int)).toNat : Int) = _
  rw [show BitVec.ofInt 8 (a.toNat : Int) = a.toBitVec by apply BitVec.eq_of_toNat_eq; simp, show BitVec.ofInt 8 (b.toNat : Int) = b.toBitVec by apply BitVec.eq_of_toNat_eq; simp]
  exact u8_of_u8 (a ^^^ b)
theorem u8_eq0 (v : UInt8) : ((v.toNat : Int) == 0) = (v == 0) := by
  rw [Bool.eq_iff_iff]; simp [← UInt8.toNat_inj]
/-- A law's answer: true, and nothing that lay has turned. -/
def YesOf (w : World) (e : Ending) (w' : World) : Prop := e = .returned (.bool true) ∧ Below w.heap.size w w'
end

section
open Go.RowKit

theorem rotl_any (x : D64) (w : World) :
    Calls Tryz.prog 92 #[.int .u64 (num x), .int .i64 20] w fun e w' => e = .returned (.int .u64 (num (Dig.rot x))) ∧ w' = w := by
  have hk : bits .and .u64 20 63 = 20 := by decide
  go_enter Tryz.func92, Tryz.ntmps92
  go_wp2_with fail
  go_ret
  exact ⟨rfl, rfl⟩

theorem fin_any (x : D64) (n : Int) (w : World) :
    Calls Tryz.prog 60 #[.agg #[.int .u64 (num x), .int .i64 n]] w fun e w' => e = .returned (.int .u64 (num (Dig.fin x n))) ∧ Below w.heap.size w w' := by
  have hn := wrap_num n
  go_enter Tryz.func60, Tryz.ntmps60
  go_wp2_with fail
  refine wp_loop_rounds 3 ?_
  repeat any_goals (rw [rounds_succ]; go_wp2)
  go_ret
  exact ⟨rfl, al (Below.refl _ w) _⟩

theorem u8_num (v : UInt8) : (v.toNat : Int) = num (Dig.ofB v) := by
  unfold num Dig.ofB; simp

/-- Nothing but the block b has changed. -/
def Only (b : Nat) (w w' : World) : Prop := Below b w w' ∧ w.heap.size = w'.heap.size ∧ ∀ k, k ≠ b → w'.heap[k]? = w.heap[k]?

theorem Only.refl (b : Nat) (w : World) : Only b w w := ⟨Below.refl _ _, rfl, fun _ _ => rfl⟩
theorem Only.setCell {b : Nat} {w w' : World} (h : Only b w w') (o : Nat) (v : Value) : Only b w (w'.setCell ⟨b, o, none⟩ v) :=
  ⟨h.1.setCell (Nat.le_refl _) v, h.2.1.trans (by simp), fun k hk => (Deep.blk_setCell_other _ _ _ _ hk).trans (h.2.2 k hk)⟩
theorem Only.cell {b : Nat} {w w' : World} (h : Only b w w') {a : Addr} {v : Value} (ha : a.block ≠ b) (hc : w.cell? a = some v) : w'.cell? a = some v := (World.cell?_of_block (w := w) (h.2.2 _ ha)).trans hc
theorem Only.frozen {b : Nat} {w w' : World} (h : Only b w w') {a : Addr} {v : Bool} (ha : a.block ≠ b) (hc : w.frozen? a = v) : w'.frozen? a = v := (World.frozen?_of_block (w := w) (h.2.2 _ ha)).trans hc

def Add1 (v : UInt8) (x : D64) (n : Int) (b : Nat) (w : World) (e : Ending) (w' : World) : Prop :=
  e = .returned (.tuple #[]) ∧ Only b w w' ∧ w'.cell? ⟨b, 0, none⟩ = some (.int .u64 (num (Dig.step x v))) ∧ w'.cell? ⟨b, 1, none⟩ = some (.int .i64 (wrap64 (n + 1))) ∧ w'.frozen? ⟨b, 0, none⟩ = false ∧ w'.frozen? ⟨b, 1, none⟩ = false

theorem add1_any (v : UInt8) (x : D64) (n : Int) (b : Nat) (w : World) (h0 : w.cell? ⟨b, 0, none⟩ = some (.int .u64 (num x))) (h1 : w.cell? ⟨b, 1, none⟩ = some (.int .i64 n)) (f0 : w.frozen? ⟨b, 0, none⟩ = false) (f1 : w.frozen? ⟨b, 1, none⟩ = false) :
    Calls Tryz.prog 91 #[.int .u8 (v.toNat : Int), .pointer (some ⟨b, 0, none⟩)] w (Add1 v x n b w) := by
  have hv := u8_num v
  go_enter Tryz.func91, Tryz.ntmps91
  go_wp2_with fail
  refine (rotl_any _ _).mono ?_
  rintro e w1 ⟨rfl, rfl⟩
  go_wp2_with fail
  go_end0
  exact ⟨rfl, ((((Only.refl b w).setCell _ _).setCell _ _).setCell _ _).setCell _ _, (by rw [World.cell?_setCell_other _ _ _ _ (by simp)]; exact World.cell?_setCell_same _ _ _ (World.cell?_setCell_same _ _ _ (World.cell?_setCell_same _ _ _ h0))), by go_simp, by go_simp, by go_simp⟩

def AddRel (x : D64) (n : Int) (l : List UInt8) (w : World) (i : Value) (wr : World) : Prop :=
  ∃ j : Nat, j ≤ l.length ∧ i = .int .i64 (j : Int) ∧ Below w.heap.size w wr ∧ w.heap.size + 1 < wr.heap.size ∧ wr.cell? ⟨w.heap.size, 0, none⟩ = some (.int .u64 (num (Dig.addL x (l.take j)))) ∧ wr.cell? ⟨w.heap.size, 1, none⟩ = some (.int .i64 (wrap64 (n + j))) ∧ wr.frozen? ⟨w.heap.size, 0, none⟩ = false ∧ wr.frozen? ⟨w.heap.size, 1, none⟩ = false ∧
    wr.cell? ⟨w.heap.size + 1, 0, none⟩ = some (.int .u64 0) ∧ wr.cell? ⟨w.heap.size + 1, 1, none⟩ = some (.int .i64 0) ∧ wr.frozen? ⟨w.heap.size + 1, 0, none⟩ = false ∧ wr.frozen? ⟨w.heap.size + 1, 1, none⟩ = false

theorem wrap64_id {n : Int} (h : -9223372036854775808 ≤ n ∧ n ≤ 9223372036854775807) : wrap64 n = n := by
  unfold wrap64; omega
theorem wrap64_succ (n : Int) (j : Nat) : wrap64 (wrap64 (n + (j : Int)) + 1) = wrap64 (n + ((j + 1 : Nat) : Int)) := by
  unfold wrap64; omega

set_option maxHeartbeats 1000000 in
theorem add_any (x : D64) (n : Int) (y : Option Addr) (l : List UInt8) (c : Nat) (w : World) (hn : -9223372036854775808 ≤ n ∧ n ≤ 9223372036854775807) (hl : (l.length : Int) ≤ 9223372036854775807) (hy : Bts w y l) :
    Calls Tryz.prog 61 #[.agg #[.int .u64 (num x), .int .i64 n], .slice y l.length c] w fun e w' => e = .returned (.agg #[.int .u64 (num (Dig.addL x l)), .int .i64 (wrap64 (n + l.length))]) ∧ Below w.heap.size w w' := by
  have hw := wrap64_id hn
  have HN := Lib.hid hn
  clear hn
  go_enter Tryz.func61, Tryz.ntmps61
  go_wp2_with fail
  go_loopw [11] (fun i wr => AddRel x n l w i wr) (fun i _ => l.length - (intOf i).toNat)
  case atStart => exact ⟨0, Nat.zero_le _, rfl, al (al (Below.refl _ w) _) _, by simp, by go_simp; rfl, by go_simp, by go_simp, by go_simp, by go_simp, by go_simp, by go_simp, by go_simp⟩
  case round =>
    obtain ⟨j, hj, rfl, hB, hz, c0, c1, f0, f1, r0, r1, q0, q1⟩ := hrel
    by_cases hlt : j < l.length
    · obtain ⟨b, o, rfl, hcl⟩ := (hy.later hB).resolve_left (by intro e; subst e; simp at hlt)
      have hcj := hcl j hlt
      obtain ⟨v, hv⟩ : ∃ v, l.getD j 0 = v := ⟨_, rfl⟩
      rw [hv] at hcj
      unfold encB at hcj
      have HV := Lib.hid hv
      clear hcl hv
      go_wp2_with fail
      refine (add1_any v _ _ _ _ c0 c1 f0 f1).mono ?_
      rintro e w1 ⟨rfl, ho, d0, d1, e0, e1⟩
      have k0 := ho.cell (by simp) r0
      have k1 := ho.cell (by simp) r1
      have m0 := ho.frozen (by simp) q0
      have m1 := ho.frozen (by simp) q1
      have HB := Lib.hid (hB.trans ho.1)
      have HS := Lib.hid ho.2.1
      have HD := Lib.hid d1
      clear ho hB d1 c0 c1 f0 f1 r0 r1 q0 q1 hcj
      go_wp2_with fail
      refine ⟨⟨j + 1, by omega, by simp, HB.out, by have := HS.out; omega, ?_, ?_, e0, e1, k0, k1, m0, m1⟩, by simp [intOf]; omega⟩
      · rw [take_succ_getD l j hlt, HV.out, Dig.addL_snoc]; exact d0
      · rw [← wrap64_succ]; exact HD.out
    · obtain rfl : j = l.length := by omega
      clear hlt hj
      rw [List.take_length] at c0
      have HB := Lib.hid hB
      clear hB
      go_wp2_with fail
      refine bodyPost_ret (v := .agg #[.int .u64 (num (Dig.addL x l)), .int .i64 (wrap64 (n + l.length))]) (by simp [results, Tryz.results61, go_sem, r0, r1]) rfl ⟨rfl, ?_⟩
      exact (HB.out.setCell (by simp) _).setCell (by simp) _
end

section
open Go.RowKit

theorem start_num : (7953747704174896417 : Int) = num Dig.start := by decide

theorem new_any (w : World) : Calls Tryz.prog 62 #[] w fun e w' => e = .returned (.agg #[.int .u64 (num Dig.start), .int .i64 0]) ∧ Below w.heap.size w w' := by
  rw [← start_num]
  go_enter Tryz.func62, Tryz.ntmps62
  go_wp2_with fail
  exact bodyPost_ret (v := .agg #[.int .u64 7953747704174896417, .int .i64 0]) (by simp [results, Tryz.results62, go_sem]) rfl ⟨rfl, al (Below.refl _ w) _⟩

theorem of_any (y : Option Addr) (l : List UInt8) (c : Nat) (w : World) (hl : (l.length : Int) ≤ 100000) (hy : Bts w y l) :
    Calls Tryz.prog 27 #[.slice y l.length c] w fun e w' => e = .returned (.int .u64 (num (Dig.ofL l))) ∧ Below w.heap.size w w' := by
  have hz : wrap64 (0 + (l.length : Int)) = l.length := by rw [Int.zero_add]; exact wrap64_id (by omega)
  have HZ := Lib.hid hz
  clear hz
  go_enter Tryz.func27, Tryz.ntmps27
  go_wp2_with fail
  refine (new_any _).mono ?_
  rintro e w1 ⟨rfl, hb1⟩
  go_wp2_with fail
  refine (add_any _ _ _ _ _ _ (by omega) (by omega) (hy.later hb1)).mono ?_
  rintro e w2 ⟨rfl, hb2⟩
  rw [HZ.out]
  go_wp2_with fail
  refine (fin_any _ _ _).mono ?_
  rintro e w3 ⟨rfl, hb3⟩
  go_wp2_with fail
  go_ret
  exact ⟨rfl, thru (thru hb1 hb2) hb3⟩

/-- The last eight bits. -/
def lowB (x : D64) : UInt8 := ⟨x.setWidth 8⟩
@[go_sem] theorem u8_low (x : D64) : IntKind.u8.wrap (num x) = ((lowB x).toNat : Int) := by
  have : (lowB x).toNat = x.toNat % 256 := by unfold lowB; simp [UInt8.toNat]
  rw [this]; unfold num; simp [IntKind.wrap, IntKind.bits, IntKind.signed]
@[go_sem] theorem shr_8 (x : D64) : num x / (256 : Int) = num (x >>> 8) := shr_of x 8
@[go_sem] theorem shr_16 (x : D64) : num x / (65536 : Int) = num (x >>> 16) := shr_of x 16
@[go_sem] theorem shr_24 (x : D64) : num x / (16777216 : Int) = num (x >>> 24) := shr_of x 24
@[go_sem] theorem shr_32 (x : D64) : num x / (4294967296 : Int) = num (x >>> 32) := shr_of x 32
@[go_sem] theorem shr_40 (x : D64) : num x / (1099511627776 : Int) = num (x >>> 40) := shr_of x 40
@[go_sem] theorem shr_48 (x : D64) : num x / (281474976710656 : Int) = num (x >>> 48) := shr_of x 48
@[go_sem] theorem shr_56 (x : D64) : num x / (72057594037927936 : Int) = num (x >>> 56) := shr_of x 56

def BytesOf (l : List UInt8) (w : World) (e : Ending) (w' : World) : Prop := ∃ b, e = .returned (.slice (some ⟨b, 0, none⟩) l.length l.length) ∧ Bts w' (some ⟨b, 0, none⟩) l ∧ Below w.heap.size w w'

set_option maxHeartbeats 1000000 in
theorem bytes_any (d : D64) (w : World) : Calls Tryz.prog 64 #[.int .u64 (num d)] w (BytesOf (Dig.bytes d) w) := by
  go_enter Tryz.func64, Tryz.ntmps64
  go_wp2_with fail
  refine wp_loop_rounds 9 ?_
  repeat any_goals (rw [rounds_succ]; go_wp2)
  go_ret
  refine ⟨w.heap.size, rfl, .inr ⟨_, _, rfl, fun i hi => ?_⟩, al (Below.refl _ w) _⟩
  rw [Dig.bytes_length] at hi
  match i, hi with
  | 0, _ => go_simp; rfl
  | 1, _ => go_simp; rfl
  | 2, _ => go_simp; rfl
  | 3, _ => go_simp; rfl
  | 4, _ => go_simp; rfl
  | 5, _ => go_simp; rfl
  | 6, _ => go_simp; rfl
  | 7, _ => go_simp; rfl
end

section
open Go.RowKit

theorem infoByte : (Tryz.prog.info? 5).map (fun i => (i.zero, i.size, i.bytes)) = some (some (.int .u8 0), 1, 1) := by kernel_rfl

/-- What is left of a call that hands back a slice of its own: these bytes, from block B on, nothing that was there turned. -/
def OwnsB (B : Nat) (w : World) (x : Option Addr) (cap : Nat) (l : List UInt8) : Prop := w.ownsRow B 5 1 (.slice x l.length cap) l.length (l.map encB)

theorem OwnsB.bts {B : Nat} {w : World} {x : Option Addr} {cap : Nat} {l : List UInt8} (h : OwnsB B w x cap l) : Bts w x l := (Bts.of_owns h).2

theorem news_of_bts {w : World} {a : Addr} {l : List UInt8} (h : Bts w (some a) l) : ∀ j u, (l.map encB)[j]? = some u → w.cell? (a.add j) = some u := by
  intro j u hj
  rcases h with h | ⟨b, o, hx, hc⟩
  · subst h; simp at hj
  · cases hx
    have hjl : j < l.length := by
      rcases Nat.lt_or_ge j l.length with h | h
      · exact h
      · simp [List.getElem?_eq_none h] at hj
    have hplain : (⟨b, o, none⟩ : Addr).add j = ⟨b, o + j, none⟩ := by unfold Addr.add; split <;> simp_all
    rw [hplain, hc j hjl]
    simp [List.getElem?_eq_getElem hjl] at hj
    simp [List.getElem?_eq_getElem hjl, hj]

theorem owns_form {w : World} {B e : Nat} {v : Value} {n : Nat} {xs : List Value} (h : w.ownsRow B e 1 v n xs) : ∃ x cap, v = .slice x n cap := by
  rcases h.2 with ⟨rfl, rfl⟩ | ⟨g, cap, cur, rfl, _⟩
  · exact ⟨none, 0, rfl⟩
  · exact ⟨_, _, rfl⟩
end

section
open Go.RowKit

theorem Turns.of_grownBy {w w' : World} {row : Option Nat} {T : Nat → Prop} (h : w.grownBy w' row) (hT : ∀ b, row = some b → T b) : Turns T w w' :=
  ⟨h.os, h.tape, h.output, h.size, fun k hk ht => h.block k hk (fun e => ht (hT k e.symm))⟩

theorem later_lt {B : Nat} {w w' : World} (hb : Below B w w') {a : Addr} {v : Value} (ha : a.block < B) (h : w.cell? a = some v) : w'.cell? a = some v := (hb.cell ha).trans h

theorem OwnsB.nil (B : Nat) (w : World) : OwnsB B w none 0 [] := World.ownsRow_nil _ _ _ _

theorem oneEnc (l : List UInt8) : ∀ u ∈ l.map encB, u.oneCell' = true := by
  intro u hu; simp at hu; obtain ⟨b, _, rfl⟩ := hu; rfl

/-- The blocks that a slice's append may write. -/
def RowOf (xa : Option Addr) (b : Nat) : Prop := (Value.slice xa 0 0).ownBlock = some b

theorem OwnsB.low {B : Nat} {w : World} {x : Option Addr} {cap : Nat} {l : List UInt8} (h : OwnsB B w x cap l) : ∀ b, RowOf x b → B ≤ b ∧ b < w.heap.size := by
  intro b hb
  rcases h.2 with ⟨hv, _⟩ | ⟨g, cap', cur, hv, hlo, hg, _⟩
  · simp only [Value.slice.injEq] at hv
    rw [hv.1] at hb; cases hb
  · simp only [Value.slice.injEq] at hv
    rw [hv.1] at hb; cases hb
    exact ⟨hlo, (Array.getElem?_eq_some_iff.1 hg).1⟩

theorem OwnsB.turn {B : Nat} {w w' : World} {x : Option Addr} {cap : Nat} {l : List UInt8} {T : Nat → Prop} (h : OwnsB B w x cap l) (ht : Turns T w w') (hT : ∀ b, RowOf x b → ¬ T b) : OwnsB B w' x cap l := by
  refine ⟨h.1, ?_⟩
  rcases h.2 with h0 | ⟨g, cap', cur, hv, hlo, hg, hr⟩
  · exact .inl h0
  · refine .inr ⟨g, cap', cur, hv, hlo, ?_, hr⟩
    simp only [Value.slice.injEq] at hv
    exact (ht.block g (Array.getElem?_eq_some_iff.1 hg).1 (hT g (by rw [hv.1]; rfl))).trans hg

theorem Bts.turn {w w' : World} {x : Option Addr} {l : List UInt8} {T : Nat → Prop} (h : Bts w x l) (ht : Turns T w w') (hT : ∀ a, x = some a → ¬ T a.block) : Bts w' x l := by
  rcases h with h | ⟨b, o, hx, hc⟩
  · exact .inl h
  · exact .inr ⟨b, o, hx, fun i hi => ht.cell (show ¬ T b from hT ⟨b, o, none⟩ hx) (hc i hi)⟩

theorem OwnsB.weaken {B B' : Nat} {w : World} {x : Option Addr} {cap : Nat} {l : List UInt8} (h : OwnsB B w x cap l) (hB : B' ≤ B) : OwnsB B' w x cap l := by
  refine ⟨h.1, ?_⟩
  rcases h.2 with h | ⟨g, cap, cur, h1, h2, h3⟩
  · exact .inl h
  · exact .inr ⟨g, cap, cur, h1, Nat.le_trans hB h2, h3⟩
theorem Bts.left {w : World} {g o : Nat} {l m : List UInt8} (h : Bts w (some ⟨g, o, none⟩) (l ++ m)) : Bts w (some ⟨g, o, none⟩) l := by
  rcases h with h | ⟨b, o', hx, hc⟩
  · exact .inl (List.append_eq_nil_iff.1 h).1
  · cases hx
    exact .inr ⟨g, o, rfl, fun i hi => by have := hc i (by simp; omega); rwa [List.getD_eq_getElem?_getD, List.getElem?_append_left hi, ← List.getD_eq_getElem?_getD] at this⟩
theorem Bts.right {w : World} {g o : Nat} {l m : List UInt8} (h : Bts w (some ⟨g, o, none⟩) (l ++ m)) : Bts w (some ⟨g, o + l.length, none⟩) m := by
  rcases h with h | ⟨b, o', hx, hc⟩
  · exact .inl (List.append_eq_nil_iff.1 h).2
  · cases hx
    refine .inr ⟨g, o + l.length, rfl, fun i hi => ?_⟩
    have := hc (l.length + i) (by simp; omega)
    rw [List.getD_eq_getElem?_getD, List.getElem?_append_right (by omega), Nat.add_sub_cancel_left, ← List.getD_eq_getElem?_getD, ← Nat.add_assoc] at this
    exact this
theorem OwnsB.some_of {B : Nat} {w : World} {x : Option Addr} {cap : Nat} {l : List UInt8} (h : OwnsB B w x cap l) (h0 : 0 < l.length) : ∃ g, x = some ⟨g, 0, none⟩ := by
  rcases h.2 with ⟨_, hv⟩ | ⟨g, cap', cur, hv, _⟩
  · omega
  · simp only [Value.slice.injEq] at hv; exact ⟨g, hv.1⟩
theorem OwnsB.cell {B : Nat} {w : World} {g cap : Nat} {l : List UInt8} (h : OwnsB B w (some ⟨g, 0, none⟩) cap l) (i : Nat) (hi : i < l.length) : w.cell? ⟨g, i, none⟩ = some (.int .u8 ((l.getD i 0).toNat : Int)) := by
  rw [World.ownsRow.cellAt h i (by omega)]
  simp [List.getElem?_eq_getElem hi, encB]
theorem OwnsB.free {B : Nat} {w : World} {g cap : Nat} {l : List UInt8} (h : OwnsB B w (some ⟨g, 0, none⟩) cap l) (i : Nat) : w.frozen? ⟨g, i, none⟩ = false := World.ownsRow.frozenAt h i
theorem OwnsB.set {B : Nat} {w : World} {g cap : Nat} {l : List UInt8} (h : OwnsB B w (some ⟨g, 0, none⟩) cap l) (i : Nat) (v : UInt8) : OwnsB B (w.setCell ⟨g, i, none⟩ (.int .u8 (v.toNat : Int))) (some ⟨g, 0, none⟩) cap (l.set i v) := by
  have := (World.ownsRow.stored h i (.int .u8 (v.toNat : Int))).1
  have e : (l.map encB).set i (.int .u8 (v.toNat : Int)) = (l.set i v).map encB := by rw [List.map_set]; rfl
  rw [e] at this
  unfold OwnsB
  rw [List.length_set]
  exact this
theorem OwnsB.made (B : Nat) (w : World) (hB : B ≤ w.heap.size) : OwnsB B (w.alloc (.cells #[] 5)) (some ⟨w.heap.size, 0, none⟩) 0 [] :=
  World.ownsRow_made (base := B) (e := 5) (size := 1) w #[] 0 hB (by unfold maxLen; omega) rfl

theorem OwnsB.made' (B g : Nat) (w : World) (hB : B ≤ w.heap.size) (hg : w.heap.size = g) : OwnsB B (w.alloc (.cells #[] 5)) (some ⟨g, 0, none⟩) 0 [] := by
  subst hg; exact OwnsB.made B w hB

/-- The bytes of a block just made. -/
theorem bts_new (w : World) (l : List UInt8) (t : TypeId) (p : Nat × Nat) : Bts (w.alloc (.cells (l.map encB).toArray t p)) (some ⟨w.heap.size, 0, none⟩) l := by
  refine .inr ⟨_, _, rfl, fun i hi => ?_⟩
  have h : (w.alloc (.cells (l.map encB).toArray t p)).heap[w.heap.size]? = some (.cells (l.map encB).toArray t p) := by
    show (w.heap.push _)[w.heap.size]? = _
    simp
  unfold World.cell?
  simp only [h]
  simp [List.getElem?_eq_getElem hi]
theorem bts_one (w : World) (v : UInt8) (t : TypeId) (p : Nat × Nat) : Bts (w.alloc (.cells #[.int .u8 (v.toNat : Int)] t p)) (some ⟨w.heap.size, 0, none⟩) [v] := bts_new w [v] t p

section
variable {w : World} {o : Oper} {a : Act} {Q : Exit → Act → World → Prop}

theorem wp_app {K : Act → World → Prop} (s x : Operand) (ho : o.op = .call { callee := .builtin .append, args := #[s, x], argTypes := #[22, 22] })
    {B : Nat} {xa : Option Addr} {cap : Nat} {l : List UInt8} (hown : OwnsB B w xa cap l) (hs : a.eval s = .slice xa l.length cap)
    {y : Option Addr} {m : List UInt8} {c : Nat} (hx : a.eval x = .slice y m.length c) (hy : Bts w y m) (hyn : y = none → c = 0) (hl : l.length + m.length ≤ 10000000) {lm : List UInt8} (hlm : l ++ m = lm) (hB : B ≤ w.heap.size)
    (h : ∀ x' cap' w', OwnsB B w' x' cap' lm → Below B w w' → Turns (RowOf xa) w w' → K (a.put o.dst (.slice x' lm.length cap')) w') : o.wp Tryz.prog a w K Q := by
  subst hlm
  obtain ⟨i0, hi, hz0, hz1, hz2⟩ := info_parts infoByte
  cases y with
  | none =>
    obtain rfl := hyn rfl
    have hm : m = [] := by
      rcases hy with h | ⟨b, o, hx, _⟩
      · exact h
      · cases hx
    subst hm
    have hrun := run_append_owned_none (P := Tryz.prog) (w := w) B 22 o.type 5 i0 1 Tryz.underlying22 hi _ _ _ hown
    have hk := h xa cap w (by rw [List.append_nil]; exact hown) (Below.refl _ _) (Turns.refl _ _)
    rw [List.append_nil] at hk
    simp only [List.length_nil] at hx
    unfold Oper.wp
    simp [execOp, ho, resolve, invoke, builtin, hs, hx, hrun, Result.andThen]
    exact hk
  | some ad =>
    refine wp_append_own w s x 22 ho B 5 i0 (.int .u8 0) 1 1 Tryz.underlying22 hi hz0 hz1 hz2 rfl (by decide) _ _ _ hs hown ad m.length c (m.map encB) hx (by simp) (news_of_bts hy) (oneEnc m) (by unfold maxLen; omega) (by omega) hB (fun v' w' h1 h2 _ => ?_)
    obtain ⟨x', cap', rfl⟩ := owns_form h1
    have hlen : l.length + m.length = (l ++ m).length := by simp
    rw [hlen, ← List.map_append] at h1
    rw [hlen]
    refine h x' cap' w' h1 ((Below.refl _ _).grown h2 hB (fun k e => ?_)) (Turns.of_grownBy h2 (fun b e => ?_))
    · exact (OwnsB.low hown k (by unfold RowOf; cases xa <;> exact e)).1
    · unfold RowOf; cases xa <;> exact e

theorem wpList_app {ops : Array Oper} {rest : List Oper} (hg : o.guard = none) (s x : Operand) (ho : o.op = .call { callee := .builtin .append, args := #[s, x], argTypes := #[22, 22] })
    {B : Nat} {xa : Option Addr} {cap : Nat} {l : List UInt8} (hown : OwnsB B w xa cap l) (hs : a.eval s = .slice xa l.length cap)
    {y : Option Addr} {m : List UInt8} {c : Nat} (hx : a.eval x = .slice y m.length c) (hy : Bts w y m) (hyn : y = none → c = 0) (hl : l.length + m.length ≤ 10000000) {lm : List UInt8} (hlm : l ++ m = lm) (hB : B ≤ w.heap.size)
    (h : ∀ x' cap' w', OwnsB B w' x' cap' lm → Below B w w' → Turns (RowOf xa) w w' → wpList Tryz.prog ops Q rest (a.put o.dst (.slice x' lm.length cap')) w') : wpList Tryz.prog ops Q (o :: rest) a w :=
  wpList_plain hg fun _ hK => wp_app s x ho hown hs hx hy hyn hl hlm hB fun x' cap' w' h1 h2 h3 => hK _ _ (h x' cap' w' h1 h2 h3)

/-- append to a slice without room: a new row. -/
theorem wpList_app_full {ops : Array Oper} {rest : List Oper} (hg : o.guard = none) (s x : Operand) (ho : o.op = .call { callee := .builtin .append, args := #[s, x], argTypes := #[22, 22] })
    {xa : Option Addr} {l : List UInt8} {cap : Nat} (hs : a.eval s = .slice xa l.length cap) (hxa : Bts w xa l) (hn : xa = none → cap = 0)
    {ad : Addr} {m : List UInt8} {c : Nat} (hx : a.eval x = .slice (some ad) m.length c) (hy : Bts w (some ad) m) (hf : cap < l.length + m.length) (hl : l.length + m.length ≤ 10000000) {lm : List UInt8} (hlm : l ++ m = lm)
    (h : ∀ x' cap' w', OwnsB w.heap.size w' x' cap' lm → Below w.heap.size w w' → wpList Tryz.prog ops Q rest (a.put o.dst (.slice x' lm.length cap')) w') : wpList Tryz.prog ops Q (o :: rest) a w := by
  subst hlm
  obtain ⟨i0, hi, hz0, hz1, hz2⟩ := info_parts infoByte
  refine wpList_append_grows w hg s x 22 ho 5 i0 (.int .u8 0) 1 1 Tryz.underlying22 hi hz0 hz1 hz2 rfl (by decide) xa l.length cap (l.map encB) hs (fun e => ⟨?_, hn e⟩) (by simp) (fun b e => by subst e; exact news_of_bts hxa)
    ad m.length c (m.map encB) hx (by simp) (news_of_bts hy) (oneEnc m) hf (by unfold maxLen; omega) (by omega) (fun v' w' h1 h2 => ?_)
  · rcases hxa with h | ⟨b, o, hx, _⟩
    · subst h; rfl
    · rw [e] at hx; cases hx
  · obtain ⟨x', cap', rfl⟩ := owns_form h1
    have hlen : l.length + m.length = (l ++ m).length := by simp
    rw [hlen, ← List.map_append] at h1
    rw [hlen]
    exact h x' cap' w' h1 ((Below.refl _ _).grown h2 (Nat.le_refl _) (fun k e => by cases e))

end
end

section
open Go.RowKit

theorem dbl (x : D64) (j : Nat) : x <<< j + x <<< j = x <<< (j + 1) := by
  rw [BitVec.shiftLeft_add, show ∀ y : D64, y <<< 1 = y + y from fun y => by
    apply BitVec.eq_of_toNat_eq
    simp [BitVec.toNat_add, BitVec.toNat_shiftLeft, Nat.shiftLeft_eq]; omega]
theorem half1 (x : D64) (j : Nat) : num (x >>> j) / 2 = num (x >>> (j + 1)) := by
  rw [BitVec.shiftRight_add]; exact shr_of (x >>> j) 1
theorem rot_add (x : D64) : x <<< 20 + x >>> 44 = Dig.rot x := by
  unfold Dig.rot
  refine BitVec.add_eq_or_of_and_eq_zero _ _ ?_
  apply BitVec.eq_of_getLsbD_eq
  intro i hi
  by_cases h : i < 20
  · simp [h]
  · rw [BitVec.getLsbD_and, BitVec.getLsbD_ushiftRight, BitVec.getLsbD_of_ge x (44 + i) (by omega)]; simp

/-- Shifts by names that simp does not open. -/
def shl (x : D64) (k : Nat) : D64 := x <<< k
def shr (x : D64) (k : Nat) : D64 := x >>> k

def RefBytesOf (l : List UInt8) (w : World) (e : Ending) (w' : World) : Prop := ∃ x cap, e = .returned (.slice x l.length cap) ∧ OwnsB w.heap.size w' x cap l ∧ Below w.heap.size w w'

theorem tdiv_num (x : D64) (k : Nat) (_hk : k < 64) : IntKind.u64.wrap ((num x).tdiv ((2 ^ k : Nat) : Int)) = num (x >>> k) := by
  have h0 := num_nonneg x
  rw [Int.tdiv_eq_ediv_of_nonneg h0, shr_of x k]
  exact u64_wrap _
@[go_sem] theorem tdiv_256 (x : D64) : IntKind.u64.wrap ((num x).tdiv 256) = num (x >>> 8) := tdiv_num x 8 (by decide)
@[go_sem] theorem tdiv_16 (x : D64) : IntKind.u64.wrap ((num x).tdiv 16) = num (x >>> 4) := tdiv_num x 4 (by decide)
@[go_sem] theorem tmod_256 (x : D64) : (num x).tmod 256 % 256 = ((lowB x).toNat : Int) := by
  have h0 := num_nonneg x
  rw [Int.tmod_eq_emod_of_nonneg h0, ← u8_low]
  simp [IntKind.wrap, IntKind.bits, IntKind.signed]
theorem num_mod256 (x : D64) : IntKind.u8.wrap (num x % 256) = ((lowB x).toNat : Int) := by
  rw [← u8_low]; simp [IntKind.wrap, IntKind.bits, IntKind.signed]
theorem div256 (x : D64) (j : Nat) : num (x >>> (8 * j)) / 256 = num (x >>> (8 * (j + 1))) := by
  rw [Nat.mul_add, Nat.mul_one, BitVec.shiftRight_add]; exact shr_8 _
theorem bytes_take (d : D64) (j : Nat) (h : j < 8) : (Dig.bytes d).take (j + 1) = (Dig.bytes d).take j ++ [lowB (d >>> (8 * j))] := by
  rw [List.take_add_one]
  congr 1
  unfold Dig.bytes
  rw [List.getElem?_map, List.getElem?_range h]; rfl

def RefBRel (d : D64) (w : World) (u0 u3 u4 : Value) (wr : World) : Prop :=
  ∃ (j : Nat) (x : Option Addr) (cap : Nat), j ≤ 8 ∧ u4 = .int .i64 (j : Int) ∧ u0 = .int .u64 (num (d >>> (8 * j))) ∧ u3 = .slice x ((Dig.bytes d).take j).length cap ∧ OwnsB w.heap.size wr x cap ((Dig.bytes d).take j) ∧ Below w.heap.size w wr

end

section
open Go.RowKit

theorem OwnsB.none_cap {B : Nat} {w : World} {x : Option Addr} {cap : Nat} {l : List UInt8} (h : OwnsB B w x cap l) : x = none → cap = 0 := by
  intro e
  rcases h.2 with ⟨hv, _⟩ | ⟨g, cap', cur, hv, _⟩
  · simp only [Value.slice.injEq] at hv; exact hv.2.2
  · simp only [Value.slice.injEq] at hv; rw [e] at hv; exact absurd hv.1 (by simp)
theorem OwnsB.later {B : Nat} {w w' : World} {x : Option Addr} {cap : Nat} {l : List UInt8} (h : OwnsB B w x cap l) (hb : Below w.heap.size w w') : OwnsB B w' x cap l :=
  h.turn (T := fun _ => False) (Turns.of_below hb (Nat.le_refl _)) (fun _ _ h => h)

def NumOf (d : D64) (w : World) (e : Ending) (w' : World) : Prop := e = .returned (.int .u64 (num d)) ∧ Below w.heap.size w w'

theorem pair_any (a b : D64) (w : World) : Calls Tryz.prog 72 #[.int .u64 (num a), .int .u64 (num b)] w (NumOf (Dig.pair a b) w) := by
  have HP : Hid (num (Dig.ofL (Dig.bytes a ++ Dig.bytes b)) = num (Dig.pair a b)) := rfl
  obtain ⟨la, hla⟩ : ∃ l, Dig.bytes a = l := ⟨_, rfl⟩
  obtain ⟨lb, hlb⟩ : ∃ l, Dig.bytes b = l := ⟨_, rfl⟩
  have na : la.length = 8 := by rw [← hla]; exact Dig.bytes_length _
  have nb : lb.length = 8 := by rw [← hlb]; exact Dig.bytes_length _
  have ca := bytes_any a
  have cb := bytes_any b
  rw [hla] at ca HP
  rw [hlb] at cb HP
  have HA := Lib.hid na
  have HB := Lib.hid nb
  clear hla hlb na nb
  obtain ⟨l, hl⟩ : ∃ l, la ++ lb = l := ⟨_, rfl⟩
  go_enter Tryz.func72, Tryz.ntmps72
  go_wp2_with fail
  refine (ca _).mono ?_
  rintro e w1 ⟨b1, rfl, y1, hb1⟩
  clear ca
  go_wp2_with fail
  refine (cb _).mono ?_
  rintro e w2 ⟨b2, rfl, y2, hb2⟩
  clear cb
  have z1 := y1.later hb2
  go_wp2_with (at_builtin; refine wpList_app_full rfl _ _ rfl (l := la) (cap := la.length) rfl z1 (fun h => by cases h) (m := lb) rfl y2 (by have := HB.out; omega) (by have := HA.out; have := HB.out; omega) hl ?_; intro x' cap' w3 h1 h2)
  have y3 := h1.bts
  clear y1 y2 z1 h1
  have hll : (l.length : Int) ≤ 100000 := by rw [← hl]; have := HA.out; have := HB.out; simp; omega
  rw [hl] at HP
  clear hl
  go_wp2_with fail
  refine (of_any _ l _ _ hll y3).mono ?_
  rintro e w4 ⟨rfl, h4⟩
  rw [HP.out]
  clear y3 hll
  go_wp2_with fail
  go_ret
  exact ⟨rfl, thru (thru (thru hb1 hb2) h2) h4⟩

end

end Go.Proofs.YtapefonhgkjgnaaGreat
