/- A range over a function whose values are known beforehand, at the wide fence: the iterator's contract and the statement's law. The body owns a list of blocks (it may grow), the iterator a fixed set of boxes. Proved over any program. -/
import Derived.RangeFuncRecord
import Derived.RangeFuncOwn
import Derived.RangeFuncCalls
import Derived.RangeFuncLeaves
import Derived.RangeFuncNested
import Derived.Test.YtgibfagnfhgelaaTurns
namespace Go.Proofs.Ytgibfagnfhgelaa
open Go.RowKit

theorem Turns.putObj {T : Nat → Prop} {a b : World} (h : Turns T a b) {l : Nat} (hp : l < a.heap.size → T l) (o : Obj) : Turns T a (b.putObj l o) :=
  Turns.trans' h (T' := fun i => i = l) ⟨rfl, rfl, rfl, by simp, fun k _ hk => World.putObj_heap_other hk⟩ (fun i hi e => by cases e; exact hp hi)

section
variable {P : Program}

/-- The iterator g (with captured values lb), called in a world that has grown out of w: it hands out x 0, x 1 .. x (len - 1), and turns only the boxes T of what lies; J: what holds when k rounds are over, the body owning the blocks S; Jx: after a round that has said 'no more'. -/
def Yields {α : Type} (n : Nat) (P : Program) (g : Nat) (lb : Array Value) (encs : α → Array Value) (len : Nat) (x : Nat → α) (stops : Prop) (T : Nat → Prop) (w : World) : Prop :=
  ∀ (l : Nat) (J Jx : Nat → List Nat → World → Prop) (S0 : List Nat) (W : World), Turns (fun _ => False) w W → w.heap.size ≤ l → l < W.heap.size →
    (∀ k S A B, J k S A → Turns T A B → J k S B) → (∀ k S A B, Jx k S A → Turns T A B → Jx k S B) →
    (∀ k S A, J k S A → ∀ b, b ∈ S → b < A.heap.size ∧ ¬ T b) →
    (stops ∨ ∀ S A, J len S A → False) →
    (∀ k S W1, k < len → J k S W1 → YieldAt Fence.wide (n - 1) P l (encs (x k)) W1 fun e W' =>
      ∃ S', (∀ b, b ∈ S' → b ∈ S ∨ W1.heap.size ≤ b) ∧ Turns (fun b => b ∈ S ∨ b = l) W1 W' ∧
        ((e = .returned (.bool true) ∧ J (k + 1) S' W') ∨ (e = .returned (.bool false) ∧ Jx (k + 1) S' W'))) →
    J 0 S0 W →
    CallsIn Fence.wide n P g (#[.func (.yield l) #[] #[]] ++ lb) W fun e W' => (∃ v, e = .returned v) ∧ ((∃ S, J len S W') ∨ (∃ k S, k < len ∧ Jx (k + 1) S W'))

theorem Yields.of {α β : Type} {n : Nat} {g : Nat} {lb : Array Value} {encs : α → Array Value} {encs' : β → Array Value} {len : Nat} {x : Nat → α} {x' : Nat → β} {stops : Prop} {T : Nat → Prop} {w : World}
    (h : Yields n P g lb encs len x stops T w) (he : ∀ k, k < len → encs' (x' k) = encs (x k)) : Yields n P g lb encs' len x' stops T w :=
  fun l J Jx S0 W a b c d e f g' hY h0 => h l J Jx S0 W a b c d e f g' (fun k S W1 hk hj => by rw [← he k hk]; exact hY k S W1 hk hj) h0

/-- How the body of a round may be left. -/
def roundEnd (S : List Nat) (I : Nat → List Nat → World → Prop) (Ix : Code → Nat → List Nat → World → Prop) (k : Nat) (W : World) : Exit → Act → World → Prop
  | .normal, _, W' => ∃ S', (∀ b, b ∈ S' → b < W'.heap.size ∧ (b ∈ S ∨ W.heap.size ≤ b)) ∧ Turns (fun b => b ∈ S) W W' ∧ I (k + 1) S' W'
  | .ret, _, W' => ∃ S', (∀ b, b ∈ S' → b < W'.heap.size ∧ (b ∈ S ∨ W.heap.size ≤ b)) ∧ Turns (fun b => b ∈ S) W W' ∧ Ix .ret (k + 1) S' W'
  | .exit id, _, W' => ∃ S', (∀ b, b ∈ S' → b < W'.heap.size ∧ (b ∈ S ∨ W.heap.size ≤ b)) ∧ Turns (fun b => b ∈ S) W W' ∧ Ix (.exit id) (k + 1) S' W'
  | .goto t, _, W' => ∃ S', (∀ b, b ∈ S' → b < W'.heap.size ∧ (b ∈ S ∨ W.heap.size ≤ b)) ∧ Turns (fun b => b ∈ S) W W' ∧ Ix (.goto t) (k + 1) S' W'
  | .panic _, _, _ => False
  | .outgrown, _, _ => False

/-- A function that ranged over a function returns: its one mark is taken up. -/
theorem ret_mark {n : Nat} {fn : Func} {R : Ending → World → Prop} {tmps : Array Value} {D : Nat} {W : World} (v : Value) (hK : W.heap[D]? = some (.deferred (some [])))
    (h : ∀ W', Turns (fun b => b = D) W W' → (results fn tmps).run P W' = .ok v W' ∧ R (.returned v) W') :
    bodyPostM Fence.wide n P fn R .ret { tmps := tmps, defers := [{ target := .collected D, args := #[] }] } W :=
  have ht := h (W.putObj D (.deferred none)) ((Turns.refl (fun b => b = D) W).putObj (fun _ => rfl) _)
  ⟨by simp, .inl ⟨_, _, rfl, run_takeDeferred hK, v, ht.1, ht.2⟩⟩
theorem ret_plain {n : Nat} {fn : Func} {R : Ending → World → Prop} {tmps : Array Value} {W : World} (v : Value) (h : (results fn tmps).run P W = .ok v W) (hR : R (.returned v) W) :
    bodyPostM Fence.wide n P fn R .ret { tmps := tmps, defers := [] } W := ⟨v, h, hR⟩

/-- THE STATEMENT 'for .. := range g { .. }'. -/
theorem wpIn_range {α : Type} {n : Nat} {g : Operand} {ps : Array Tmp} {assign body : Code} {Q : Exit → Act → World → Prop} {a : Act} {w : World}
    {gf : Nat} {lb : Array Value} (hg : a.eval g = .func (.func gf) #[] lb) (eg : ∀ args w, (callFunc gf args).run P w = .ok (.enter gf args) w)
    {encs : α → Array Value} {len : Nat} {x : Nat → α} {stops : Prop} {T : Nat → Prop} (hT : ∀ b, T b → b < w.heap.size)
    (hseq : Yields (n - 1) P gf lb encs len x stops T w) (hps : ∀ x, (encs x).size = ps.size)
    (I : Nat → List Nat → World → Prop) (Ix : Code → Nat → List Nat → World → Prop) (S0 : List Nat) (hS0 : ∀ b, b ∈ S0 → b < w.heap.size ∧ ¬ T b)
    (hI : ∀ k S A B, I k S A → Turns (fun b => T b ∨ b = w.heap.size ∨ b = w.heap.size + 1) A B → I k S B)
    (hIx : ∀ c k S A B, Ix c k S A → Turns (fun b => T b ∨ b = w.heap.size ∨ b = w.heap.size + 1) A B → Ix c k S B)
    (hend : stops ∨ ∀ S A, I len S A → False)
    (h0 : I 0 S0 w) (a₁ : α → Act)
    (hassign : ∀ (x : α) (W : World) (K : Act → World → Prop), K (a₁ x) W →
      assign.wpIn (Fence.wide.inRound (w.heap.size + 1)) (n - 1 - 1) P (Exit.then K (fun _ _ _ => False)) { tmps := (ps.zip (encs x)).foldl (fun t (p, v) => t.setIfInBounds p v) a.tmps, defers := [] } W)
    (hbody : ∀ (k : Nat) (S : List Nat) (W : World), k < len → w.heap.size + 1 < W.heap.size → I k S W → (∀ b, b ∈ S → b < W.heap.size) → body.wpIn (Fence.wide.inRound (w.heap.size + 1)) (n - 1 - 1) P (roundEnd S I Ix k W) (a₁ (x k)) W)
    (hdone : ∀ (S : List Nat) (W : World), w.heap.size < W.heap.size → I len S W → W.heap[w.heap.size]? = some (.deferred (some [])) → Q .normal { a with defers := { target := .collected w.heap.size, args := #[] } :: a.defers } W)
    (hstop : ∀ (c : Code) (k : Nat) (S : List Nat) (W : World), k < len → w.heap.size < W.heap.size → Ix c (k + 1) S W → W.heap[w.heap.size]? = some (.deferred (some [])) → c.wpIn Fence.wide n P Q { a with defers := { target := .collected w.heap.size, args := #[] } :: a.defers } W) :
    (Code.rangeFunc g ps assign body).wpIn Fence.wide n P Q a w := by
  refine wpIn_rangeFunc ?_
  intro fn hfn
  obtain ⟨rec, hrec⟩ : ∃ rec : LoopState → Option Code → Loop, rec = fun st pe => { state := st, pending := pe, fn, tmps := a.tmps, params := ps, assign, body, defers := w.heap.size } := ⟨_, rfl⟩
  obtain ⟨W1, hW1⟩ : ∃ W1, (w.alloc (.deferred (some []))).alloc (.loop (rec .ready none)) = W1 := ⟨_, rfl⟩
  have hL1 : W1.heap[w.heap.size + 1]? = some (.loop (rec .ready none)) := by
    rw [← hW1]; have := World.alloc_heap_new (w.alloc (.deferred (some []))) (.loop (rec .ready none)); rwa [World.size_alloc] at this
  have hK1 : W1.heap[w.heap.size]? = some (.deferred (some [])) := by
    rw [← hW1]; exact (Below.heap_alloc _ _ _ (by simp)).trans (World.alloc_heap_new w _)
  have hw1 : ∀ T, Turns T w W1 := fun T => by rw [← hW1]; exact ((Turns.refl T w).alloc _).alloc _
  have hI1 : I 0 S0 W1 := hI _ _ _ _ h0 (hw1 _)
  have hz1 : w.heap.size + 1 < W1.heap.size := by rw [← hW1]; simp
  refine ⟨w.heap.size + 1, [{ target := .collected w.heap.size, args := #[] }], W1, { target := .fn (.func gf) lb, args := #[.func (.yield (w.heap.size + 1)) #[] #[]] }, W1, gf,
    #[.func (.yield (w.heap.size + 1)) #[] #[]] ++ lb, W1, ?_, ?_, ?_, ?_, fun h => by simp [Fence.wide] at h, ?_⟩
  · rw [← hW1, hrec]; exact run_enterLoop_outer _ _ _ _ _
  · simp only [resolve, hg]
    simp [go_sem]
  · intro f' _; trivial
  · simp [invoke, go_sem, eg]
  · have hD : ¬ T w.heap.size := fun e => Nat.lt_irrefl _ (hT _ e)
    have hl : ¬ T (w.heap.size + 1) := fun e => by have := hT _ e; omega
    refine (hseq (w.heap.size + 1)
      (fun k S W => I k S W ∧ (∀ b, b ∈ S → b < W.heap.size ∧ ¬ T b ∧ b ≠ w.heap.size ∧ b ≠ w.heap.size + 1) ∧ W.heap[w.heap.size + 1]? = some (.loop (rec .ready none)) ∧ W.heap[w.heap.size]? = some (.deferred (some [])))
      (fun k S W => ∃ c, Ix c k S W ∧ W.heap[w.heap.size + 1]? = some (.loop (rec .done (some c))) ∧ W.heap[w.heap.size]? = some (.deferred (some [])))
      S0 W1 (hw1 _) (by omega) hz1 ?_ ?_ (fun k S A h b hb => ⟨(h.2.1 b hb).1, (h.2.1 b hb).2.1⟩) (hend.imp id (fun h S A hh => h S A hh.1)) ?_ ⟨hI1, fun b hb => ?_, hL1, hK1⟩).mono ?_
    · rintro k S A B ⟨h1, h2, h3, h4⟩ ht
      exact ⟨hI _ _ _ _ h1 (ht.mono fun i _ h => .inl h), fun b hb => ⟨Nat.lt_of_lt_of_le (h2 b hb).1 ht.size, (h2 b hb).2⟩, ht.obj hl h3, ht.obj hD h4⟩
    · rintro k S A B ⟨c, h1, h3, h4⟩ ht
      exact ⟨c, hIx _ _ _ _ _ h1 (ht.mono fun i _ h => .inl h), ht.obj hl h3, ht.obj hD h4⟩
    · -- one round
      rintro k S W hk ⟨hi, hS, hl1, hk1⟩
      have hlt : w.heap.size + 1 < W.heap.size := (Array.getElem?_eq_some_iff.1 hl1).1
      have hy := run_yield (P := P) (args := encs (x k)) hl1 (by rw [hrec]; exact hps _)
      rw [hrec] at hy
      refine ⟨fn, _, assign, body, hy, roundIn_of_wpIn hfn (hassign _ W _ ⟨_, run_beginRound hl1 (by rw [hrec]), ?_⟩)⟩
      obtain ⟨Wb, hWb⟩ : ∃ Wb, W.putObj (w.heap.size + 1) (.loop { rec .ready none with state := .busy }) = Wb := ⟨_, rfl⟩
      have hl2 : Wb.heap[w.heap.size + 1]? = some (.loop { rec .ready none with state := .busy }) := by rw [← hWb]; exact World.putObj_heap_same hlt
      have hk2 : Wb.heap[w.heap.size]? = some (.deferred (some [])) := by rw [← hWb]; exact (World.putObj_heap_other (by omega)).trans hk1
      have hzb : Wb.heap.size = W.heap.size := by rw [← hWb]; simp
      have hwb : ∀ T : Nat → Prop, T (w.heap.size + 1) → Turns T W Wb := fun T ht => by rw [← hWb]; exact (Turns.refl _ _).putObj (fun _ => ht) _
      rw [hWb]
      refine wpIn_mono (hbody k S Wb hk (by omega) (hI _ _ _ _ hi (hwb _ (.inr (.inr rfl)))) (fun b hb => by rw [hzb]; exact (hS b hb).1)) ?_
      have fin : ∀ (jump : Option Code) (S' : List Nat) (W3 : World), (∀ b, b ∈ S' → b < W3.heap.size ∧ (b ∈ S ∨ Wb.heap.size ≤ b)) → Turns (fun b => b ∈ S) Wb W3 →
          (Instr.endRound (w.heap.size + 1) jump).run P W3 = .ok (.bool jump.isNone) (W3.putObj (w.heap.size + 1) (.loop (rec (if jump.isNone then .ready else .done) jump))) ∧
          (W3.putObj (w.heap.size + 1) (.loop (rec (if jump.isNone then .ready else .done) jump))).heap[w.heap.size + 1]? = some (.loop (rec (if jump.isNone then .ready else .done) jump)) ∧
          (W3.putObj (w.heap.size + 1) (.loop (rec (if jump.isNone then .ready else .done) jump))).heap[w.heap.size]? = some (.deferred (some [])) ∧
          Turns (fun b => b ∈ S ∨ b = w.heap.size + 1) W (W3.putObj (w.heap.size + 1) (.loop (rec (if jump.isNone then .ready else .done) jump))) ∧
          (∀ b, b ∈ S' → b ∈ S ∨ W.heap.size ≤ b) ∧ (∀ b, b ∈ S' → b < W3.heap.size ∧ ¬ T b ∧ b ≠ w.heap.size ∧ b ≠ w.heap.size + 1) ∧
          Turns (fun b => T b ∨ b = w.heap.size ∨ b = w.heap.size + 1) W3 (W3.putObj (w.heap.size + 1) (.loop (rec (if jump.isNone then .ready else .done) jump))) := fun jump S' W3 hS' ht3 => by
        have hl3 := ht3.obj (fun e => (hS _ e).2.2.2 rfl) hl2
        have := run_endRound (P := P) jump hl3
        rw [hrec] at this ⊢
        refine ⟨this, World.putObj_heap_same (Array.getElem?_eq_some_iff.1 hl3).1, (World.putObj_heap_other (by omega)).trans (ht3.obj (fun e => (hS _ e).2.2.1 rfl) hk2), ?_, fun b hb => ?_, fun b hb => ?_, (Turns.refl _ _).putObj (fun _ => .inr (.inr rfl)) _⟩
        · exact ((hwb _ (.inr rfl)).trans (ht3.mono fun i _ h => .inl h)).putObj (fun _ => .inr rfl) _
        · rw [← hzb]; exact (hS' b hb).2
        · refine ⟨(hS' b hb).1, ?_⟩
          rcases (hS' b hb).2 with h | h
          · exact (hS b h).2
          · exact ⟨fun e => by have := hT _ e; omega, by omega, by omega⟩
      rintro e a3 W3 hp
      cases e with
      | normal =>
        obtain ⟨S', hS', ht3, hi3⟩ := hp
        obtain ⟨hr, hl4, hk4, ht4, hs4, hs5, ht5⟩ := fin none S' W3 hS' ht3
        exact ⟨_, _, hr, S', hs4, ht4, .inl ⟨rfl, hI _ _ _ _ hi3 ht5, fun b hb => by simpa using hs5 b hb, hl4, hk4⟩⟩
      | ret =>
        obtain ⟨S', hS', ht3, hi3⟩ := hp
        obtain ⟨hr, hl4, hk4, ht4, hs4, hs5, ht5⟩ := fin (some .ret) S' W3 hS' ht3
        exact ⟨_, _, hr, S', hs4, ht4, .inr ⟨rfl, .ret, hIx _ _ _ _ _ hi3 ht5, hl4, hk4⟩⟩
      | exit id =>
        obtain ⟨S', hS', ht3, hi3⟩ := hp
        obtain ⟨hr, hl4, hk4, ht4, hs4, hs5, ht5⟩ := fin (some (.exit id)) S' W3 hS' ht3
        exact ⟨_, _, hr, S', hs4, ht4, .inr ⟨rfl, .exit id, hIx _ _ _ _ _ hi3 ht5, hl4, hk4⟩⟩
      | goto t =>
        obtain ⟨S', hS', ht3, hi3⟩ := hp
        obtain ⟨hr, hl4, hk4, ht4, hs4, hs5, ht5⟩ := fin (some (.goto t)) S' W3 hS' ht3
        exact ⟨_, _, hr, S', hs4, ht4, .inr ⟨rfl, .goto t, hIx _ _ _ _ _ hi3 ht5, hl4, hk4⟩⟩
      | panic ch => exact hp.elim
      | outgrown => exact hp.elim
    · have := hS0 b hb
      exact ⟨by omega, this.2, by omega, by omega⟩
    · -- behind the iterator
      rintro e W2 ⟨⟨v, rfl⟩, (⟨S, hi, _, hl, hk⟩ | ⟨k, S, hkl, c, hi, hl, hk⟩)⟩
      · have hz := (Array.getElem?_eq_some_iff.1 hk).1
        exact ⟨none, _, by have := run_endLoop (P := P) hl (by rw [hrec]; simp); rw [hrec] at this; exact this, hdone S _ (by simpa using hz) (hI _ _ _ _ hi ((Turns.refl _ _).putObj (fun _ => .inr (.inr rfl)) _)) ((World.putObj_heap_other (by omega)).trans hk)⟩
      · have hz := (Array.getElem?_eq_some_iff.1 hk).1
        exact ⟨some c, _, by have := run_endLoop (P := P) hl (by rw [hrec]; simp); rw [hrec] at this; exact this, hstop c k S _ hkl (by simpa using hz) (hIx _ _ _ _ _ hi ((Turns.refl _ _).putObj (fun _ => .inr (.inr rfl)) _)) ((World.putObj_heap_other (by omega)).trans hk)⟩

end

end Go.Proofs.Ytgibfagnfhgelaa
