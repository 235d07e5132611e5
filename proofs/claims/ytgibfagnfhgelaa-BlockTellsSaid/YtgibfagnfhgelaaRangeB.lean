/- A range over a function whose loop variable is boxed (the assign code makes a block), and functions that leave with several marks. Proved over any program. -/
import Derived.Test.YtgibfagnfhgelaaRange
namespace Go.Proofs.Ytgibfagnfhgelaa
open Go.RowKit

section
variable {P : Program}

/-- THE STATEMENT 'for .. := range g { .. }'. -/
theorem wpIn_rangeB {α : Type} {n : Nat} {g : Operand} {ps : Array Tmp} {assign body : Code} {Q : Exit → Act → World → Prop} {a : Act} {w : World}
    {gf : Nat} {lb : Array Value} (hg : a.eval g = .func (.func gf) #[] lb) (eg : ∀ args w, (callFunc gf args).run P w = .ok (.enter gf args) w)
    {encs : α → Array Value} {len : Nat} {x : Nat → α} {stops : Prop} {T : Nat → Prop} (hT : ∀ b, T b → b < w.heap.size)
    (hseq : Yields (n - 1) P gf lb encs len x stops T w) (hps : ∀ x, (encs x).size = ps.size)
    (I : Nat → List Nat → World → Prop) (Ix : Code → Nat → List Nat → World → Prop) (S0 : List Nat) (hS0 : ∀ b, b ∈ S0 → b < w.heap.size ∧ ¬ T b)
    (hI : ∀ k S A B, I k S A → Turns (fun b => T b ∨ b = w.heap.size ∨ b = w.heap.size + 1) A B → I k S B)
    (hIx : ∀ c k S A B, Ix c k S A → Turns (fun b => T b ∨ b = w.heap.size ∨ b = w.heap.size + 1) A B → Ix c k S B)
    (hend : stops ∨ ∀ S A, I len S A → False)
    (h0 : I 0 S0 w) (Ax : α → Act → World → Prop) (hAx : ∀ x a' A B, Ax x a' A → Turns (fun b => b = w.heap.size + 1) A B → Ax x a' B)
    (hassign : ∀ (x : α) (W : World) (K : Act → World → Prop), w.heap.size + 1 < W.heap.size → (∀ a' W', Turns (fun _ => False) W W' → Ax x a' W' → K a' W') →
      assign.wpIn (Fence.wide.inRound (w.heap.size + 1)) (n - 1 - 1) P (Exit.then K (fun _ _ _ => False)) { tmps := (ps.zip (encs x)).foldl (fun t (p, v) => t.setIfInBounds p v) a.tmps, defers := [] } W)
    (hbody : ∀ (k : Nat) (S : List Nat) (a' : Act) (W : World), k < len → w.heap.size + 1 < W.heap.size → I k S W → Ax (x k) a' W → (∀ b, b ∈ S → b < W.heap.size ∧ b ≠ w.heap.size ∧ b ≠ w.heap.size + 1) → body.wpIn (Fence.wide.inRound (w.heap.size + 1)) (n - 1 - 1) P (roundEnd S I Ix k W) a' W)
    (hdone : ∀ (S : List Nat) (W : World), w.heap.size < W.heap.size → I len S W → W.heap[w.heap.size]? = some (.deferred (some [])) → Q .normal { a with defers := { target := .collected w.heap.size, args := #[] } :: a.defers } W)
    (hstop : ∀ (c : Code) (k : Nat) (S : List Nat) (W : World), k < len → w.heap.size < W.heap.size → Ix c (k + 1) S W → W.heap[w.heap.size]? = some (.deferred (some [])) → c.wpIn Fence.wide n P Q { a with defers := { target := .collected w.heap.size, args := #[] } :: a.defers } W) :
    (Code.rangeFunc g ps assign body).wpIn Fence.wide n P Q a w := by
  refine wpIn_rangeFunc ?_
  intro fn hfn
  obtain ⟨rec, hrec⟩ : ∃ rec : LoopState → Option Code → Loop, rec = fun st pe => { state := st, pending := pe, fn, tmps := a.tmps, params := ps, assign, body, defers := w.heap.size } := ⟨_, rfl⟩
  obtain ⟨W1, hW1⟩ : ∃ W1, (w.alloc (.deferred (some []))).alloc (.loop (rec .ready none)) = W1 := ⟨_, rfl⟩
  have hL1 : W1.heap[w.heap.size + 1]? = some (.loop (rec .ready none)) := by
    rw [← hW1]; have := World.alloc_heap_new (w.alloc (.deferred (some []))) (.loop (rec .ready none)); rwa [World.size_alloc] at this
  have hK1 : W1.heap[w.heap.size]? = some (.deferred (some [])) := by
    rw [← hW1]; exact (Below.heap_alloc _ _ _ (by simp)).trans (World.alloc_heap_new w _)
  have hw1 : ∀ T, Turns T w W1 := fun T => by rw [← hW1]; exact ((Turns.refl T w).alloc _).alloc _
  have hI1 : I 0 S0 W1 := hI _ _ _ _ h0 (hw1 _)
  have hz1 : w.heap.size + 1 < W1.heap.size := by rw [← hW1]; simp
  refine ⟨w.heap.size + 1, [{ target := .collected w.heap.size, args := #[] }], W1, { target := .fn (.func gf) lb, args := #[.func (.yield (w.heap.size + 1)) #[] #[]] }, W1, gf,
    #[.func (.yield (w.heap.size + 1)) #[] #[]] ++ lb, W1, ?_, ?_, ?_, ?_, fun h => by simp [Fence.wide] at h, ?_⟩
  · rw [← hW1, hrec]; exact run_enterLoop_outer _ _ _ _ _
  · simp only [resolve, hg]
    simp [go_sem]
  · intro f' _; trivial
  · simp [invoke, go_sem, eg]
  · have hD : ¬ T w.heap.size := fun e => Nat.lt_irrefl _ (hT _ e)
    have hl : ¬ T (w.heap.size + 1) := fun e => by have := hT _ e; omega
    refine (hseq (w.heap.size + 1)
      (fun k S W => I k S W ∧ (∀ b, b ∈ S → b < W.heap.size ∧ ¬ T b ∧ b ≠ w.heap.size ∧ b ≠ w.heap.size + 1) ∧ W.heap[w.heap.size + 1]? = some (.loop (rec .ready none)) ∧ W.heap[w.heap.size]? = some (.deferred (some [])))
      (fun k S W => ∃ c, Ix c k S W ∧ W.heap[w.heap.size + 1]? = some (.loop (rec .done (some c))) ∧ W.heap[w.heap.size]? = some (.deferred (some [])))
      S0 W1 (hw1 _) (by omega) hz1 ?_ ?_ (fun k S A h b hb => ⟨(h.2.1 b hb).1, (h.2.1 b hb).2.1⟩) (hend.imp id (fun h S A hh => h S A hh.1)) ?_ ⟨hI1, fun b hb => ?_, hL1, hK1⟩).mono ?_
    · rintro k S A B ⟨h1, h2, h3, h4⟩ ht
      exact ⟨hI _ _ _ _ h1 (ht.mono fun i _ h => .inl h), fun b hb => ⟨Nat.lt_of_lt_of_le (h2 b hb).1 ht.size, (h2 b hb).2⟩, ht.obj hl h3, ht.obj hD h4⟩
    · rintro k S A B ⟨c, h1, h3, h4⟩ ht
      exact ⟨c, hIx _ _ _ _ _ h1 (ht.mono fun i _ h => .inl h), ht.obj hl h3, ht.obj hD h4⟩
    · -- one round
      rintro k S W hk ⟨hi, hS, hl1, hk1⟩
      have hlt : w.heap.size + 1 < W.heap.size := (Array.getElem?_eq_some_iff.1 hl1).1
      have hy := run_yield (P := P) (args := encs (x k)) hl1 (by rw [hrec]; exact hps _)
      rw [hrec] at hy
      refine ⟨fn, _, assign, body, hy, roundIn_of_wpIn hfn (hassign _ W _ hlt fun a' Wa hta hax => ?_)⟩
      have hla := hta.obj (fun e => e) hl1
      have hka := hta.obj (fun e => e) hk1
      have hlta : w.heap.size + 1 < Wa.heap.size := Nat.lt_of_lt_of_le hlt hta.size
      have hza := hta.size
      have hia := hI _ _ _ _ hi (hta.mono (fun _ _ h => h.elim))
      refine ⟨_, run_beginRound hla (by rw [hrec]), ?_⟩
      obtain ⟨Wb, hWb⟩ : ∃ Wb, Wa.putObj (w.heap.size + 1) (.loop { rec .ready none with state := .busy }) = Wb := ⟨_, rfl⟩
      have hl2 : Wb.heap[w.heap.size + 1]? = some (.loop { rec .ready none with state := .busy }) := by rw [← hWb]; exact World.putObj_heap_same hlta
      have hk2 : Wb.heap[w.heap.size]? = some (.deferred (some [])) := by rw [← hWb]; exact (World.putObj_heap_other (by omega)).trans hka
      have hzb : Wb.heap.size = Wa.heap.size := by rw [← hWb]; simp
      have hwb : ∀ T : Nat → Prop, T (w.heap.size + 1) → Turns T Wa Wb := fun T ht => by rw [← hWb]; exact (Turns.refl _ _).putObj (fun _ => ht) _
      rw [hWb]
      refine wpIn_mono (hbody k S a' Wb hk (by omega) (hI _ _ _ _ hia (hwb _ (.inr (.inr rfl)))) (hAx _ _ _ _ hax (hwb _ rfl)) (fun b hb => ⟨by rw [hzb]; exact Nat.lt_of_lt_of_le (hS b hb).1 hza, (hS b hb).2.2⟩)) ?_
      have fin : ∀ (jump : Option Code) (S' : List Nat) (W3 : World), (∀ b, b ∈ S' → b < W3.heap.size ∧ (b ∈ S ∨ Wb.heap.size ≤ b)) → Turns (fun b => b ∈ S) Wb W3 →
          (Instr.endRound (w.heap.size + 1) jump).run P W3 = .ok (.bool jump.isNone) (W3.putObj (w.heap.size + 1) (.loop (rec (if jump.isNone then .ready else .done) jump))) ∧
          (W3.putObj (w.heap.size + 1) (.loop (rec (if jump.isNone then .ready else .done) jump))).heap[w.heap.size + 1]? = some (.loop (rec (if jump.isNone then .ready else .done) jump)) ∧
          (W3.putObj (w.heap.size + 1) (.loop (rec (if jump.isNone then .ready else .done) jump))).heap[w.heap.size]? = some (.deferred (some [])) ∧
          Turns (fun b => b ∈ S ∨ b = w.heap.size + 1) W (W3.putObj (w.heap.size + 1) (.loop (rec (if jump.isNone then .ready else .done) jump))) ∧
          (∀ b, b ∈ S' → b ∈ S ∨ W.heap.size ≤ b) ∧ (∀ b, b ∈ S' → b < W3.heap.size ∧ ¬ T b ∧ b ≠ w.heap.size ∧ b ≠ w.heap.size + 1) ∧
          Turns (fun b => T b ∨ b = w.heap.size ∨ b = w.heap.size + 1) W3 (W3.putObj (w.heap.size + 1) (.loop (rec (if jump.isNone then .ready else .done) jump))) := fun jump S' W3 hS' ht3 => by
        have hl3 := ht3.obj (fun e => (hS _ e).2.2.2 rfl) hl2
        have := run_endRound (P := P) jump hl3
        rw [hrec] at this ⊢
        refine ⟨this, World.putObj_heap_same (Array.getElem?_eq_some_iff.1 hl3).1, (World.putObj_heap_other (by omega)).trans (ht3.obj (fun e => (hS _ e).2.2.1 rfl) hk2), ?_, fun b hb => ?_, fun b hb => ?_, (Turns.refl _ _).putObj (fun _ => .inr (.inr rfl)) _⟩
        · exact (((hta.mono (fun _ _ h => h.elim)).trans (hwb _ (.inr rfl))).trans (ht3.mono fun i _ h => .inl h)).putObj (fun _ => .inr rfl) _
        · rcases (hS' b hb).2 with h | h
          · exact .inl h
          · exact .inr (by omega)
        · refine ⟨(hS' b hb).1, ?_⟩
          rcases (hS' b hb).2 with h | h
          · exact (hS b h).2
          · exact ⟨fun e => by have := hT _ e; omega, by omega, by omega⟩
      rintro e a3 W3 hp
      cases e with
      | normal =>
        obtain ⟨S', hS', ht3, hi3⟩ := hp
        obtain ⟨hr, hl4, hk4, ht4, hs4, hs5, ht5⟩ := fin none S' W3 hS' ht3
        exact ⟨_, _, hr, S', hs4, ht4, .inl ⟨rfl, hI _ _ _ _ hi3 ht5, fun b hb => by simpa using hs5 b hb, hl4, hk4⟩⟩
      | ret =>
        obtain ⟨S', hS', ht3, hi3⟩ := hp
        obtain ⟨hr, hl4, hk4, ht4, hs4, hs5, ht5⟩ := fin (some .ret) S' W3 hS' ht3
        exact ⟨_, _, hr, S', hs4, ht4, .inr ⟨rfl, .ret, hIx _ _ _ _ _ hi3 ht5, hl4, hk4⟩⟩
      | exit id =>
        obtain ⟨S', hS', ht3, hi3⟩ := hp
        obtain ⟨hr, hl4, hk4, ht4, hs4, hs5, ht5⟩ := fin (some (.exit id)) S' W3 hS' ht3
        exact ⟨_, _, hr, S', hs4, ht4, .inr ⟨rfl, .exit id, hIx _ _ _ _ _ hi3 ht5, hl4, hk4⟩⟩
      | goto t =>
        obtain ⟨S', hS', ht3, hi3⟩ := hp
        obtain ⟨hr, hl4, hk4, ht4, hs4, hs5, ht5⟩ := fin (some (.goto t)) S' W3 hS' ht3
        exact ⟨_, _, hr, S', hs4, ht4, .inr ⟨rfl, .goto t, hIx _ _ _ _ _ hi3 ht5, hl4, hk4⟩⟩
      | panic ch => exact hp.elim
      | outgrown => exact hp.elim
    · have := hS0 b hb
      exact ⟨by omega, this.2, by omega, by omega⟩
    · -- behind the iterator
      rintro e W2 ⟨⟨v, rfl⟩, (⟨S, hi, _, hl, hk⟩ | ⟨k, S, hkl, c, hi, hl, hk⟩)⟩
      · have hz := (Array.getElem?_eq_some_iff.1 hk).1
        exact ⟨none, _, by have := run_endLoop (P := P) hl (by rw [hrec]; simp); rw [hrec] at this; exact this, hdone S _ (by simpa using hz) (hI _ _ _ _ hi ((Turns.refl _ _).putObj (fun _ => .inr (.inr rfl)) _)) ((World.putObj_heap_other (by omega)).trans hk)⟩
      · have hz := (Array.getElem?_eq_some_iff.1 hk).1
        exact ⟨some c, _, by have := run_endLoop (P := P) hl (by rw [hrec]; simp); rw [hrec] at this; exact this, hstop c k S _ hkl (by simpa using hz) (hIx _ _ _ _ _ hi ((Turns.refl _ _).putObj (fun _ => .inr (.inr rfl)) _)) ((World.putObj_heap_other (by omega)).trans hk)⟩


/-- The marks D lie in the world: blocks of rounds without deferred calls. -/
def MarksIn (D : List Nat) (W : World) : Prop := D.Nodup ∧ ∀ d, d ∈ D → W.heap[d]? = some (.deferred (some []))
def marksOf (D : List Nat) : List Deferred := D.map fun d => { target := .collected d, args := #[] }
theorem MarksIn.turn {D : List Nat} {W W' : World} {T : Nat → Prop} (h : MarksIn D W) (ht : Turns T W W') (hT : ∀ d, d ∈ D → ¬ T d) : MarksIn D W' := ⟨h.1, fun d hd => ht.obj (hT d hd) (h.2 d hd)⟩
theorem MarksIn.lt {D : List Nat} {W : World} (h : MarksIn D W) {d : Nat} (hd : d ∈ D) : d < W.heap.size := (Array.getElem?_eq_some_iff.1 (h.2 d hd)).1
theorem MarksIn.nil (W : World) : MarksIn [] W := ⟨List.nodup_nil, fun d hd => by simp at hd⟩
theorem MarksIn.cons {D : List Nat} {W : World} {d : Nat} (h : MarksIn D W) (hd : W.heap[d]? = some (.deferred (some []))) (hn : d ∉ D) : MarksIn (d :: D) W :=
  ⟨List.nodup_cons.2 ⟨hn, h.1⟩, fun e he => by rcases List.mem_cons.1 he with rfl | he; exact hd; exact h.2 e he⟩
/-- A block of cells is no mark. -/
theorem MarksIn.not_cells {D : List Nat} {W : World} (h : MarksIn D W) {d : Nat} (hd : d ∈ D) {v : Value} {o : Nat} (hc : W.cell? ⟨d, o, none⟩ = some v) : False := by
  unfold World.cell? at hc
  rw [h.2 d hd] at hc
  cases hc
theorem leaves_marks {n : Nat} {fn : Func} {R : Ending → World → Prop} {tmps : Array Value} (v : Value) : ∀ (D : List Nat) (W : World), MarksIn D W →
    (∀ W', Turns (fun b => b ∈ D) W W' → (results fn tmps).run P W' = .ok v W' ∧ R (.returned v) W') → LeavesInM Fence.wide n P fn tmps R (marksOf D) .returning W
  | [], W, _, h => ⟨v, (h W (Turns.refl _ _)).1, (h W (Turns.refl _ _)).2⟩
  | d :: D, W, hm, h => by
    have hd := hm.2 d List.mem_cons_self
    have hnd := List.nodup_cons.1 hm.1
    have ht : Turns (fun b => b = d) W (W.putObj d (.deferred none)) := (Turns.refl (fun b => b = d) W).putObj (fun _ => rfl) _
    refine ⟨by simp, .inl ⟨d, _, rfl, run_takeDeferred hd, ?_⟩⟩
    exact leaves_marks v D _ ⟨hnd.2, fun e he => ht.obj (fun e2 => hnd.1 (by subst e2; exact he)) (hm.2 e (List.mem_cons_of_mem _ he))⟩ (fun W' ht' => h W' ((ht.mono (fun i _ e => by subst e; exact List.mem_cons_self)).trans (ht'.mono (fun i _ e => List.mem_cons_of_mem _ e))))
/-- A function that ranged over functions some times returns: all its marks are taken up. -/
theorem ret_marks {n : Nat} {fn : Func} {R : Ending → World → Prop} {tmps : Array Value} {D : List Nat} {W : World} (v : Value) (hm : MarksIn D W)
    (h : ∀ W', Turns (fun b => b ∈ D) W W' → (results fn tmps).run P W' = .ok v W' ∧ R (.returned v) W') :
    bodyPostM Fence.wide n P fn R .ret { tmps := tmps, defers := marksOf D } W := leaves_marks v D W hm h

end

end Go.Proofs.Ytgibfagnfhgelaa
