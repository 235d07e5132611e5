/- Runs of cells of any length, at any offset of a block: loaded, stored, handed back as a whole. -/
import Derived.Test.YtgibfagnfhgelaaArr18
import Derived.Test.YtgibfagnfhgelaaTurns
namespace Go.Proofs.Ytgibfagnfhgelaa
open Go.RowKit

def Blk (W : World) (b o n : Nat) (v : Nat → Value) : Prop := ∀ j, j < n → W.cell? ⟨b, o + j, none⟩ = some (v j) ∧ W.frozen? ⟨b, o + j, none⟩ = false
theorem Blk.congr {W : World} {b o n : Nat} {v u : Nat → Value} (h : Blk W b o n v) (e : ∀ j, j < n → v j = u j) : Blk W b o n u := fun j hj => ⟨by rw [← e j hj]; exact (h j hj).1, (h j hj).2⟩
theorem Blk.later {w w' : World} {b o n : Nat} {v : Nat → Value} (h : Blk w b o n v) (hb : Below w.heap.size w w') : Blk w' b o n v := fun j hj =>
  have hz := World.block_lt_of_cell? _ _ (h j hj).1
  ⟨(hb.cell hz).trans (h j hj).1, (hb.frozen hz).trans (h j hj).2⟩
theorem Blk.sub {W : World} {b o n : Nat} {v : Nat → Value} (h : Blk W b o n v) (i m : Nat) (hm : i + m ≤ n) : Blk W b (o + i) m (fun j => v (i + j)) := fun j hj => by
  have := h (i + j) (by omega)
  rwa [← Nat.add_assoc] at this
theorem Blk.at {W : World} {b n : Nat} {v : Nat → Value} (h : Blk W b 0 n v) (i : Nat) (hi : i < n) : W.cell? ⟨b, i, none⟩ = some (v i) ∧ W.frozen? ⟨b, i, none⟩ = false := by
  have := h i hi
  rwa [Nat.zero_add] at this
theorem Arr.blk {W : World} {b : Nat} {v : Nat → Value} (h : Arr W b v) : Blk W b 0 18 v := fun j hj => by rw [Nat.zero_add]; exact h j hj
theorem Blk.arr {W : World} {b : Nat} {v : Nat → Value} (h : Blk W b 0 18 v) : Arr W b v := fun j hj => h.at j hj
def aggN (n : Nat) (v : Nat → Value) : Value := .agg ((List.range n).map v).toArray
theorem aggN_arr (v : Nat → Value) : aggN 18 v = arrA v := rfl
theorem aggN_congr {n : Nat} {v u : Nat → Value} (e : ∀ j, j < n → v j = u j) : aggN n v = aggN n u := by
  unfold aggN
  congr 2
  exact List.map_congr_left fun j hj => e j (by simpa using hj)
theorem listN_get (n : Nat) (v : Nat → Value) (j : Nat) (h : j < n) : ((List.range n).map v)[j]? = some (v j) := by simp [h]
theorem blk_new (w : World) (n : Nat) (v : Nat → Value) (C : Array Value) (t : TypeId) (h : C = ((List.range n).map v).toArray) : Blk (w.alloc (.cells C t)) w.heap.size 0 n v := by
  subst h
  intro j hj
  rw [Nat.zero_add]
  have e : (w.alloc (.cells ((List.range n).map v).toArray t)).heap[w.heap.size]? = some (.cells ((List.range n).map v).toArray t) := by
    show (w.heap.push _)[w.heap.size]? = _
    simp
  constructor
  · unfold World.cell?
    simp only [e]
    simp [hj]
  · unfold World.frozen?
    simp only [e]
    simp

/-- What a store of n cells at offset o of block b leaves. -/
structure BlkSet (b o n : Nat) (v : Nat → Value) (W W2 : World) : Prop where
  blk : Blk W2 b o n v
  cell : ∀ p : Addr, (p.block = b → p.spot = none → p.off < o ∨ o + n ≤ p.off) → W2.cell? p = W.cell? p
  frozen : ∀ p : Addr, W2.frozen? p = W.frozen? p
  below : ∀ B w0, B ≤ b → Below B w0 W → Below B w0 W2
  turns : ∀ T w0, (b < w0.heap.size → T b) → Turns T w0 W → Turns T w0 W2
  size : W2.heap.size = W.heap.size
theorem BlkSet.other {b o n c q m : Nat} {v u : Nat → Value} {W W2 : World} (h : BlkSet b o n v W W2) (hc : c ≠ b ∨ q + m ≤ o ∨ o + n ≤ q) (ha : Blk W c q m u) : Blk W2 c q m u := fun j hj =>
  ⟨(h.cell ⟨c, q + j, none⟩ (fun e _ => by
    rcases hc with hc | hc | hc
    · exact absurd e hc
    · left; show q + j < o; omega
    · right; show o + n ≤ q + j; omega)).trans (ha j hj).1, (h.frozen _).trans (ha j hj).2⟩

theorem turns_setCells {T : Nat → Prop} {w0 : World} {b : Nat} (hb : b < w0.heap.size → T b) : ∀ (vs : List Value) (o : Nat) (w : World), Turns T w0 w → Turns T w0 (w.setCells b o vs)
  | [], _, _, h => h
  | v :: r, o, _w, h => turns_setCells hb r (o + 1) _ (h.setCell (p := ⟨b, o, none⟩) hb v)

section
variable {P : Program}
theorem run_loadN {W : World} {b o n : Nat} {v : Nat → Value} (h : Blk W b o n v) {t : TypeId} {d : TypeDesc} (hu : P.underlying t = some d) (hd : (match d with | .struct _ | .array _ _ => true | _ => false) = true) (hi : (P.info? t).map (·.size) = some n) : (loadVar t ⟨b, o, none⟩).run P W = .ok (aggN n v) W := by
  have hl := run_loadCells_list (P := P) W ⟨b, o, none⟩ ((List.range n).map v) (fun j u hj => by
    have hjn : j < n := by
      rcases Nat.lt_or_ge j n with h | h
      · exact h
      · rw [List.getElem?_eq_none (by simpa using h)] at hj; cases hj
    rw [listN_get n v j hjn] at hj
    have hadd : (⟨b, o, none⟩ : Addr).add j = ⟨b, o + j, none⟩ := by unfold Addr.add; split <;> simp_all
    rw [hadd, (h j hjn).1]; exact hj)
  rw [show ((List.range n).map v).length = n by simp] at hl
  cases hq : P.info? t with
  | none => simp [hq] at hi
  | some i =>
    have hs : i.size = n := by simp [hq] at hi; exact hi
    cases d <;> simp at hd <;> simp [loadVar, isAgg, run_underlying hu, sizeOf, typeInfo, hq, hs, hl, aggN]
theorem run_storeN {W : World} {b o n : Nat} {v u : Nat → Value} (h : Blk W b o n u) (h1 : ∀ j, j < n → (v j).oneCell' = true) {t : TypeId} (hi : (P.info? t).map (·.size) = some n) : ∃ W2, (storeVar t ⟨b, o, none⟩ (aggN n v)).run P W = .ok () W2 ∧ BlkSet b o n v W W2 := by
  have hlen : ((List.range n).map v).length = n := by simp
  have hst := run_storeCells_cells (P := P) b o ((List.range n).map v) 0 W (fun j hj => by rw [hlen] at hj; rw [Nat.add_zero, (h j hj).1]; rfl) (fun j hj => by rw [hlen] at hj; rw [Nat.add_zero]; exact (h j hj).2) (fun x hx => by
    obtain ⟨j, hj, rfl⟩ := List.mem_map.1 hx
    exact h1 j (by simpa using hj))
  rw [Nat.add_zero] at hst
  refine ⟨W.setCells b o ((List.range n).map v), ?_, ⟨fun j hj => ⟨?_, by rw [World.frozen?_setCells]; exact (h j hj).2⟩, fun p hp => World.cell?_setCells_out b _ _ W p (by rw [hlen]; exact hp), fun p => World.frozen?_setCells b _ _ W p, fun B w0 hb hB => below_setCells hb _ _ W hB, fun T w0 hb ht => turns_setCells hb _ _ W ht, size_setCells b _ _ W⟩⟩
  · cases hq : P.info? t with
    | none => simp [hq] at hi
    | some i =>
      have hs : i.size = n := by simp [hq] at hi; exact hi
      simp [storeVar, sizeOf, typeInfo, hq, hs, aggN, Value.cells]
      exact hst
  · have := World.cell?_setCells_in b ((List.range n).map v) o W (fun i hi => by rw [hlen] at hi; rw [(h i hi).1]; rfl) j (by rw [hlen]; exact hj)
    rw [this]
    simp

variable {ops : Array Oper} {rest : List Oper} {o : Oper} {a : Act} {w : World} {Q : Exit → Act → World → Prop}
theorem wpList_loadN (hg : o.guard = none) (t : TypeId) (p : Operand) (ho : o.op = .load t p) {b q : Nat} (hp : a.eval p = .pointer (some ⟨b, q, none⟩)) {v : Value} (hrun : (loadVar t ⟨b, q, none⟩).run P w = .ok v w)
    (h : wpList P ops Q rest (a.put o.dst v) w) : wpList P ops Q (o :: rest) a w :=
  wpList_plain hg fun _ hK => by
    unfold Oper.wp
    simp [execOp, ho, hp, Instr.loadAt, Instr.sureAddr, hrun, Result.andThen]
    exact hK _ _ h
theorem wpList_storeN (hg : o.guard = none) (hd : o.dst = none) (t : TypeId) (p x : Operand) (ho : o.op = .store t p x) {b q : Nat} (hp : a.eval p = .pointer (some ⟨b, q, none⟩)) {w2 : World} (hrun : (storeVar t ⟨b, q, none⟩ (a.eval x)).run P w = .ok () w2)
    (h : wpList P ops Q rest a w2) : wpList P ops Q (o :: rest) a w :=
  wpList_plain hg fun K hK => by
    unfold Oper.wp
    simp [execOp, ho, hp, Instr.storeAt, Instr.sureAddr, hrun, Result.andThen]
    have e : a.put o.dst undef = a := by rw [hd]; rfl
    show K (a.put o.dst undef) w2
    rw [e]
    exact hK _ _ h
end

end Go.Proofs.Ytgibfagnfhgelaa
