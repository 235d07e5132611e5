/- Arrays of 18 cells as a whole: in memory, loaded, stored, handed back. -/
import Derived.Test.YtgibfagnfhgelaaRegion
import Derived.Laws.IdiomCopy
import Derived.Laws.Rows
import Derived.Laws.Tables
import Derived.OwnWalk
import Derived.Deep.WholeRow
namespace Go.Proofs.Ytgibfagnfhgelaa
open Go.RowKit

/-- The cells of an array of 18. -/
def Arr (W : World) (b : Nat) (v : Nat → Value) : Prop := ∀ j, j < 18 → W.cell? ⟨b, j, none⟩ = some (v j) ∧ W.frozen? ⟨b, j, none⟩ = false
theorem Arr.set {W : World} {b : Nat} {v : Nat → Value} (h : Arr W b v) (i : Nat) (_hi : i < 18) (u : Value) : Arr (W.setCell ⟨b, i, none⟩ u) b (fun j => if j = i then u else v j) := by
  intro j hj
  refine ⟨?_, by rw [World.frozen?_setCell]; exact (h j hj).2⟩
  by_cases e : j = i
  · subst e
    show _ = some (if j = j then u else v j)
    rw [if_pos rfl]
    exact World.cell?_setCell_same' _ _ _ (by rw [(h j hj).1]; rfl)
  · show _ = some (if j = i then u else v j)
    rw [if_neg e, World.cell?_setCell_other _ _ _ _ (by simp <;> omega)]
    exact (h j hj).1
theorem Arr.congr {W : World} {b : Nat} {v u : Nat → Value} (h : Arr W b v) (e : ∀ j, j < 18 → v j = u j) : Arr W b u := fun j hj => ⟨by rw [← e j hj]; exact (h j hj).1, (h j hj).2⟩
theorem Arr.other {W : World} {b : Nat} {v : Nat → Value} (h : Arr W b v) {p : Addr} (hp : p.block ≠ b) (u : Value) : Arr (W.setCell p u) b v := fun j hj => ⟨by rw [World.cell?_setCell_other _ _ _ _ (by intro e; subst e; exact hp rfl)]; exact (h j hj).1, by rw [World.frozen?_setCell]; exact (h j hj).2⟩
theorem Arr.later {w w' : World} {b : Nat} {v : Nat → Value} (h : Arr w b v) (hb : Below w.heap.size w w') : Arr w' b v := fun j hj =>
  have hz := World.block_lt_of_cell? _ _ (h j hj).1
  ⟨(hb.cell hz).trans (h j hj).1, (hb.frozen hz).trans (h j hj).2⟩
theorem arr_new (w : World) (v : Nat → Value) (C : Array Value) (t : TypeId) (h : C = ((List.range 18).map v).toArray) : Arr (w.alloc (.cells C t)) w.heap.size v := by
  subst h
  intro j hj
  have e : (w.alloc (.cells ((List.range 18).map v).toArray t)).heap[w.heap.size]? = some (.cells ((List.range 18).map v).toArray t) := by
    show (w.heap.push _)[w.heap.size]? = _
    simp
  constructor
  · unfold World.cell?
    simp only [e]
    simp [hj]
  · unfold World.frozen?
    simp only [e]
    simp
def arrL (v : Nat → Value) : List Value := (List.range 18).map v
/-- The value of an array of 18 cells. -/
def arrA (v : Nat → Value) : Value := .agg (arrL v).toArray
theorem arrL_length (v : Nat → Value) : (arrL v).length = 18 := by simp [arrL]
theorem arrL_get (v : Nat → Value) (j : Nat) (h : j < 18) : (arrL v)[j]? = some (v j) := by simp [arrL, h]
theorem arrA_congr {v u : Nat → Value} (e : ∀ j, j < 18 → v j = u j) : arrA v = arrA u := by
  unfold arrA arrL
  congr 2
  exact List.map_congr_left fun j hj => e j (by simpa using hj)

section
variable {P : Program}
theorem run_loadA {W : World} {b : Nat} {v : Nat → Value} (h : Arr W b v) {t e : TypeId} (hu : P.underlying t = some (.array 18 e)) (hi : (P.info? t).map (·.size) = some 18) : (loadVar t ⟨b, 0, none⟩).run P W = .ok (arrA v) W := by
  have hl := run_loadCells_list (P := P) W ⟨b, 0, none⟩ (arrL v) (fun j u hj => by
    have hj18 : j < 18 := by
      rcases Nat.lt_or_ge j 18 with h | h
      · exact h
      · rw [List.getElem?_eq_none (by rw [arrL_length]; exact h)] at hj; cases hj
    rw [arrL_get v j hj18] at hj
    have hadd : (⟨b, 0, none⟩ : Addr).add j = ⟨b, j, none⟩ := by unfold Addr.add; split <;> simp_all
    rw [hadd, (h j hj18).1]; exact hj)
  rw [arrL_length] at hl
  cases hq : P.info? t with
  | none => simp [hq] at hi
  | some i =>
    have hs : i.size = 18 := by simp [hq] at hi; exact hi
    simp [loadVar, isAgg, run_underlying hu, sizeOf, typeInfo, hq, hs, hl, arrA]
theorem below_setCells {B : Nat} {w0 : World} {b : Nat} (hb : B ≤ b) : ∀ (vs : List Value) (o : Nat) (w : World), Below B w0 w → Below B w0 (w.setCells b o vs)
  | [], _, _, h => h
  | v :: r, o, _w, h => below_setCells hb r (o + 1) _ (h.setCell (p := ⟨b, o, none⟩) hb v)
theorem size_setCells (b : Nat) : ∀ (vs : List Value) (o : Nat) (w : World), (w.setCells b o vs).heap.size = w.heap.size
  | [], _, _ => rfl
  | v :: r, o, w => by rw [World.setCells, size_setCells b r]; simp
/-- What a store of a whole array leaves. -/
structure ArrSet (b : Nat) (v : Nat → Value) (W W2 : World) : Prop where
  arr : Arr W2 b v
  cell : ∀ p : Addr, p.block ≠ b → W2.cell? p = W.cell? p
  frozen : ∀ p : Addr, W2.frozen? p = W.frozen? p
  below : ∀ B w0, B ≤ b → Below B w0 W → Below B w0 W2
  size : W2.heap.size = W.heap.size
theorem ArrSet.other {b c : Nat} {v u : Nat → Value} {W W2 : World} (h : ArrSet b v W W2) (hc : c ≠ b) (ha : Arr W c u) : Arr W2 c u := fun j hj => ⟨(h.cell ⟨c, j, none⟩ hc).trans (ha j hj).1, (h.frozen _).trans (ha j hj).2⟩
theorem run_storeA {W : World} {b : Nat} {v u : Nat → Value} (h : Arr W b u) (h1 : ∀ j, j < 18 → (v j).oneCell' = true) {t : TypeId} (hi : (P.info? t).map (·.size) = some 18) : ∃ W2, (storeVar t ⟨b, 0, none⟩ (arrA v)).run P W = .ok () W2 ∧ ArrSet b v W W2 := by
  have hst := run_storeCells_cells (P := P) b 0 (arrL v) 0 W (fun j hj => by rw [arrL_length] at hj; simp only [Nat.zero_add]; rw [(h j hj).1]; rfl) (fun j hj => by rw [arrL_length] at hj; simp only [Nat.zero_add]; exact (h j hj).2) (fun x hx => by
    obtain ⟨j, hj, rfl⟩ := List.mem_map.1 hx
    exact h1 j (by simpa using hj))
  refine ⟨W.setCells b (0 + 0) (arrL v), ?_, ⟨fun j hj => ⟨?_, by rw [World.frozen?_setCells]; exact (h j hj).2⟩, fun p hp => World.cell?_setCells_out b _ _ W p (fun e => absurd e hp), fun p => World.frozen?_setCells b _ _ W p, fun B w0 hb hB => below_setCells hb _ _ W hB, size_setCells b _ _ W⟩⟩
  · cases hq : P.info? t with
    | none => simp [hq] at hi
    | some i =>
      have hs : i.size = 18 := by simp [hq] at hi; exact hi
      have hsz : (arrL v).toArray.size = 18 := by simp [arrL_length]
      simp [storeVar, sizeOf, typeInfo, hq, hs, arrA, Value.cells, arrL_length]
      exact hst
  · have := World.cell?_setCells_in b (arrL v) (0 + 0) W (fun i hi => by rw [arrL_length] at hi; simp only [Nat.zero_add]; rw [(h i hi).1]; rfl) j (by rw [arrL_length]; exact hj)
    simp only [Nat.zero_add] at this ⊢
    rw [this]
    have e := arrL_get v j hj
    rw [List.getElem?_eq_getElem (by rw [arrL_length]; exact hj)] at e
    exact e

variable {ops : Array Oper} {rest : List Oper} {o : Oper} {a : Act} {w : World} {Q : Exit → Act → World → Prop}
theorem wpList_loadA (hg : o.guard = none) (t : TypeId) (p : Operand) (ho : o.op = .load t p) {b : Nat} (hp : a.eval p = .pointer (some ⟨b, 0, none⟩)) {v : Value} (hrun : (loadVar t ⟨b, 0, none⟩).run P w = .ok v w)
    (h : wpList P ops Q rest (a.put o.dst v) w) : wpList P ops Q (o :: rest) a w :=
  wpList_plain hg fun _ hK => by
    unfold Oper.wp
    simp [execOp, ho, hp, Instr.loadAt, Instr.sureAddr, hrun, Result.andThen]
    exact hK _ _ h
theorem wpList_storeA (hg : o.guard = none) (hd : o.dst = none) (t : TypeId) (p x : Operand) (ho : o.op = .store t p x) {b : Nat} (hp : a.eval p = .pointer (some ⟨b, 0, none⟩)) {w2 : World} (hrun : (storeVar t ⟨b, 0, none⟩ (a.eval x)).run P w = .ok () w2)
    (h : wpList P ops Q rest a w2) : wpList P ops Q (o :: rest) a w :=
  wpList_plain hg fun K hK => by
    unfold Oper.wp
    simp [execOp, ho, hp, Instr.storeAt, Instr.sureAddr, hrun, Result.andThen]
    have e : a.put o.dst undef = a := by rw [hd]; rfl
    show K (a.put o.dst undef) w2
    rw [e]
    exact hK _ _ h
theorem results_cellA {fn : Func} {p : Tmp} {ty : TypeId} (h : fn.results = #[.cell p ty]) {tmps : Array Value} {b : Nat} (hp : tmps.getD p undef = .pointer (some ⟨b, 0, none⟩)) {v : Value} (hrun : (loadVar ty ⟨b, 0, none⟩).run P w = .ok v w) : (results fn tmps).run P w = .ok v w := by
  simp only [results, h]
  have hp' : tmps[p]?.getD undef = .pointer (some ⟨b, 0, none⟩) := by rw [← Array.getD_eq_getD_getElem?]; exact hp
  simp [asAddr, hp', hrun]
end

end Go.Proofs.Ytgibfagnfhgelaa
