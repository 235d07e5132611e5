/- A row of operations of the call's own: made by append, an operation stored in it. -/
import Derived.Test.YtgibfagnfhgelaaPureRuns
import Derived.Deep.DeepAppendWide
namespace Go.Proofs.Ytgibfagnfhgelaa
open Go.RowKit

/-- The block b holds these operations from place o on. -/
def CellsO (w : World) (b o : Nat) (os : List OpV) : Prop := ∀ i, i < os.length → w.cell? ⟨b, o + i * 3, none⟩ = some (.int .i64 (os.getD i op0).blk) ∧ w.cell? ⟨b, o + i * 3 + 1, none⟩ = some (.bool (os.getD i op0).er) ∧ w.cell? ⟨b, o + i * 3 + 2, none⟩ = some (.slice (os.getD i op0).x (os.getD i op0).d.length (os.getD i op0).c)
theorem CellsO.ops {w : World} {b o : Nat} {os : List OpV} (h : CellsO w b o os) (hk : ∀ q, q ∈ os → OpOk w q) : Ops w (some ⟨b, o, none⟩) os := ⟨.inr ⟨b, o, rfl, h⟩, hk⟩
theorem ops_cells {w : World} {b : Nat} : ∀ (os : List OpV) (o : Nat), CellsO w b o os → ∀ j u, (os.flatMap encO)[j]? = some u → w.cell? ⟨b, o + j, none⟩ = some u
  | [], _, _, j, u, hj => by simp at hj
  | a :: t, o, h, j, u, hj => by
    have h0 := h 0 (by simp)
    rw [List.flatMap_cons] at hj
    by_cases h3 : j < 3
    · rw [List.getElem?_append_left (by simpa [encO] using h3)] at hj
      rcases (by omega : j = 0 ∨ j = 1 ∨ j = 2) with rfl | rfl | rfl
      · simp [encO] at hj; subst hj; simpa using h0.1
      · simp [encO] at hj; subst hj; simpa using h0.2.1
      · simp [encO] at hj; subst hj; simpa using h0.2.2
    · have hl3 : (encO a).length = 3 := rfl
      rw [List.getElem?_append_right (by omega), hl3] at hj
      have := ops_cells t (o + 3) (fun i hi => by
        have := h (i + 1) (by simpa using hi)
        rw [show o + (i + 1) * 3 = o + 3 + i * 3 by omega] at this
        exact this) (j - 3) u hj
      rwa [show o + 3 + (j - 3) = o + j by omega] at this
theorem flat_get : ∀ (os : List OpV) (i : Nat), i < os.length → (os.flatMap encO)[i * 3]? = some (.int .i64 (os.getD i op0).blk) ∧ (os.flatMap encO)[i * 3 + 1]? = some (.bool (os.getD i op0).er) ∧ (os.flatMap encO)[i * 3 + 2]? = some (.slice (os.getD i op0).x (os.getD i op0).d.length (os.getD i op0).c)
  | [], i, h => by simp at h
  | a :: t, 0, _ => by rw [List.flatMap_cons]; exact ⟨rfl, rfl, rfl⟩
  | a :: t, i + 1, h => by
    have ih := flat_get t i (by simpa using h)
    have hl3 : (encO a).length = 3 := rfl
    rw [List.flatMap_cons]
    rw [List.getElem?_append_right (by omega), List.getElem?_append_right (by omega), List.getElem?_append_right (by omega), hl3, show (i + 1) * 3 - 3 = i * 3 by omega, show (i + 1) * 3 + 1 - 3 = i * 3 + 1 by omega, show (i + 1) * 3 + 2 - 3 = i * 3 + 2 by omega]
    exact ih
theorem flat_len (os : List OpV) : (os.flatMap encO).length = os.length * 3 := by
  induction os with
  | nil => rfl
  | cons a t ih => rw [List.flatMap_cons, List.length_append, ih]; show 3 + _ = _; rw [List.length_cons]; omega
theorem flat_one (os : List OpV) : ∀ u ∈ os.flatMap encO, u.oneCell' = true := by
  intro u hu
  obtain ⟨o, _, h⟩ := List.mem_flatMap.1 hu
  simp only [encO, List.mem_cons, List.not_mem_nil, or_false] at h
  rcases h with rfl | rfl | rfl <;> rfl
theorem OwnsO.cellsO {B : Nat} {w : World} {g cap : Nat} {os : List OpV} (h : OwnsO B w (some ⟨g, 0, none⟩) cap os) : CellsO w g 0 os := fun i hi => by
  have hf := flat_get os i hi
  have hplain : ∀ j, (⟨g, 0, none⟩ : Addr).add j = ⟨g, 0 + j, none⟩ := fun j => by unfold Addr.add; split <;> simp_all
  refine ⟨?_, ?_, ?_⟩
  · rw [← hplain]; exact World.ownsRow.cells h (g := g) rfl _ _ hf.1
  · rw [Nat.add_assoc, ← hplain]; exact World.ownsRow.cells h (g := g) rfl _ _ hf.2.1
  · rw [Nat.add_assoc, ← hplain]; exact World.ownsRow.cells h (g := g) rfl _ _ hf.2.2
theorem OwnsO.some_of {B : Nat} {w : World} {x : Option Addr} {cap : Nat} {l : List OpV} (h : OwnsO B w x cap l) (h0 : 0 < l.length) : ∃ g, x = some ⟨g, 0, none⟩ ∧ B ≤ g ∧ g < w.heap.size := by
  rcases h.2 with ⟨_, hv⟩ | ⟨g, cap', cur, hv, hB, hg, _⟩
  · omega
  · simp only [Value.slice.injEq] at hv; exact ⟨g, hv.1, hB, (Array.getElem?_eq_some_iff.1 hg).1⟩
theorem OwnsO.free {B : Nat} {w : World} {g cap : Nat} {l : List OpV} (h : OwnsO B w (some ⟨g, 0, none⟩) cap l) (i : Nat) : w.frozen? ⟨g, i, none⟩ = false := World.ownsRow.frozenAt h i
theorem OwnsO.turn {B : Nat} {w w' : World} {x : Option Addr} {cap : Nat} {l : List OpV} {T : Nat → Prop} (h : OwnsO B w x cap l) (ht : Turns T w w') (hT : ∀ b, RowOf x b → ¬ T b) : OwnsO B w' x cap l := by
  refine ⟨h.1, ?_⟩
  rcases h.2 with h0 | ⟨g, cap', cur, hv, hlo, hg, hr⟩
  · exact .inl h0
  · refine .inr ⟨g, cap', cur, hv, hlo, ?_, hr⟩
    simp only [Value.slice.injEq] at hv
    exact (ht.block g (Array.getElem?_eq_some_iff.1 hg).1 (hT g (by rw [hv.1]; rfl))).trans hg
theorem OwnsO.le_cap {B : Nat} {w : World} {x : Option Addr} {cap : Nat} {l : List OpV} (h : OwnsO B w x cap l) : l.length ≤ cap ∧ cap ≤ 9223372036854775807 := by
  rcases h.2 with ⟨hv, h0⟩ | ⟨g, cap', cur, hv, _, _, h1, h2, _⟩
  · simp only [Value.slice.injEq] at hv
    omega
  · simp only [Value.slice.injEq] at hv
    unfold maxLen at h2
    omega
theorem OwnsO.later {B : Nat} {w w' : World} {x : Option Addr} {cap : Nat} {l : List OpV} (h : OwnsO B w x cap l) (hb : Below w.heap.size w w') : OwnsO B w' x cap l :=
  h.turn (Turns.of_below hb (Nat.le_refl _)) (fun _ _ h => h)
theorem OwnsO.whole0 (B g : Nat) (w : World) (hB : B ≤ w.heap.size) (hg : w.heap.size = g) : OwnsO B (w.alloc (.cells #[] 31)) (some ⟨g, 0, none⟩) 0 [] := by
  subst hg
  exact ⟨by simp, .inr ⟨w.heap.size, 0, #[], rfl, hB, heap_alloc_new w _, Nat.le_refl _, by unfold maxLen; omega, by simp, by simp⟩⟩
theorem Ops.cellsO {w : World} {b o : Nat} {os : List OpV} (h : Ops w (some ⟨b, o, none⟩) os) : CellsO w b o os := fun i hi => by
  obtain ⟨b', o', hx, h0, h1, h2, -⟩ := h.at i hi
  cases hx
  exact ⟨h0, h1, h2⟩
theorem CellsO.later {w w' : World} {b o : Nat} {os : List OpV} (h : CellsO w b o os) (hb : Below w.heap.size w w') : CellsO w' b o os := fun i hi =>
  ⟨Go.Proofs.Ytgibfagnfhgelaa.later hb (h i hi).1, Go.Proofs.Ytgibfagnfhgelaa.later hb (h i hi).2.1, Go.Proofs.Ytgibfagnfhgelaa.later hb (h i hi).2.2⟩
/-- An operation is stored. -/
theorem CellsO.set {w : World} {b : Nat} {os : List OpV} (h : CellsO w b 0 os) (i : Nat) (hi : i < os.length) (q : OpV) :
    CellsO (((w.setCell ⟨b, i * 3, none⟩ (.int .i64 q.blk)).setCell ⟨b, i * 3 + 1, none⟩ (.bool q.er)).setCell ⟨b, i * 3 + 2, none⟩ (.slice q.x q.d.length q.c)) b 0 (os.set i q) := fun j hj => by
  rw [List.length_set] at hj
  have hji := h j hj
  have hii := h i hi
  rw [Nat.zero_add] at hji hii
  rw [Nat.zero_add, getD_set _ _ _ _ _ hi]
  have ne : ∀ x y : Nat, x ≠ y → (⟨b, x, none⟩ : Addr) ≠ ⟨b, y, none⟩ := fun x y h e => h (congrArg Addr.off e)
  by_cases e : i = j
  · subst e
    rw [if_pos rfl]
    refine ⟨?_, ?_, ?_⟩
    · rw [World.cell?_setCell_other _ _ _ _ (ne _ _ (by omega)), World.cell?_setCell_other _ _ _ _ (ne _ _ (by omega))]
      exact World.cell?_setCell_same' _ _ _ (by rw [hii.1]; rfl)
    · rw [World.cell?_setCell_other _ _ _ _ (ne _ _ (by omega))]
      exact World.cell?_setCell_same' _ _ _ (by rw [World.cell?_setCell_other _ _ _ _ (ne _ _ (by omega)), hii.2.1]; rfl)
    · exact World.cell?_setCell_same' _ _ _ (by rw [World.cell?_setCell_other _ _ _ _ (ne _ _ (by omega)), World.cell?_setCell_other _ _ _ _ (ne _ _ (by omega)), hii.2.2]; rfl)
  · rw [if_neg e]
    have far : ∀ p r, p < 3 → r < 3 → i * 3 + p ≠ j * 3 + r := fun p r h1 h2 h3 => by omega
    refine ⟨?_, ?_, ?_⟩
    · rw [World.cell?_setCell_other _ _ _ _ (ne _ _ (by have := far 2 0 (by omega) (by omega); omega)), World.cell?_setCell_other _ _ _ _ (ne _ _ (by have := far 1 0 (by omega) (by omega); omega)), World.cell?_setCell_other _ _ _ _ (ne _ _ (by have := far 0 0 (by omega) (by omega); omega))]
      exact hji.1
    · rw [World.cell?_setCell_other _ _ _ _ (ne _ _ (by have := far 2 1 (by omega) (by omega); omega)), World.cell?_setCell_other _ _ _ _ (ne _ _ (by have := far 1 1 (by omega) (by omega); omega)), World.cell?_setCell_other _ _ _ _ (ne _ _ (by have := far 0 1 (by omega) (by omega); omega))]
      exact hji.2.1
    · rw [World.cell?_setCell_other _ _ _ _ (ne _ _ (by have := far 2 2 (by omega) (by omega); omega)), World.cell?_setCell_other _ _ _ _ (ne _ _ (by have := far 1 2 (by omega) (by omega); omega)), World.cell?_setCell_other _ _ _ _ (ne _ _ (by have := far 0 2 (by omega) (by omega); omega))]
      exact hji.2.2

section
variable {w : World} {o : Oper} {a : Act} {Q : Exit → Act → World → Prop}
/-- append([]Op{}, ops...) -/
theorem wpList_appOs {ops : Array Oper} {rest : List Oper} (hg : o.guard = none) (s x : Operand) (ho : o.op = .call { callee := .builtin .append, args := #[s, x], argTypes := #[26, 26] })
    {B : Nat} {xa : Option Addr} {cap : Nat} (hown : OwnsO B w xa cap []) (hs : a.eval s = .slice xa 0 cap)
    {b q c : Nat} {os : List OpV} (hx : a.eval x = .slice (some ⟨b, q, none⟩) os.length c) (hy : CellsO w b q os) (hl : os.length ≤ 100000) (hB : B ≤ w.heap.size)
    (h : ∀ x' cap' w', OwnsO B w' x' cap' os → Below B w w' → wpList Try.prog ops Q rest (a.put o.dst (.slice x' os.length cap')) w') : wpList Try.prog ops Q (o :: rest) a w :=
  wpList_plain hg fun K hK => by
    obtain ⟨i0, hi, hz0, hz1, hz2⟩ := info_parts infoOp
    have hplain : ∀ j, (⟨b, q, none⟩ : Addr).add j = ⟨b, q + j, none⟩ := fun j => by unfold Addr.add; split <;> simp_all
    refine wp_append_own_wide w s x 26 ho B 31 i0 _ 3 40 (by kernel_rfl) hi hz0 hz1 hz2 rfl (by decide) _ 0 [] hs hown ⟨b, q, none⟩ os.length c (os.flatMap encO) hx (flat_len os) (fun j v hj => by rw [hplain]; exact ops_cells os q hy j v hj) (flat_one os) (by unfold maxLen; omega) (by omega) hB (fun v' w' h1 h2 _ => ?_)
    obtain ⟨x', cap', rfl⟩ : ∃ x cap, v' = .slice x (0 + os.length) cap := by
      rcases h1.2 with ⟨rfl, h0⟩ | ⟨g, cap, cur, rfl, _⟩
      · exact ⟨none, 0, by rw [h0]⟩
      · exact ⟨_, _, rfl⟩
    have e0 : 0 + os.length = os.length := Nat.zero_add _
    rw [e0, List.nil_append] at h1
    rw [e0]
    refine hK _ _ (h x' cap' w' h1 ((Below.refl _ w).grown h2 hB (fun k e => ?_)))
    rcases hown.2 with ⟨hv, _⟩ | ⟨g, cap2, cur, hv, hlo, _⟩
    · simp only [Value.slice.injEq] at hv
      rw [hv.1] at e; cases e
    · simp only [Value.slice.injEq] at hv
      rw [hv.1] at e
      cases e; exact hlo
end

end Go.Proofs.Ytgibfagnfhgelaa
