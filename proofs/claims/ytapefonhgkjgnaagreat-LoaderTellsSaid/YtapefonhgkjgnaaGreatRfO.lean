/- The reference of layer 38: a row of operations of the reference. -/
import Derived.Test.YtapefonhgkjgnaaGreatLdOa
namespace Go.Proofs.YtapefonhgkjgnaaGreat
open Go.RowKit

/-- An owned row of the reference's operations. -/
theorem infoOpR : (Tryz.prog.info? 61).map (fun i => (i.zero, i.size, i.bytes)) = some (some (.agg #[.int .i64 0, .bool false, .slice none 0 0]), 3, 40) := by kernel_rfl
def OwnsP (B : Nat) (w : World) (x : Option Addr) (cap : Nat) (os : List OpV) : Prop := w.ownsRow B 61 3 (.slice x os.length cap) os.length (os.flatMap encO)
theorem OwnsP.nil (B : Nat) (w : World) : OwnsP B w none 0 [] := World.ownsRow_nil _ _ _ _
theorem OwnsP.turn {B : Nat} {w w' : World} {x : Option Addr} {cap : Nat} {l : List OpV} {T : Nat → Prop} (h : OwnsP B w x cap l) (ht : Turns T w w') (hT : ∀ b, RowOf x b → ¬ T b) : OwnsP B w' x cap l := by
  refine ⟨h.1, ?_⟩
  rcases h.2 with h0 | ⟨g, cap', cur, hv, hlo, hg, hr⟩
  · exact .inl h0
  · refine .inr ⟨g, cap', cur, hv, hlo, ?_, hr⟩
    simp only [Value.slice.injEq] at hv
    exact (ht.block g (Array.getElem?_eq_some_iff.1 hg).1 (hT g (by rw [hv.1]; rfl))).trans hg
theorem OwnsP.later {B : Nat} {w w' : World} {x : Option Addr} {cap : Nat} {l : List OpV} (h : OwnsP B w x cap l) (hb : Below w.heap.size w w') : OwnsP B w' x cap l :=
  h.turn (Turns.of_below hb (Nat.le_refl _)) (fun _ _ h => h)
theorem OwnsP.ops {B : Nat} {w : World} {x : Option Addr} {cap : Nat} {os : List OpV} (h : OwnsP B w x cap os) (hk : ∀ q, q ∈ os → OpOk w q) : Ops w x os := by
  rcases h.2 with ⟨_, h0⟩ | ⟨g, cap', cur, hv, _, hg, _⟩
  · exact ⟨.inl (List.eq_nil_of_length_eq_zero h0), hk⟩
  · simp only [Value.slice.injEq] at hv
    obtain ⟨rfl, -⟩ := hv
    have hplain : ∀ j, (⟨g, 0, none⟩ : Addr).add j = ⟨g, 0 + j, none⟩ := fun j => by unfold Addr.add; split <;> simp_all
    refine CellsO.ops (fun i hi => ?_) hk
    have hf := flat_get os i hi
    refine ⟨?_, ?_, ?_⟩
    · rw [← hplain]; exact World.ownsRow.cells h (g := g) rfl _ _ hf.1
    · rw [Nat.add_assoc, ← hplain]; exact World.ownsRow.cells h (g := g) rfl _ _ hf.2.1
    · rw [Nat.add_assoc, ← hplain]; exact World.ownsRow.cells h (g := g) rfl _ _ hf.2.2
theorem OwnsP.low {B : Nat} {w : World} {x : Option Addr} {cap : Nat} {os : List OpV} (h : OwnsP B w x cap os) : ∀ b, RowOf x b → B ≤ b ∧ b < w.heap.size := by
  intro b hb
  rcases h.2 with ⟨hv, _⟩ | ⟨g, cap', cur, hv, hlo, hg, _⟩
  · simp only [Value.slice.injEq] at hv
    rw [hv.1] at hb; cases hb
  · simp only [Value.slice.injEq] at hv
    rw [hv.1] at hb
    cases hb
    exact ⟨hlo, (Array.getElem?_eq_some_iff.1 hg).1⟩
section
variable {w : World} {o : Oper} {a : Act} {Q : Exit → Act → World → Prop}
/-- append(list, nacelleref37.Op{..}) -/
theorem wpList_appP {ops : Array Oper} {rest : List Oper} (hg : o.guard = none) (s x : Operand) (ho : o.op = .call { callee := .builtin .append, args := #[s, x], argTypes := #[56, 56] })
    {B : Nat} {xa : Option Addr} {cap : Nat} {os : List OpV} (hown : OwnsP B w xa cap os) (hs : a.eval s = .slice xa os.length cap)
    {b c : Nat} {u : OpV} (hx : a.eval x = .slice (some ⟨b, 0, none⟩) 1 c) (k0 : w.cell? ⟨b, 0, none⟩ = some (.int .i64 u.blk)) (k1 : w.cell? ⟨b, 1, none⟩ = some (.bool u.er)) (k2 : w.cell? ⟨b, 2, none⟩ = some (.slice u.x u.d.length u.c)) (hl : os.length ≤ 100000) (hB : B ≤ w.heap.size) {m : Nat} (hm : os.length + 1 = m)
    (h : ∀ x' cap' w', OwnsP B w' x' cap' (os ++ [u]) → Below B w w' → Turns (RowOf xa) w w' → wpList Tryz.prog ops Q rest (a.put o.dst (.slice x' m cap')) w') : wpList Tryz.prog ops Q (o :: rest) a w :=
  wpList_plain hg fun K hK => by
    subst hm
    obtain ⟨i0, hi, hz0, hz1, hz2⟩ := info_parts infoOpR
    refine wp_append_own_wide w s x 56 ho B 61 i0 _ 3 40 (by kernel_rfl) hi hz0 hz1 hz2 rfl (by decide) _ os.length (os.flatMap encO) hs hown ⟨b, 0, none⟩ 1 c (encO u) hx rfl (fun j v hj => ?_) (fun v hv => ?_) (by unfold maxLen; omega) (by omega) hB (fun v' w' h1 h2 _ => ?_)
    · have hj3 : j < 3 := by
        rcases Nat.lt_or_ge j 3 with h | h
        · exact h
        · rw [List.getElem?_eq_none (by exact h)] at hj; cases hj
      rcases (by omega : j = 0 ∨ j = 1 ∨ j = 2) with rfl | rfl | rfl
      · simp [encO] at hj; subst hj; simpa [Addr.add] using k0
      · simp [encO] at hj; subst hj; simpa [Addr.add] using k1
      · simp [encO] at hj; subst hj; simpa [Addr.add] using k2
    · simp only [encO, List.mem_cons, List.not_mem_nil, or_false] at hv
      rcases hv with rfl | rfl | rfl <;> rfl
    · obtain ⟨x', cap', rfl⟩ : ∃ x cap, v' = .slice x (os.length + 1) cap := by
        rcases h1.2 with ⟨rfl, h0⟩ | ⟨g, cap, cur, rfl, _⟩
        · omega
        · exact ⟨_, _, rfl⟩
      have hf : os.flatMap encO ++ encO u = (os ++ [u]).flatMap encO := by simp
      have hl2 : os.length + 1 = (os ++ [u]).length := by simp
      rw [hf] at h1
      refine hK _ _ (h x' cap' w' (by unfold OwnsP; rw [← hl2]; exact h1) ((Below.refl _ w).grown h2 hB (fun k e => ?_)) (Turns.of_grownBy h2 (fun b e => by unfold RowOf; cases xa <;> exact e)))
      rcases hown.2 with ⟨hv, _⟩ | ⟨g, cap2, cur, hv, hlo, _⟩
      · simp only [Value.slice.injEq] at hv
        rw [hv.1] at e; cases e
      · simp only [Value.slice.injEq] at hv
        rw [hv.1] at e
        cases e; exact hlo
end

end Go.Proofs.YtapefonhgkjgnaaGreat
