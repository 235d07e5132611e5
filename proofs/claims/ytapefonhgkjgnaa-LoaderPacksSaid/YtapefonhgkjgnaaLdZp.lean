/- append of a number of zero bytes: what the new slice is. -/
import Derived.Test.YtapefonhgkjgnaaLdZo
import Derived.Test.YtapefonhgkjgnaaLdU
set_option maxRecDepth 20000
namespace Go.Proofs.Ytapefonhgkjgnaa
open Go.RowKit

section
variable {w : World} {o : Oper} {a : Act} {Q : Exit → Act → World → Prop}
theorem wpList_app_zerosP {ops : Array Oper} {rest : List Oper} (hg : o.guard = none) (s x : Operand) (ho : o.op = .call { callee := .builtin .append, args := #[s, x], argTypes := #[22, 3] })
    {B g cap : Nat} {l : List UInt8} (hown : OwnsB B w (some ⟨g, 0, none⟩) cap l) (hs : a.eval s = .slice (some ⟨g, 0, none⟩) l.length cap) (k : Nat) (hk : 0 < k) (hx : a.eval x = .int .i64 (k : Int)) (hl : l.length + k ≤ 100000) (hB : B ≤ w.heap.size)
    (h : ∀ x' cap' w', Bts w' x' (l ++ List.replicate k 0) → Below B w w' → ((x' = none → cap' = 0) ∧ (l.length + k ≤ cap' ∧ cap' ≤ 9223372036854775807) ∧ ∀ a, x' = some a → a.block < w'.heap.size) → wpList Try.prog ops Q rest (a.put o.dst (.slice x' (l.length + k) cap')) w') : wpList Try.prog ops Q (o :: rest) a w := by
  obtain ⟨i0, hi, hz0, hz1, hz2⟩ := info_parts infoByte
  have hu : Try.prog.underlying 3 = some (.int .i64) := by kernel_rfl
  refine wpList_plain hg fun K hK => ?_
  by_cases hroom : l.length + k ≤ cap
  · have hzl : (Builtin.zeroCells (Value.int .u8 0).cells k).toList = (List.replicate k (0 : UInt8)).map encB := by
      show (Builtin.zeroCells #[Value.int .u8 0] k).toList = _
      rw [zeroCells_u8]; rfl
    have hlo : B ≤ g ∧ g < w.heap.size := hown.low g rfl
    have hcl : ∀ j, j < k → (w.cell? ⟨g, l.length + j, none⟩).isSome = true := by
      intro j hj
      rcases hown.2 with ⟨hv, _⟩ | ⟨g', cap', cur, hv, _, hg', hnc, _, hcs, _⟩
      · simp only [Value.slice.injEq] at hv; cases hv.1
      · simp only [Value.slice.injEq, Option.some.injEq, Addr.mk.injEq] at hv
        obtain ⟨⟨rfl, _⟩, _, rfl⟩ := hv
        unfold World.cell?
        simp only [hg']
        have : l.length + j < cur.size := by rw [hcs]; omega
        simp [this]
    obtain ⟨zs, hzs⟩ : ∃ zs, (List.replicate k (0 : UInt8)).map encB = zs := ⟨_, rfl⟩
    have hlen : zs.length = k := by rw [← hzs]; simp
    have hone : ∀ u ∈ zs, u.oneCell' = true := by rw [← hzs]; exact oneEnc _
    have hget : ∀ j, j < k → zs[j]? = some (encB 0) := fun j hj => by rw [← hzs, List.getElem?_map, List.getElem?_replicate, if_pos hj]; rfl
    rw [hzs] at hzl
    have hst := run_storeCells_cells (P := Try.prog) g l.length zs 0 w (fun j hj => by rw [hlen] at hj; rw [Nat.add_zero]; exact hcl j hj) (fun j _ => by rw [Nat.add_zero]; exact hown.free _) hone
    rw [Nat.add_zero] at hst
    have hrun := run_append_more_room (P := Try.prog) w 22 3 o.type 5 i0 (.int .u8 0) Try.underlying22 hu hi hz0 hz1 hz2 g l.length cap k hk (by omega) hroom _ (by rw [hzl]; exact hst)
    have hk1 := h (some ⟨g, 0, none⟩) cap (w.setCells g l.length zs) (.inr ⟨g, 0, rfl, fun i hi => by
      rw [Nat.zero_add]
      by_cases hil : i < l.length
      · rw [World.cell?_setCells_out g _ _ w ⟨g, i, none⟩ (fun _ _ => .inl hil), hown.cell i hil]
        simp [List.getElem?_append_left hil, encB]
      · have hik : i - l.length < k := by simp at hi; omega
        have := World.cell?_setCells_in g zs l.length w (fun j hj => hcl j (by rwa [hlen] at hj)) (i - l.length) (by rw [hlen]; exact hik)
        rw [show l.length + (i - l.length) = i by omega] at this
        have hz := hget _ hik
        rw [List.getElem?_eq_getElem (by omega)] at hz
        rw [this, hz]
        simp [List.getElem?_append_right (show l.length ≤ i by omega), hik]⟩) (below_setCells hlo.1 _ _ _ (Below.refl _ _)) ⟨(fun e => by cases e), ⟨hroom, hown.le_cap.2⟩, fun a e => by cases e; exact Nat.lt_of_lt_of_le hlo.2 (below_setCells hlo.1 _ _ _ (Below.refl B w)).size⟩
    unfold Oper.wp
    simp [execOp, ho, resolve, invoke, builtin, hs, hx, hrun, Result.andThen]
    exact hK _ _ hk1
  · have hrun := run_append_more (P := Try.prog) w 22 3 o.type 5 i0 (.int .u8 0) Try.underlying22 hu hi hz0 hz1 hz2 ⟨g, 0, none⟩ l.length cap (l.map encB) (by simp) (news_of_bts hown.bts) k hk (by omega) (by omega) (by omega)
    have hb : Below B w (w.drew.alloc (.cells ((l.map encB).toArray ++ Builtin.zeroCells (Value.int .u8 0).cells k ++ Builtin.zeroCells (Value.int .u8 0).cells (grownCap w (l.length + k) cap 5 - (l.length + k))) 5)) := ((Below.refl _ w).drew).alloc hB _
    have hbt : Bts (w.drew.alloc (.cells ((l.map encB).toArray ++ Builtin.zeroCells (Value.int .u8 0).cells k ++ Builtin.zeroCells (Value.int .u8 0).cells (grownCap w (l.length + k) cap 5 - (l.length + k))) 5)) (some ⟨w.heap.size, 0, none⟩) (l ++ List.replicate k 0) :=
      bts_pre_new w.drew _ (Builtin.zeroCells (Value.int .u8 0).cells (grownCap w (l.length + k) cap 5 - (l.length + k))) (l ++ List.replicate k 0) _ (by rw [show Builtin.zeroCells (Value.int .u8 0).cells k = zeroB k from zeroCells_u8 k]; congr 1; unfold zeroB; rw [List.map_append]; simp)
    have hmx : grownCap w (l.length + k) cap 5 ≤ 9223372036854775807 := grownCap_le_maxLen w _ _ _ (by unfold maxLen; omega)
    have hk2 := h (some ⟨w.heap.size, 0, none⟩) (grownCap w (l.length + k) cap 5) _ hbt hb ⟨(fun e => by cases e), ⟨grownCap_ge _ _ _ _, hmx⟩, fun a e => by cases e; simp⟩
    rw [Array.append_assoc] at hk2
    unfold Oper.wp
    simp [execOp, ho, resolve, invoke, builtin, hs, hx, hrun, Result.andThen]
    exact hK _ _ hk2
end

end Go.Proofs.Ytapefonhgkjgnaa
