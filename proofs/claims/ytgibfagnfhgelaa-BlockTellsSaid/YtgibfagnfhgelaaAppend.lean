/- append at bytes: to a row of the call's own; to a slice that is full. -/
import Derived.Test.YtgibfagnfhgelaaOwns
import Derived.Test.YtgibfagnfhgelaaTurns
import Derived.Laws.AppendOwnNone
import Derived.ArgAppend
import Derived.Laws.OwnMore
namespace Go.Proofs.Ytgibfagnfhgelaa
open Go.RowKit

theorem Turns.of_grownBy {w w' : World} {row : Option Nat} {T : Nat → Prop} (h : w.grownBy w' row) (hT : ∀ b, row = some b → T b) : Turns T w w' :=
  ⟨h.os, h.tape, h.output, h.size, fun k hk ht => h.block k hk (fun e => ht (hT k e.symm))⟩

theorem later_lt {B : Nat} {w w' : World} (hb : Below B w w') {a : Addr} {v : Value} (ha : a.block < B) (h : w.cell? a = some v) : w'.cell? a = some v := (hb.cell ha).trans h

theorem OwnsB.nil (B : Nat) (w : World) : OwnsB B w none 0 [] := World.ownsRow_nil _ _ _ _

theorem oneEnc (l : List UInt8) : ∀ u ∈ l.map encB, u.oneCell' = true := by
  intro u hu; simp at hu; obtain ⟨b, _, rfl⟩ := hu; rfl

/-- The blocks that a slice's append may write. -/
def RowOf (xa : Option Addr) (b : Nat) : Prop := (Value.slice xa 0 0).ownBlock = some b

theorem OwnsB.low {B : Nat} {w : World} {x : Option Addr} {cap : Nat} {l : List UInt8} (h : OwnsB B w x cap l) : ∀ b, RowOf x b → B ≤ b ∧ b < w.heap.size := by
  intro b hb
  rcases h.2 with ⟨hv, _⟩ | ⟨g, cap', cur, hv, hlo, hg, _⟩
  · simp only [Value.slice.injEq] at hv
    rw [hv.1] at hb; cases hb
  · simp only [Value.slice.injEq] at hv
    rw [hv.1] at hb; cases hb
    exact ⟨hlo, (Array.getElem?_eq_some_iff.1 hg).1⟩

theorem OwnsB.turn {B : Nat} {w w' : World} {x : Option Addr} {cap : Nat} {l : List UInt8} {T : Nat → Prop} (h : OwnsB B w x cap l) (ht : Turns T w w') (hT : ∀ b, RowOf x b → ¬ T b) : OwnsB B w' x cap l := by
  refine ⟨h.1, ?_⟩
  rcases h.2 with h0 | ⟨g, cap', cur, hv, hlo, hg, hr⟩
  · exact .inl h0
  · refine .inr ⟨g, cap', cur, hv, hlo, ?_, hr⟩
    simp only [Value.slice.injEq] at hv
    exact (ht.block g (Array.getElem?_eq_some_iff.1 hg).1 (hT g (by rw [hv.1]; rfl))).trans hg

theorem Bts.turn {w w' : World} {x : Option Addr} {l : List UInt8} {T : Nat → Prop} (h : Bts w x l) (ht : Turns T w w') (hT : ∀ a, x = some a → ¬ T a.block) : Bts w' x l := by
  rcases h with h | ⟨b, o, hx, hc⟩
  · exact .inl h
  · exact .inr ⟨b, o, hx, fun i hi => ht.cell (show ¬ T b from hT ⟨b, o, none⟩ hx) (hc i hi)⟩

theorem OwnsB.weaken {B B' : Nat} {w : World} {x : Option Addr} {cap : Nat} {l : List UInt8} (h : OwnsB B w x cap l) (hB : B' ≤ B) : OwnsB B' w x cap l := by
  refine ⟨h.1, ?_⟩
  rcases h.2 with h | ⟨g, cap, cur, h1, h2, h3⟩
  · exact .inl h
  · exact .inr ⟨g, cap, cur, h1, Nat.le_trans hB h2, h3⟩
theorem Bts.left {w : World} {g o : Nat} {l m : List UInt8} (h : Bts w (some ⟨g, o, none⟩) (l ++ m)) : Bts w (some ⟨g, o, none⟩) l := by
  rcases h with h | ⟨b, o', hx, hc⟩
  · exact .inl (List.append_eq_nil_iff.1 h).1
  · cases hx
    exact .inr ⟨g, o, rfl, fun i hi => by have := hc i (by simp; omega); rwa [List.getD_eq_getElem?_getD, List.getElem?_append_left hi, ← List.getD_eq_getElem?_getD] at this⟩
theorem Bts.right {w : World} {g o : Nat} {l m : List UInt8} (h : Bts w (some ⟨g, o, none⟩) (l ++ m)) : Bts w (some ⟨g, o + l.length, none⟩) m := by
  rcases h with h | ⟨b, o', hx, hc⟩
  · exact .inl (List.append_eq_nil_iff.1 h).2
  · cases hx
    refine .inr ⟨g, o + l.length, rfl, fun i hi => ?_⟩
    have := hc (l.length + i) (by simp; omega)
    rw [List.getD_eq_getElem?_getD, List.getElem?_append_right (by omega), Nat.add_sub_cancel_left, ← List.getD_eq_getElem?_getD, ← Nat.add_assoc] at this
    exact this
theorem OwnsB.some_of {B : Nat} {w : World} {x : Option Addr} {cap : Nat} {l : List UInt8} (h : OwnsB B w x cap l) (h0 : 0 < l.length) : ∃ g, x = some ⟨g, 0, none⟩ := by
  rcases h.2 with ⟨_, hv⟩ | ⟨g, cap', cur, hv, _⟩
  · omega
  · simp only [Value.slice.injEq] at hv; exact ⟨g, hv.1⟩
theorem OwnsB.cell {B : Nat} {w : World} {g cap : Nat} {l : List UInt8} (h : OwnsB B w (some ⟨g, 0, none⟩) cap l) (i : Nat) (hi : i < l.length) : w.cell? ⟨g, i, none⟩ = some (.int .u8 ((l.getD i 0).toNat : Int)) := by
  rw [World.ownsRow.cellAt h i (by omega)]
  simp [List.getElem?_eq_getElem hi, encB]
theorem OwnsB.free {B : Nat} {w : World} {g cap : Nat} {l : List UInt8} (h : OwnsB B w (some ⟨g, 0, none⟩) cap l) (i : Nat) : w.frozen? ⟨g, i, none⟩ = false := World.ownsRow.frozenAt h i
theorem OwnsB.set {B : Nat} {w : World} {g cap : Nat} {l : List UInt8} (h : OwnsB B w (some ⟨g, 0, none⟩) cap l) (i : Nat) (v : UInt8) : OwnsB B (w.setCell ⟨g, i, none⟩ (.int .u8 (v.toNat : Int))) (some ⟨g, 0, none⟩) cap (l.set i v) := by
  have := (World.ownsRow.stored h i (.int .u8 (v.toNat : Int))).1
  have e : (l.map encB).set i (.int .u8 (v.toNat : Int)) = (l.set i v).map encB := by rw [List.map_set]; rfl
  rw [e] at this
  unfold OwnsB
  rw [List.length_set]
  exact this
theorem OwnsB.made (B : Nat) (w : World) (hB : B ≤ w.heap.size) : OwnsB B (w.alloc (.cells #[] 5)) (some ⟨w.heap.size, 0, none⟩) 0 [] :=
  World.ownsRow_made (base := B) (e := 5) (size := 1) w #[] 0 hB (by unfold maxLen; omega) rfl

theorem OwnsB.made' (B g : Nat) (w : World) (hB : B ≤ w.heap.size) (hg : w.heap.size = g) : OwnsB B (w.alloc (.cells #[] 5)) (some ⟨g, 0, none⟩) 0 [] := by
  subst hg; exact OwnsB.made B w hB

/-- The bytes of a block just made. -/
theorem bts_new (w : World) (l : List UInt8) (t : TypeId) (p : Nat × Nat) : Bts (w.alloc (.cells (l.map encB).toArray t p)) (some ⟨w.heap.size, 0, none⟩) l := by
  refine .inr ⟨_, _, rfl, fun i hi => ?_⟩
  have h : (w.alloc (.cells (l.map encB).toArray t p)).heap[w.heap.size]? = some (.cells (l.map encB).toArray t p) := by
    show (w.heap.push _)[w.heap.size]? = _
    simp
  unfold World.cell?
  simp only [h]
  simp [List.getElem?_eq_getElem hi]
theorem bts_one (w : World) (v : UInt8) (t : TypeId) (p : Nat × Nat) : Bts (w.alloc (.cells #[.int .u8 (v.toNat : Int)] t p)) (some ⟨w.heap.size, 0, none⟩) [v] := bts_new w [v] t p

section
variable {w : World} {o : Oper} {a : Act} {Q : Exit → Act → World → Prop}

theorem wp_app {K : Act → World → Prop} (s x : Operand) (ho : o.op = .call { callee := .builtin .append, args := #[s, x], argTypes := #[25, 25] })
    {B : Nat} {xa : Option Addr} {cap : Nat} {l : List UInt8} (hown : OwnsB B w xa cap l) (hs : a.eval s = .slice xa l.length cap)
    {y : Option Addr} {m : List UInt8} {c : Nat} (hx : a.eval x = .slice y m.length c) (hy : Bts w y m) (hyn : y = none → c = 0) (hl : l.length + m.length ≤ 10000000) {lm : List UInt8} (hlm : l ++ m = lm) (hB : B ≤ w.heap.size)
    (h : ∀ x' cap' w', OwnsB B w' x' cap' lm → Below B w w' → Turns (RowOf xa) w w' → K (a.put o.dst (.slice x' lm.length cap')) w') : o.wp Try.prog a w K Q := by
  subst hlm
  obtain ⟨i0, hi, hz0, hz1, hz2⟩ := info_parts infoByte
  cases y with
  | none =>
    obtain rfl := hyn rfl
    have hm : m = [] := by
      rcases hy with h | ⟨b, o, hx, _⟩
      · exact h
      · cases hx
    subst hm
    have hrun := run_append_owned_none (P := Try.prog) (w := w) B 25 o.type 5 i0 1 Try.underlying25 hi _ _ _ hown
    have hk := h xa cap w (by rw [List.append_nil]; exact hown) (Below.refl _ _) (Turns.refl _ _)
    rw [List.append_nil] at hk
    simp only [List.length_nil] at hx
    unfold Oper.wp
    simp [execOp, ho, resolve, invoke, builtin, hs, hx, hrun, Result.andThen]
    exact hk
  | some ad =>
    refine wp_append_own w s x 25 ho B 5 i0 (.int .u8 0) 1 1 Try.underlying25 hi hz0 hz1 hz2 rfl (by decide) _ _ _ hs hown ad m.length c (m.map encB) hx (by simp) (news_of_bts hy) (oneEnc m) (by unfold maxLen; omega) (by omega) hB (fun v' w' h1 h2 _ => ?_)
    obtain ⟨x', cap', rfl⟩ := owns_form h1
    have hlen : l.length + m.length = (l ++ m).length := by simp
    rw [hlen, ← List.map_append] at h1
    rw [hlen]
    refine h x' cap' w' h1 ((Below.refl _ _).grown h2 hB (fun k e => ?_)) (Turns.of_grownBy h2 (fun b e => ?_))
    · exact (OwnsB.low hown k (by unfold RowOf; cases xa <;> exact e)).1
    · unfold RowOf; cases xa <;> exact e

theorem wpList_app {ops : Array Oper} {rest : List Oper} (hg : o.guard = none) (s x : Operand) (ho : o.op = .call { callee := .builtin .append, args := #[s, x], argTypes := #[25, 25] })
    {B : Nat} {xa : Option Addr} {cap : Nat} {l : List UInt8} (hown : OwnsB B w xa cap l) (hs : a.eval s = .slice xa l.length cap)
    {y : Option Addr} {m : List UInt8} {c : Nat} (hx : a.eval x = .slice y m.length c) (hy : Bts w y m) (hyn : y = none → c = 0) (hl : l.length + m.length ≤ 10000000) {lm : List UInt8} (hlm : l ++ m = lm) (hB : B ≤ w.heap.size)
    (h : ∀ x' cap' w', OwnsB B w' x' cap' lm → Below B w w' → Turns (RowOf xa) w w' → wpList Try.prog ops Q rest (a.put o.dst (.slice x' lm.length cap')) w') : wpList Try.prog ops Q (o :: rest) a w :=
  wpList_plain hg fun _ hK => wp_app s x ho hown hs hx hy hyn hl hlm hB fun x' cap' w' h1 h2 h3 => hK _ _ (h x' cap' w' h1 h2 h3)

/-- append to a slice without room: a new row. -/
theorem wpList_app_full {ops : Array Oper} {rest : List Oper} (hg : o.guard = none) (s x : Operand) (ho : o.op = .call { callee := .builtin .append, args := #[s, x], argTypes := #[25, 25] })
    {xa : Option Addr} {l : List UInt8} {cap : Nat} (hs : a.eval s = .slice xa l.length cap) (hxa : Bts w xa l) (hn : xa = none → cap = 0)
    {ad : Addr} {m : List UInt8} {c : Nat} (hx : a.eval x = .slice (some ad) m.length c) (hy : Bts w (some ad) m) (hf : cap < l.length + m.length) (hl : l.length + m.length ≤ 10000000) {lm : List UInt8} (hlm : l ++ m = lm)
    (h : ∀ x' cap' w', OwnsB w.heap.size w' x' cap' lm → Below w.heap.size w w' → wpList Try.prog ops Q rest (a.put o.dst (.slice x' lm.length cap')) w') : wpList Try.prog ops Q (o :: rest) a w := by
  subst hlm
  obtain ⟨i0, hi, hz0, hz1, hz2⟩ := info_parts infoByte
  refine wpList_append_grows w hg s x 25 ho 5 i0 (.int .u8 0) 1 1 Try.underlying25 hi hz0 hz1 hz2 rfl (by decide) xa l.length cap (l.map encB) hs (fun e => ⟨?_, hn e⟩) (by simp) (fun b e => by subst e; exact news_of_bts hxa)
    ad m.length c (m.map encB) hx (by simp) (news_of_bts hy) (oneEnc m) hf (by unfold maxLen; omega) (by omega) (fun v' w' h1 h2 => ?_)
  · rcases hxa with h | ⟨b, o, hx, _⟩
    · subst h; rfl
    · rw [e] at hx; cases hx
  · obtain ⟨x', cap', rfl⟩ := owns_form h1
    have hlen : l.length + m.length = (l ++ m).length := by simp
    rw [hlen, ← List.map_append] at h1
    rw [hlen]
    exact h x' cap' w' h1 ((Below.refl _ _).grown h2 (Nat.le_refl _) (fun k e => by cases e))

end

end Go.Proofs.Ytgibfagnfhgelaa
