/- Texts of the layers below, under one roof: ZerosO. -/
import Derived.Test.YtapefonhgkjgnaaLdA
import Derived.Test.YtapefonhgkjgnaaLdB
import Derived.Test.YtapefonhgkjgnaaLdC
import Derived.Test.YtapefonhgkjgnaaLdD
set_option maxRecDepth 20000
namespace Go.Proofs.Ytapefonhgkjgnaa

section
open Go.RowKit

theorem zeroCells_u8 (n : Nat) : Builtin.zeroCells #[Value.int .u8 0] n = zeroB n := by
  unfold zeroB Builtin.zeroCells
  apply Array.ext
  · simp
  · intro i h1 h2
    simp [encB, Nat.mod_one]

section
variable {P : Program} (w : World)
theorem run_append_more (t u ty e : TypeId) (i : TypeInfo) (z : Value) (ht : P.underlying t = some (.slice e)) (hu : P.underlying u = some (.int .i64)) (hi : P.info? e = some i) (hz : i.zero = some z) (hsz : i.size = 1) (hby : i.bytes = 1)
    (b : Addr) (sLen sCap : Nat) (olds : List Value) (hlo : olds.length = sLen) (holds : ∀ j v, olds[j]? = some v → w.cell? (b.add j) = some v)
    (k : Nat) (hk : 0 < k) (hk2 : k ≤ 10000000) (hs : sLen ≤ 10000000) (hg : sCap < sLen + k) :
    (Builtin.append_ #[t, u] ty #[.slice (some b) sLen sCap, .int .i64 (k : Int)]).run P w =
      .ok (.slice (some ⟨w.heap.size, 0, none⟩) (sLen + k) (grownCap w (sLen + k) sCap e))
        (w.drew.alloc (.cells (olds.toArray ++ Builtin.zeroCells z.cells k ++ Builtin.zeroCells z.cells (grownCap w (sLen + k) sCap e - (sLen + k))) e)) := by
  have hn : ¬ (sLen + k ≤ sCap) := by omega
  have h63' : ¬ (9223372036854775807 < ((sLen : Int) + (k : Int))) := by omega
  have h48' : ¬ (281474976710656 < Builtin.nextslicecap (sLen + k) sCap) := by have := nextslicecap_le (need := sLen + k) (old := sCap) (by omega); omega
  have hfo := run_firstCells_some (P := P) w.drew 1 sLen b sLen sCap olds (by omega) (by simpa using holds)
  have hw : IntKind.i64.wrap (k : Int) = (k : Int) := by simp [IntKind.wrap, IntKind.bits, IntKind.signed]; omega
  have hl : ¬ ((k : Int) < 0) := by omega
  have hm : ¬ (281474976710656 < (k : Int)) := by omega
  have hk0 : ¬ k = 0 := by omega
  have hsm : ¬ sLen + k ≤ sCap := hn
  simp [Builtin.append_, run_underlying ht, run_underlying hu, sizeOf, typeInfo, zeroValue, hi, hz, hsz, hby, asInt, asIntOf, hw, hl, hm, hk0, hn, h63', h48', Question.forced, hfo, newRow, grownCap]
theorem run_append_more0 (t u ty e : TypeId) (i : TypeInfo) (z : Value) (ht : P.underlying t = some (.slice e)) (hu : P.underlying u = some (.int .i64)) (hi : P.info? e = some i) (hz : i.zero = some z) (_hsz : i.size = 1) (hby : i.bytes = 1)
    (b : Addr) (sLen : Nat) :
    (Builtin.append_ #[t, u] ty #[.slice (some b) sLen sLen, .int .i64 0]).run P w = .ok (.slice (some b) sLen sLen) w := by
  have hw : IntKind.i64.wrap 0 = 0 := by decide
  simp [Builtin.append_, run_underlying ht, run_underlying hu, sizeOf, typeInfo, zeroValue, hi, hz, hby, asInt, asIntOf, hw, storeCells]
end

theorem bts_pre_new (w : World) (C R : Array Value) (m : List UInt8) (t : TypeId) (h : C = (m.map encB).toArray ++ R) : Bts (w.alloc (.cells C t)) (some ⟨w.heap.size, 0, none⟩) m := by
  subst h
  refine .inr ⟨_, _, rfl, fun i hi => ?_⟩
  have h : (w.alloc (.cells ((m.map encB).toArray ++ R) t)).heap[w.heap.size]? = some (.cells ((m.map encB).toArray ++ R) t) := by
    show (w.heap.push _)[w.heap.size]? = _
    simp
  unfold World.cell?
  simp only [h]
  simp [Array.getElem?_append, hi]
section
variable {w : World} {o : Oper} {a : Act} {Q : Exit → Act → World → Prop}
theorem wpList_app_zeros {ops : Array Oper} {rest : List Oper} (hg : o.guard = none) (s x : Operand) (ho : o.op = .call { callee := .builtin .append, args := #[s, x], argTypes := #[22, 3] })
    {ad : Addr} {l : List UInt8} (hs : a.eval s = .slice (some ad) l.length l.length) (hxa : Bts w (some ad) l) (k : Nat) (hx : a.eval x = .int .i64 (k : Int)) (hl : l.length + k ≤ 10000000) {lm : List UInt8} (hlm : l ++ List.replicate k 0 = lm)
    (h : ∀ x' cap' w', Bts w' x' lm → Below w.heap.size w w' → wpList Try.prog ops Q rest (a.put o.dst (.slice x' lm.length cap')) w') : wpList Try.prog ops Q (o :: rest) a w := by
  subst hlm
  obtain ⟨i0, hi, hz0, hz1, hz2⟩ := info_parts infoByte
  have hu : Try.prog.underlying 3 = some (.int .i64) := by kernel_rfl
  refine wpList_plain hg fun K hK => ?_
  by_cases hk : k = 0
  · subst hk
    have hrun := run_append_more0 (P := Try.prog) w 22 3 o.type 5 i0 (.int .u8 0) Try.underlying22 hu hi hz0 hz1 hz2 ad l.length
    have hk := h (some ad) l.length w (by simpa using hxa) (Below.refl _ _)
    simp only [List.replicate_zero, List.append_nil] at hk
    unfold Oper.wp
    simp only [Int.natCast_zero] at hx
    simp [execOp, ho, resolve, invoke, builtin, hs, hx, hrun, Result.andThen]
    exact hK _ _ hk
  · have hrun := run_append_more (P := Try.prog) w 22 3 o.type 5 i0 (.int .u8 0) Try.underlying22 hu hi hz0 hz1 hz2 ad l.length l.length (l.map encB) (by simp) (news_of_bts hxa) k (by omega) (by omega) (by omega) (by omega)
    have hlen : l.length + k = (l ++ List.replicate k (0 : UInt8)).length := by simp
    have hb : Below w.heap.size w (w.drew.alloc (.cells ((l.map encB).toArray ++ Builtin.zeroCells (Value.int .u8 0).cells k ++ Builtin.zeroCells (Value.int .u8 0).cells (grownCap w (l.length + k) l.length 5 - (l.length + k))) 5)) := al ((Below.refl _ w).drew) _
    have hk2 := h (some ⟨w.heap.size, 0, none⟩) (grownCap w (l.length + k) l.length 5) _ (bts_pre_new w.drew _ (Builtin.zeroCells (Value.int .u8 0).cells (grownCap w (l.length + k) l.length 5 - (l.length + k))) (l ++ List.replicate k 0) _ (by rw [show Builtin.zeroCells (Value.int .u8 0).cells k = zeroB k from zeroCells_u8 k]; congr 1; unfold zeroB; rw [List.map_append]; simp)) hb
    rw [← hlen, Array.append_assoc] at hk2
    unfold Oper.wp
    simp [execOp, ho, resolve, invoke, builtin, hs, hx, hrun, Result.andThen]
    exact hK _ _ hk2

/-- append to an own row, at a guarded operation that is wanted. -/
theorem wpList_app_w {ops : Array Oper} {rest : List Oper} (hg : Region.wanted o (yielded ops a.tmps) = true) (s x : Operand) (ho : o.op = .call { callee := .builtin .append, args := #[s, x], argTypes := #[22, 22] })
    {B : Nat} {xa : Option Addr} {cap : Nat} {l : List UInt8} (hown : OwnsB B w xa cap l) (hs : a.eval s = .slice xa l.length cap)
    {y : Option Addr} {m : List UInt8} {c : Nat} (hx : a.eval x = .slice y m.length c) (hy : Bts w y m) (hyn : y = none → c = 0) (hl : l.length + m.length ≤ 10000000) {lm : List UInt8} (hlm : l ++ m = lm) (hB : B ≤ w.heap.size)
    (h : ∀ x' cap' w', OwnsB B w' x' cap' lm → Below B w w' → Turns (RowOf xa) w w' → wpList Try.prog ops Q rest (a.put o.dst (.slice x' lm.length cap')) w') : wpList Try.prog ops Q (o :: rest) a w :=
  wpList_step fun _ hK => by
    rw [if_pos hg]
    exact wp_app s x ho hown hs hx hy hyn hl hlm hB fun x' cap' w' h1 h2 h3 => hK _ _ (h x' cap' w' h1 h2 h3)
end
end

section
open Go.RowKit

section
variable {P : Program} (w : World)
theorem run_append_more_room (t u ty e : TypeId) (i : TypeInfo) (z : Value) (ht : P.underlying t = some (.slice e)) (hu : P.underlying u = some (.int .i64)) (hi : P.info? e = some i) (hz : i.zero = some z) (hsz : i.size = 1) (hby : i.bytes = 1)
    (g sLen sCap : Nat) (k : Nat) (hk : 0 < k) (hk2 : k ≤ 10000000) (hroom : sLen + k ≤ sCap) (w2 : World)
    (hst : (storeCells ⟨g, sLen, none⟩ (Builtin.zeroCells z.cells k).toList).run P w = .ok () w2) :
    (Builtin.append_ #[t, u] ty #[.slice (some ⟨g, 0, none⟩) sLen sCap, .int .i64 (k : Int)]).run P w = .ok (.slice (some ⟨g, 0, none⟩) (sLen + k) sCap) w2 := by
  have hw : IntKind.i64.wrap (k : Int) = (k : Int) := by simp [IntKind.wrap, IntKind.bits, IntKind.signed]; omega
  have hl : ¬ ((k : Int) < 0) := by omega
  have hm : ¬ (281474976710656 < (k : Int)) := by omega
  have hk0 : ¬ k = 0 := by omega
  simp [Builtin.append_, run_underlying ht, run_underlying hu, sizeOf, typeInfo, zeroValue, hi, hz, hsz, hby, asInt, asIntOf, hw, hl, hm, hk0, hroom, Addr.add_lit, hst]
end
section
variable {w : World} {o : Oper} {a : Act} {Q : Exit → Act → World → Prop}
theorem wpList_app_zerosO {ops : Array Oper} {rest : List Oper} (hg : o.guard = none) (s x : Operand) (ho : o.op = .call { callee := .builtin .append, args := #[s, x], argTypes := #[22, 3] })
    {B g cap : Nat} {l : List UInt8} (hown : OwnsB B w (some ⟨g, 0, none⟩) cap l) (hs : a.eval s = .slice (some ⟨g, 0, none⟩) l.length cap) (k : Nat) (hk : 0 < k) (hx : a.eval x = .int .i64 (k : Int)) (hl : l.length + k ≤ 100000) (hB : B ≤ w.heap.size)
    (h : ∀ x' cap' w', Bts w' x' (l ++ List.replicate k 0) → Below B w w' → wpList Try.prog ops Q rest (a.put o.dst (.slice x' (l.length + k) cap')) w') : wpList Try.prog ops Q (o :: rest) a w := by
  obtain ⟨i0, hi, hz0, hz1, hz2⟩ := info_parts infoByte
  have hu : Try.prog.underlying 3 = some (.int .i64) := by kernel_rfl
  refine wpList_plain hg fun K hK => ?_
  by_cases hroom : l.length + k ≤ cap
  · have hzl : (Builtin.zeroCells (Value.int .u8 0).cells k).toList = (List.replicate k (0 : UInt8)).map encB := by
      show (Builtin.zeroCells #[Value.int .u8 0] k).toList = _
      rw [zeroCells_u8]; rfl
    have hlo : B ≤ g ∧ g < w.heap.size := hown.low g rfl
    have hcl : ∀ j, j < k → (w.cell? ⟨g, l.length + j, none⟩).isSome = true := by
      intro j hj
      rcases hown.2 with ⟨hv, _⟩ | ⟨g', cap', cur, hv, _, hg', hnc, _, hcs, _⟩
      · simp only [Value.slice.injEq] at hv; cases hv.1
      · simp only [Value.slice.injEq, Option.some.injEq, Addr.mk.injEq] at hv
        obtain ⟨⟨rfl, _⟩, _, rfl⟩ := hv
        unfold World.cell?
        simp only [hg']
        have : l.length + j < cur.size := by rw [hcs]; omega
        simp [this]
    obtain ⟨zs, hzs⟩ : ∃ zs, (List.replicate k (0 : UInt8)).map encB = zs := ⟨_, rfl⟩
    have hlen : zs.length = k := by rw [← hzs]; simp
    have hone : ∀ u ∈ zs, u.oneCell' = true := by rw [← hzs]; exact oneEnc _
    have hget : ∀ j, j < k → zs[j]? = some (encB 0) := fun j hj => by rw [← hzs, List.getElem?_map, List.getElem?_replicate, if_pos hj]; rfl
    rw [hzs] at hzl
    have hst := run_storeCells_cells (P := Try.prog) g l.length zs 0 w (fun j hj => by rw [hlen] at hj; rw [Nat.add_zero]; exact hcl j hj) (fun j _ => by rw [Nat.add_zero]; exact hown.free _) hone
    rw [Nat.add_zero] at hst
    have hrun := run_append_more_room (P := Try.prog) w 22 3 o.type 5 i0 (.int .u8 0) Try.underlying22 hu hi hz0 hz1 hz2 g l.length cap k hk (by omega) hroom _ (by rw [hzl]; exact hst)
    have hk1 := h (some ⟨g, 0, none⟩) cap (w.setCells g l.length zs) (.inr ⟨g, 0, rfl, fun i hi => by
      rw [Nat.zero_add]
      by_cases hil : i < l.length
      · rw [World.cell?_setCells_out g _ _ w ⟨g, i, none⟩ (fun _ _ => .inl hil), hown.cell i hil]
        simp [List.getElem?_append_left hil, encB]
      · have hik : i - l.length < k := by simp at hi; omega
        have := World.cell?_setCells_in g zs l.length w (fun j hj => hcl j (by rwa [hlen] at hj)) (i - l.length) (by rw [hlen]; exact hik)
        rw [show l.length + (i - l.length) = i by omega] at this
        have hz := hget _ hik
        rw [List.getElem?_eq_getElem (by omega)] at hz
        rw [this, hz]
        simp [List.getElem?_append_right (show l.length ≤ i by omega), hik]⟩) (below_setCells hlo.1 _ _ _ (Below.refl _ _))
    unfold Oper.wp
    simp [execOp, ho, resolve, invoke, builtin, hs, hx, hrun, Result.andThen]
    exact hK _ _ hk1
  · have hrun := run_append_more (P := Try.prog) w 22 3 o.type 5 i0 (.int .u8 0) Try.underlying22 hu hi hz0 hz1 hz2 ⟨g, 0, none⟩ l.length cap (l.map encB) (by simp) (news_of_bts hown.bts) k hk (by omega) (by omega) (by omega)
    have hb : Below B w (w.drew.alloc (.cells ((l.map encB).toArray ++ Builtin.zeroCells (Value.int .u8 0).cells k ++ Builtin.zeroCells (Value.int .u8 0).cells (grownCap w (l.length + k) cap 5 - (l.length + k))) 5)) := ((Below.refl _ w).drew).alloc hB _
    have hbt : Bts (w.drew.alloc (.cells ((l.map encB).toArray ++ Builtin.zeroCells (Value.int .u8 0).cells k ++ Builtin.zeroCells (Value.int .u8 0).cells (grownCap w (l.length + k) cap 5 - (l.length + k))) 5)) (some ⟨w.heap.size, 0, none⟩) (l ++ List.replicate k 0) :=
      bts_pre_new w.drew _ (Builtin.zeroCells (Value.int .u8 0).cells (grownCap w (l.length + k) cap 5 - (l.length + k))) (l ++ List.replicate k 0) _ (by rw [show Builtin.zeroCells (Value.int .u8 0).cells k = zeroB k from zeroCells_u8 k]; congr 1; unfold zeroB; rw [List.map_append]; simp)
    have hk2 := h (some ⟨w.heap.size, 0, none⟩) (grownCap w (l.length + k) cap 5) _ hbt hb
    rw [Array.append_assoc] at hk2
    unfold Oper.wp
    simp [execOp, ho, resolve, invoke, builtin, hs, hx, hrun, Result.andThen]
    exact hK _ _ hk2
end
end

end Go.Proofs.Ytapefonhgkjgnaa
