/- WALKS of the loader: Install. -/
import Derived.Test.YtapefonhgkjgnaaGreatLdN
set_option maxRecDepth 20000
namespace Go.Proofs.YtapefonhgkjgnaaGreat
open Go.RowKit

theorem OwnsO.apartB {B B' : Nat} {w : World} {x y : Option Addr} {cap c : Nat} {os : List OpV} {l : List UInt8} (h : OwnsO B w x cap os) (k : OwnsB B' w y c l) : ∀ b, RowOf x b → ¬ RowOf y b := by
  intro b hb hy
  rcases h.2 with ⟨hv, _⟩ | ⟨g, cap', cur, hv, _, hg, _⟩
  · simp only [Value.slice.injEq] at hv
    rw [hv.1] at hb; cases hb
  · rcases k.2 with ⟨hv2, _⟩ | ⟨g2, cap2, cur2, hv2, _, hg2, _⟩
    · simp only [Value.slice.injEq] at hv2
      rw [hv2.1] at hy; cases hy
    · simp only [Value.slice.injEq] at hv hv2
      rw [hv.1] at hb; rw [hv2.1] at hy
      cases hb; cases hy
      rw [hg] at hg2
      simp at hg2
theorem OwnsO.low {B : Nat} {w : World} {x : Option Addr} {cap : Nat} {os : List OpV} (h : OwnsO B w x cap os) : ∀ b, RowOf x b → B ≤ b ∧ b < w.heap.size := by
  intro b hb
  rcases h.2 with ⟨hv, _⟩ | ⟨g, cap', cur, hv, hlo, hg, _⟩
  · simp only [Value.slice.injEq] at hv
    rw [hv.1] at hb; cases hb
  · simp only [Value.slice.injEq] at hv
    rw [hv.1] at hb
    cases hb
    exact ⟨hlo, (Array.getElem?_eq_some_iff.1 hg).1⟩
theorem OwnsO.nil (B : Nat) (w : World) : OwnsO B w none 0 [] := World.ownsRow_nil _ _ _ _
theorem OwnsO.weaken {B B' : Nat} {w : World} {x : Option Addr} {cap : Nat} {os : List OpV} (h : OwnsO B w x cap os) (hB : B' ≤ B) : OwnsO B' w x cap os := by
  refine ⟨h.1, ?_⟩
  rcases h.2 with h | ⟨g, cap', cur, hv, hlo, hr⟩
  · exact .inl h
  · exact .inr ⟨g, cap', cur, hv, Nat.le_trans hB hlo, hr⟩
theorem cellsO_one {w : World} {g : Nat} (u : OpV) (h0 : w.cell? ⟨g, 0, none⟩ = some (.int .i64 u.blk)) (h1 : w.cell? ⟨g, 1, none⟩ = some (.bool u.er)) (h2 : w.cell? ⟨g, 2, none⟩ = some (.slice u.x u.d.length u.c)) : CellsO w g 0 [u] := fun i hi => by
  obtain rfl : i = 0 := by simp at hi; omega
  exact ⟨h0, h1, h2⟩
section
variable {w : World}
theorem owns_grownS (B : Nat) (e : TypeId) (xs news : List Value) (n m old sz : Nat) (z : Value) (hz : z.cells.size = sz) (hx : xs.length = n * sz) (hn : news.length = m * sz) (hB : B ≤ w.heap.size) (hm : n + m ≤ maxLen) :
    (w.drew.alloc (.cells (xs.toArray ++ news.toArray ++ Builtin.zeroCells z.cells (grownCap w (n + m) old e - (n + m))) e)).ownsRow B e sz (.slice (some ⟨w.heap.size, 0, none⟩) (n + m) (grownCap w (n + m) old e)) (n + m) (xs ++ news) := by
  have hge := grownCap_ge w (n + m) old e
  have hcm := grownCap_le_maxLen w (n + m) old e hm
  refine ⟨by rw [List.length_append, hx, hn, Nat.add_mul], .inr ⟨w.heap.size, _, _, rfl, hB, heap_alloc_new w.drew _, hge, hcm, ?_, ?_⟩⟩
  · simp only [Array.size_append, List.size_toArray, size_zeroCells, hz, hx, hn]
    rw [← Nat.add_mul, ← Nat.add_mul, Nat.add_sub_cancel' hge]
  · simp only [Array.toList_append, List.append_assoc]
    rw [← List.append_assoc, ← show (xs ++ news).length = (n + m) * sz by rw [List.length_append, hx, hn, Nat.add_mul]]
    exact List.take_left
end
/-- append of one operation to a row of the call's own; the row stays or is a new block. -/
theorem wp_appO {o : Oper} {a : Act} {w : World} {Q : Exit → Act → World → Prop} {K : Act → World → Prop} (s x : Operand) (ho : o.op = .call { callee := .builtin .append, args := #[s, x], argTypes := #[53, 53] })
    {B : Nat} {xa : Option Addr} {cap : Nat} {l : List OpV} {n : Nat} (hn : l.length = n) (hown : OwnsO B w xa cap l) (hs : a.eval s = .slice xa n cap)
    {b q c : Nat} {u : OpV} (hx : a.eval x = .slice (some ⟨b, q, none⟩) 1 c) (hy : CellsO w b q [u]) (hl : n ≤ 100000) (hB : B ≤ w.heap.size)
    (h : ∀ x' cap' w', OwnsO B w' x' cap' (l ++ [u]) → Below B w w' → Turns (RowOf xa) w w' → (∀ b, RowOf x' b → RowOf xa b ∨ w.heap.size ≤ b) → K (a.put o.dst (.slice x' (n + 1) cap')) w') : o.wp Tryz.prog a w K Q := by
  subst hn
  obtain ⟨i0, hi, hz0, hz1, hz2⟩ := info_parts infoOp
  have hplain : ∀ j, (⟨b, q, none⟩ : Addr).add j = ⟨b, q + j, none⟩ := fun j => by unfold Addr.add; split <;> simp_all
  have hnews : ∀ j v, (encO u)[j]? = some v → w.cell? ((⟨b, q, none⟩ : Addr).add j) = some v := fun j v hj => by
    rw [hplain]
    exact ops_cells [u] q hy j v (by simpa using hj)
  have hel : (encO u).length = 3 := rfl
  have hfl := flat_len l
  have hmax : l.length + 1 ≤ maxLen := by unfold maxLen; omega
  have hlen : (l ++ [u]).length = l.length + 1 := by simp
  have hfm : (l ++ [u]).flatMap encO = l.flatMap encO ++ encO u := by simp
  have hone : ∀ v ∈ encO u, v.oneCell' = true := fun v hv => flat_one [u] v (by simpa using hv)
  have grown : ∀ old, OwnsO B (w.drew.alloc (.cells ((l.flatMap encO).toArray ++ (encO u).toArray ++ Builtin.zeroCells (Value.agg #[.int .i64 0, .bool false, .slice none 0 0]).cells (grownCap w (l.length + 1) old 60 - (l.length + 1))) 60)) (some ⟨w.heap.size, 0, none⟩) (grownCap w (l.length + 1) old 60) (l ++ [u]) := fun old => by
    have := owns_grownS (w := w) B 60 (l.flatMap encO) (encO u) l.length 1 old 3 (.agg #[.int .i64 0, .bool false, .slice none 0 0]) rfl hfl rfl hB hmax
    unfold OwnsO
    rw [hlen, hfm]
    exact this
  have hbel : ∀ ob : Obj, Below B w (w.drew.alloc ob) := fun ob => ((Below.refl _ w).drew).alloc hB ob
  have htur : ∀ (T : Nat → Prop) (ob : Obj), Turns T w (w.drew.alloc ob) := fun T ob => ((Turns.refl T w).drew).alloc ob
  have hnew : ∀ b, RowOf (some ⟨w.heap.size, 0, none⟩) b → RowOf xa b ∨ w.heap.size ≤ b := fun b hb => by cases hb; exact .inr (Nat.le_refl _)
  rcases hown.2 with ⟨hv, h0⟩ | ⟨g, cap', cur, hv, hlo, hg, hnc, hcm, hcs, htk⟩
  · simp only [Value.slice.injEq] at hv
    obtain ⟨rfl, hl0, rfl⟩ := hv
    have hl : l = [] := List.eq_nil_of_length_eq_zero hl0
    subst hl
    have hrun := run_append_nil (P := Tryz.prog) w 53 o.type 60 i0 _ (by kernel_rfl) hi hz0 ⟨b, q, none⟩ 1 c (encO u) (by rw [hz1]; rfl) hnews (by omega) (by omega) (by rw [hz2]; omega)
    have hk := h _ _ _ (grown 0) (hbel _) (htur _ _) hnew
    simp only [List.flatMap_nil, List.length_nil, Nat.zero_add, Array.empty_append] at hk hs
    unfold Oper.wp
    simp [execOp, ho, resolve, invoke, builtin, hs, hx, hrun, Result.andThen]
    first | exact hk | (simp at hk; exact hk)
  · simp only [Value.slice.injEq] at hv
    obtain ⟨rfl, _, rfl⟩ := hv
    by_cases hroom : l.length + 1 ≤ cap
    · have hrun := run_append_room (P := Tryz.prog) w 53 o.type 60 i0 (by kernel_rfl) hi g l.length cap cur hg ⟨b, q, none⟩ 1 c (encO u) (by rw [hz1]; rfl) hnews hone hroom (by rw [hz1, hel]; omega)
      have ho2 : OwnsO B (w.setRow g (cur.toList.take (l.length * i0.size) ++ encO u ++ cur.toList.drop (l.length * i0.size + (encO u).length)).toArray) (some ⟨g, 0, none⟩) cap (l ++ [u]) := by
        refine ⟨by rw [flat_len, hlen], .inr ⟨g, cap, _, by rw [hlen], hlo, setRow_heap w g cur _ _ _ hg, by rw [hlen]; exact hroom, hcm, ?_, ?_⟩⟩
        · simp only [List.size_toArray, List.length_append, List.length_take, List.length_drop, Array.length_toList, hz1, hel]; omega
        · rw [hz1, hlen, hfm, List.toList_toArray]
          have e : List.take (l.length * 3) cur.toList = l.flatMap encO := htk
          rw [e]
          have e2 : (l.flatMap encO ++ encO u).length = (l.length + 1) * 3 := by rw [List.length_append, hfl, hel]; omega
          rw [← e2]
          exact List.take_left
      have hsr : Turns (RowOf (some ⟨g, 0, none⟩)) w (w.setRow g (cur.toList.take (l.length * i0.size) ++ encO u ++ cur.toList.drop (l.length * i0.size + (encO u).length)).toArray) := ⟨rfl, rfl, rfl, by simp, fun k _ hk => setRow_other w g k _ (fun e => hk (by subst e; rfl))⟩
      have hk := h _ _ _ ho2 (hsr.below hB (fun i hi hr => by have e : g = i := Option.some.inj hr; omega)) hsr (fun b hb => .inl hb)
      unfold Oper.wp
      simp [execOp, ho, resolve, invoke, builtin, hs, hx, hrun, Result.andThen]
      first | exact hk | (simp at hk; exact hk)
    · have hrun := run_append_grow (P := Tryz.prog) w 53 o.type 60 i0 _ (by kernel_rfl) hi hz0 ⟨g, 0, none⟩ l.length cap (l.flatMap encO) (by rw [hz1, hfl]) (fun j v hj => World.ownsRow.cells hown (g := g) rfl j v hj) ⟨b, q, none⟩ 1 c (encO u) (by rw [hz1]; rfl) hnews (by omega) (by omega) (by rw [hz2]; exact growslice_fits (by omega) (by omega))
      have hk := h _ _ _ (grown cap) (hbel _) (htur _ _) hnew
      unfold Oper.wp
      simp [execOp, ho, resolve, invoke, builtin, hs, hx, hrun, Result.andThen]
      first | exact hk | (simp at hk; exact hk)
/-- Operations that the call owns: their row, and the rows of their data. -/
structure OwnsOp (B : Nat) (w : World) (x : Option Addr) (cap : Nat) (os : List OpV) : Prop where
  row : OwnsO B w x cap os
  each : ∀ o, o ∈ os → OwnsB B w o.x o.c o.d ∧ -9223372036854775808 ≤ o.blk ∧ o.blk ≤ 9223372036854775807
theorem OwnsOp.nil (B : Nat) (w : World) : OwnsOp B w none 0 [] := ⟨OwnsO.nil _ _, fun _ h => by cases h⟩
theorem OwnsOp.turn {B : Nat} {w w' : World} {x : Option Addr} {cap : Nat} {os : List OpV} {T : Nat → Prop} (h : OwnsOp B w x cap os) (ht : Turns T w w') (hT : ∀ b, B ≤ b → b < w.heap.size → ¬ T b) : OwnsOp B w' x cap os :=
  ⟨h.row.turn ht (fun b hb => hT b (h.row.low b hb).1 (h.row.low b hb).2), fun o ho => ⟨(h.each o ho).1.turn ht (fun b hb => hT b ((h.each o ho).1.low b hb).1 ((h.each o ho).1.low b hb).2), (h.each o ho).2⟩⟩
theorem OwnsOp.later {B : Nat} {w w' : World} {x : Option Addr} {cap : Nat} {os : List OpV} (h : OwnsOp B w x cap os) (hb : Below w.heap.size w w') : OwnsOp B w' x cap os :=
  h.turn (Turns.of_below hb (Nat.le_refl _)) (fun _ _ _ h => h)
theorem OwnsOp.weaken {B B' : Nat} {w : World} {x : Option Addr} {cap : Nat} {os : List OpV} (h : OwnsOp B w x cap os) (hB : B' ≤ B) : OwnsOp B' w x cap os := ⟨h.row.weaken hB, fun o ho => ⟨(h.each o ho).1.weaken hB, (h.each o ho).2⟩⟩
theorem OwnsOp.app {B : Nat} {w w' : World} {xa x' : Option Addr} {cap cap' : Nat} {os : List OpV} {u : OpV} (h : OwnsOp B w xa cap os) (h1 : OwnsO B w' x' cap' (os ++ [u])) (ht : Turns (RowOf xa) w w') (hu : OwnsB B w u.x u.c u.d) (hb : -9223372036854775808 ≤ u.blk ∧ u.blk ≤ 9223372036854775807) : OwnsOp B w' x' cap' (os ++ [u]) := by
  refine ⟨h1, fun o ho => ?_⟩
  rcases List.mem_append.1 ho with ho | ho
  · exact ⟨(h.each o ho).1.turn ht (fun b hb hr => h.row.apartB (h.each o ho).1 b hr hb), (h.each o ho).2⟩
  · obtain rfl : o = u := by simpa using ho
    exact ⟨hu.turn ht (fun b hb hr => h.row.apartB hu b hr hb), hb⟩
theorem OwnsO.cells {B : Nat} {w : World} {x : Option Addr} {cap : Nat} {os : List OpV} (h : OwnsO B w x cap os) : os = [] ∨ ∃ g, x = some ⟨g, 0, none⟩ ∧ CellsO w g 0 os := by
  cases os with
  | nil => exact .inl rfl
  | cons a l =>
    obtain ⟨g, rfl, _⟩ := h.some_of (by simp)
    exact .inr ⟨g, rfl, h.cellsO⟩
theorem OwnsOp.ops {B : Nat} {w : World} {x : Option Addr} {cap : Nat} {os : List OpV} (h : OwnsOp B w x cap os) : Ops w x os := by
  have hk : ∀ o, o ∈ os → OpOk w o := fun o ho => by
    obtain ⟨ho, h1, h2⟩ := h.each o ho
    exact ⟨ho.bts, ho.none_cap, ho.le_cap.1, ho.le_cap.2, h1, h2⟩
  rcases h.row.cells with rfl | ⟨g, rfl, hc⟩
  · exact ⟨.inl rfl, hk⟩
  · exact hc.ops hk
theorem OwnsOp.none_cap {B : Nat} {w : World} {x : Option Addr} {cap : Nat} {os : List OpV} (h : OwnsOp B w x cap os) : x = none → cap = 0 := fun e => by
  rcases h.row.2 with ⟨hv, _⟩ | ⟨g, cap', cur, hv, _⟩
  · simp only [Value.slice.injEq] at hv; exact hv.2.2
  · simp only [Value.slice.injEq] at hv; rw [e] at hv; cases hv.1

theorem Blk.recSet {W : World} {b : Nat} {r : Ld.Rec} (h : Blk W b 0 4 (recF r)) (i : Nat) (hi : i < 4) (v : Value) (r' : Ld.Rec) (he : ∀ j, j < 4 → recF r' j = if j = i then v else recF r j) : Blk (W.setCell ⟨b, i, none⟩ v) b 0 4 (recF r') :=
  (h.set0 i hi v).congr fun j hj => (he j hj).symm
theorem recF_bank (r : Ld.Rec) (m : Nat) : ∀ j, j < 4 → recF ⟨m, r.chunks, r.number, r.dg⟩ j = if j = 0 then .int .i64 (m : Int) else recF r j := fun j _ => by unfold recF; split <;> rfl
theorem recF_chunks (r : Ld.Rec) (m : Nat) : ∀ j, j < 4 → recF ⟨r.bank, m, r.number, r.dg⟩ j = if j = 1 then .int .i64 (m : Int) else recF r j := fun j hj => by
  match j, hj with
  | 0, _ => rfl
  | 1, _ => rfl
  | 2, _ => rfl
  | 3, _ => rfl
  | j + 4, h => exact absurd h (by omega)
theorem recF_number (r : Ld.Rec) (m : Nat) : ∀ j, j < 4 → recF ⟨r.bank, r.chunks, m, r.dg⟩ j = if j = 2 then .int .u32 (m : Int) else recF r j := fun j hj => by
  match j, hj with
  | 0, _ => rfl
  | 1, _ => rfl
  | 2, _ => rfl
  | 3, _ => rfl
  | j + 4, h => exact absurd h (by omega)
theorem recF_dig (r : Ld.Rec) (d : D64) : ∀ j, j < 4 → recF ⟨r.bank, r.chunks, r.number, d⟩ j = if j = 3 then .int .u64 (num d) else recF r j := fun j hj => by
  match j, hj with
  | 0, _ => rfl
  | 1, _ => rfl
  | 2, _ => rfl
  | 3, _ => rfl
  | j + 4, h => exact absurd h (by omega)
theorem frame_out {p : (Nat → Value) → Act} {a : Act} {G : Act → Prop} (h : a = p (fun i => a.tmps.getD i undef)) (H : ∀ u, G (p u)) : G a := by rw [h]; exact H _

def InsOf (ls : List (List UInt8)) (s : Ld.Sw) (root : D64) (h : Int) (w : World) (e : Ending) (w' : World) : Prop :=
  ∃ y cy os, e = .returned (.tuple #[.slice y os.length cy, .int .i64 (Ld.cdI ls s root h)]) ∧ OwnsOp w.heap.size w' y cy os ∧ os.map Ld.opP = Ld.insP ls s root h ∧ Below w.heap.size w w'
theorem InsOf.no {ls : List (List UInt8)} {s : Ld.Sw} {root : D64} {h : Int} {w w' : World} {cd : Int} (hc : Ld.cdI ls s root h = cd) (h0 : cd ≠ 0) (hb : Below w.heap.size w w') : InsOf ls s root h w (.returned (.tuple #[.slice none 0 0, .int .i64 cd])) w' :=
  ⟨none, 0, [], by rw [hc]; rfl, OwnsOp.nil _ _, by unfold Ld.insP; rw [hc, if_neg h0]; rfl, hb⟩

end Go.Proofs.YtapefonhgkjgnaaGreat
