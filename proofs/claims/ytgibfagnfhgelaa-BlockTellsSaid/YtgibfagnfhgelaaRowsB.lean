/- Slices of slices of bytes: in memory, owned by a call, grown by append. -/
import Derived.Test.YtgibfagnfhgelaaCrcSP
import Derived.Deep.DeepAppendWide
namespace Go.Proofs.Ytgibfagnfhgelaa
open Go.RowKit

/-- A slice of bytes: its place, its capacity, its bytes. -/
structure Rw where
  x : Option Addr
  c : Nat
  l : List UInt8
def rw0 : Rw := ⟨none, 0, []⟩
def encR (r : Rw) : Value := .slice r.x r.l.length r.c
def RwOk (w : World) (r : Rw) : Prop := Bts w r.x r.l ∧ (r.x = none → r.c = 0) ∧ r.l.length ≤ r.c ∧ r.c ≤ 9223372036854775807
theorem RwOk.later {w w' : World} {r : Rw} (h : RwOk w r) (hb : Below w.heap.size w w') : RwOk w' r := ⟨h.1.later hb, h.2⟩
/-- The slice that begins at x holds these slices. -/
def CellsR (w : World) (x : Option Addr) (rs : List Rw) : Prop := rs = [] ∨ ∃ b o, x = some ⟨b, o, none⟩ ∧ ∀ i, i < rs.length → w.cell? ⟨b, o + i, none⟩ = some (encR (rs.getD i rw0))
def Rws (w : World) (x : Option Addr) (rs : List Rw) : Prop := CellsR w x rs ∧ ∀ r ∈ rs, RwOk w r
theorem CellsR.later {w w' : World} {x : Option Addr} {rs : List Rw} (h : CellsR w x rs) (hb : Below w.heap.size w w') : CellsR w' x rs := by
  rcases h with h | ⟨b, o, hx, hc⟩
  · exact .inl h
  · exact .inr ⟨b, o, hx, fun i hi => Go.Proofs.Ytgibfagnfhgelaa.later hb (hc i hi)⟩
theorem Rws.later {w w' : World} {x : Option Addr} {rs : List Rw} (h : Rws w x rs) (hb : Below w.heap.size w w') : Rws w' x rs := ⟨h.1.later hb, fun r hr => (h.2 r hr).later hb⟩
theorem getD_mem {α : Type} (l : List α) (i : Nat) (d : α) (h : i < l.length) : l.getD i d ∈ l := by
  rw [List.getD_eq_getElem?_getD, List.getElem?_eq_getElem h]; exact List.getElem_mem h
theorem Rws.at {w : World} {x : Option Addr} {rs : List Rw} (h : Rws w x rs) (i : Nat) (hi : i < rs.length) : ∃ b o, x = some ⟨b, o, none⟩ ∧ w.cell? ⟨b, o + i, none⟩ = some (encR (rs.getD i rw0)) ∧ RwOk w (rs.getD i rw0) := by
  rcases h.1 with h0 | ⟨b, o, hx, hc⟩
  · subst h0; simp at hi
  · exact ⟨b, o, hx, hc i hi, h.2 _ (getD_mem _ _ _ hi)⟩

theorem infoSl : (Try.prog.info? 25).map (fun i => (i.zero, i.size, i.bytes)) = some (some (.slice none 0 0), 1, 24) := by kernel_rfl
/-- A row of slices that the call owns. -/
def OwnsR (B : Nat) (w : World) (x : Option Addr) (cap : Nat) (rs : List Rw) : Prop := w.ownsRow B 25 1 (.slice x rs.length cap) rs.length (rs.map encR)
theorem OwnsR.nil (B : Nat) (w : World) : OwnsR B w none 0 [] := World.ownsRow_nil _ _ _ _
theorem OwnsR.low {B : Nat} {w : World} {x : Option Addr} {cap : Nat} {l : List Rw} (h : OwnsR B w x cap l) : ∀ b, RowOf x b → B ≤ b ∧ b < w.heap.size := by
  intro b hb
  rcases h.2 with ⟨hv, _⟩ | ⟨g, cap', cur, hv, hlo, hg, _⟩
  · simp only [Value.slice.injEq] at hv
    rw [hv.1] at hb; cases hb
  · simp only [Value.slice.injEq] at hv
    rw [hv.1] at hb; cases hb
    exact ⟨hlo, (Array.getElem?_eq_some_iff.1 hg).1⟩
theorem OwnsR.turn {B : Nat} {w w' : World} {x : Option Addr} {cap : Nat} {l : List Rw} {T : Nat → Prop} (h : OwnsR B w x cap l) (ht : Turns T w w') (hT : ∀ b, RowOf x b → ¬ T b) : OwnsR B w' x cap l := by
  refine ⟨h.1, ?_⟩
  rcases h.2 with h0 | ⟨g, cap', cur, hv, hlo, hg, hr⟩
  · exact .inl h0
  · refine .inr ⟨g, cap', cur, hv, hlo, ?_, hr⟩
    simp only [Value.slice.injEq] at hv
    exact (ht.block g (Array.getElem?_eq_some_iff.1 hg).1 (hT g (by rw [hv.1]; rfl))).trans hg
theorem OwnsR.weaken {B B' : Nat} {w : World} {x : Option Addr} {cap : Nat} {l : List Rw} (h : OwnsR B w x cap l) (hB : B' ≤ B) : OwnsR B' w x cap l := by
  refine ⟨h.1, ?_⟩
  rcases h.2 with h | ⟨g, cap, cur, h1, h2, h3⟩
  · exact .inl h
  · exact .inr ⟨g, cap, cur, h1, Nat.le_trans hB h2, h3⟩
theorem OwnsR.cellsR {B : Nat} {w : World} {x : Option Addr} {cap : Nat} {l : List Rw} (h : OwnsR B w x cap l) : CellsR w x l := by
  rcases h.2 with ⟨hv, h0⟩ | ⟨g, cap', cur, hv, hB, hg, _, _, _, _⟩
  · exact .inl (List.eq_nil_of_length_eq_zero h0)
  · simp only [Value.slice.injEq] at hv
    refine .inr ⟨g, 0, hv.1, fun i hi => ?_⟩
    have := World.ownsRow.cells h (g := g) (by rw [hv.1]; rfl) i (encR (l.getD i rw0)) (by simp [List.getElem?_eq_getElem hi])
    have hplain : (⟨g, 0, none⟩ : Addr).add i = ⟨g, 0 + i, none⟩ := by unfold Addr.add; split <;> simp_all
    rw [hplain] at this
    exact this
theorem OwnsR.some_of {B : Nat} {w : World} {x : Option Addr} {cap : Nat} {l : List Rw} (h : OwnsR B w x cap l) (h0 : 0 < l.length) : ∃ g, x = some ⟨g, 0, none⟩ := by
  rcases h.2 with ⟨_, hv⟩ | ⟨g, cap', cur, hv, _⟩
  · omega
  · simp only [Value.slice.injEq] at hv; exact ⟨g, hv.1⟩
theorem OwnsR.le_cap {B : Nat} {w : World} {x : Option Addr} {cap : Nat} {l : List Rw} (h : OwnsR B w x cap l) : l.length ≤ cap ∧ cap ≤ 9223372036854775807 := by
  rcases h.2 with ⟨hv, h0⟩ | ⟨g, c, cur, hv, _, _, h1, h2, _⟩
  · simp only [Value.slice.injEq] at hv; omega
  · simp only [Value.slice.injEq] at hv; unfold maxLen at h2; omega
theorem OwnsR.none_cap {B : Nat} {w : World} {x : Option Addr} {cap : Nat} {l : List Rw} (h : OwnsR B w x cap l) : x = none → cap = 0 := by
  rintro rfl
  rcases h.2 with ⟨hv, _⟩ | ⟨g, c, cur, hv, _⟩
  · simp only [Value.slice.injEq] at hv; exact hv.2.2
  · simp at hv
/-- A row of slices and a row of bytes are two blocks. -/
theorem OwnsR.apart {B B' : Nat} {w : World} {x y : Option Addr} {cap c : Nat} {rs : List Rw} {l : List UInt8} (h : OwnsR B w x cap rs) (k : OwnsB B' w y c l) : ∀ b, RowOf x b → ¬ RowOf y b := by
  intro b hb hy
  rcases h.2 with ⟨hv, _⟩ | ⟨g, cap', cur, hv, _, hg, _⟩
  · simp only [Value.slice.injEq] at hv
    rw [hv.1] at hb; cases hb
  · rcases k.2 with ⟨hv2, _⟩ | ⟨g2, cap2, cur2, hv2, _, hg2, _⟩
    · simp only [Value.slice.injEq] at hv2
      rw [hv2.1] at hy; cases hy
    · simp only [Value.slice.injEq] at hv hv2
      rw [hv.1] at hb; rw [hv2.1] at hy
      cases hb; cases hy
      rw [hg] at hg2
      simp at hg2
def Apart (r s : Rw) : Prop := ∀ b, RowOf r.x b → ¬ RowOf s.x b
/-- A store that the call owns: its row and the rows of its blocks, all apart. -/
structure OwnsS (B : Nat) (w : World) (x : Option Addr) (cap : Nat) (rs : List Rw) : Prop where
  row : OwnsR B w x cap rs
  each : ∀ r, r ∈ rs → OwnsB B w r.x r.c r.l
  apart : rs.Pairwise Apart
theorem OwnsB.later {B : Nat} {w w' : World} {x : Option Addr} {cap : Nat} {l : List UInt8} (h : OwnsB B w x cap l) (hb : Below w.heap.size w w') : OwnsB B w' x cap l :=
  h.turn (Turns.of_below hb (Nat.le_refl _)) (fun _ _ h => h)
theorem OwnsB.rwOk {B : Nat} {w : World} {r : Rw} (h : OwnsB B w r.x r.c r.l) : RwOk w r := ⟨h.bts, h.none_cap, h.le_cap.1, h.le_cap.2⟩
theorem OwnsS.rws {B : Nat} {w : World} {x : Option Addr} {cap : Nat} {rs : List Rw} (h : OwnsS B w x cap rs) : Rws w x rs := ⟨h.row.cellsR, fun r hr => (h.each r hr).rwOk⟩
theorem OwnsS.weaken {B B' : Nat} {w : World} {x : Option Addr} {cap : Nat} {rs : List Rw} (h : OwnsS B w x cap rs) (hB : B' ≤ B) : OwnsS B' w x cap rs := ⟨h.row.weaken hB, fun r hr => (h.each r hr).weaken hB, h.apart⟩
theorem OwnsS.turn {B : Nat} {w w' : World} {x : Option Addr} {cap : Nat} {rs : List Rw} {T : Nat → Prop} (h : OwnsS B w x cap rs) (ht : Turns T w w') (h1 : ∀ b, RowOf x b → ¬ T b) (h2 : ∀ r, r ∈ rs → ∀ b, RowOf r.x b → ¬ T b) : OwnsS B w' x cap rs :=
  ⟨h.row.turn ht h1, fun r hr => (h.each r hr).turn ht (h2 r hr), h.apart⟩
theorem OwnsS.turnB {B : Nat} {w w' : World} {x : Option Addr} {cap : Nat} {rs : List Rw} {T : Nat → Prop} (h : OwnsS B w x cap rs) (ht : Turns T w w') (hT : ∀ b, B ≤ b → b < w.heap.size → ¬ T b) : OwnsS B w' x cap rs :=
  h.turn ht (fun b hb => hT b (h.row.low b hb).1 (h.row.low b hb).2) (fun r hr b hb => hT b ((h.each r hr).low b hb).1 ((h.each r hr).low b hb).2)
theorem OwnsS.later {B : Nat} {w w' : World} {x : Option Addr} {cap : Nat} {rs : List Rw} (h : OwnsS B w x cap rs) (hb : Below w.heap.size w w') : OwnsS B w' x cap rs :=
  h.turnB (Turns.of_below hb (Nat.le_refl _)) (fun _ _ _ h => h)
theorem OwnsS.nil (B : Nat) (w : World) : OwnsS B w none 0 [] := ⟨OwnsR.nil B w, fun r hr => by simp at hr, List.Pairwise.nil⟩
theorem OwnsS.app {B : Nat} {w w' : World} {xa x' : Option Addr} {cap cap' : Nat} {rs : List Rw} {u : Rw} (h : OwnsS B w xa cap rs) (h1 : OwnsR B w' x' cap' (rs ++ [u])) (ht : Turns (RowOf xa) w w') (hu : OwnsB B w u.x u.c u.l) (hd : ∀ r, r ∈ rs → Apart r u) : OwnsS B w' x' cap' (rs ++ [u]) := by
  refine ⟨h1, fun r hr => ?_, ?_⟩
  · rcases List.mem_append.1 hr with hr | hr
    · exact (h.each r hr).turn ht (fun b hb hx => h.row.apart (h.each r hr) b hx hb)
    · obtain rfl : r = u := by simpa using hr
      exact hu.turn ht (fun b hb hx => h.row.apart hu b hx hb)
  · rw [List.pairwise_append]
    exact ⟨h.apart, List.pairwise_singleton _ _, fun r hr s hs => by obtain rfl : s = u := by simpa using hs
                                                                     exact hd r hr⟩

section
variable {w : World} {o : Oper} {a : Act} {Q : Exit → Act → World → Prop}
theorem wp_appR {K : Act → World → Prop} (s x : Operand) (ho : o.op = .call { callee := .builtin .append, args := #[s, x], argTypes := #[22, 22] })
    {B : Nat} {xa : Option Addr} {cap : Nat} {rs : List Rw} (hown : OwnsR B w xa cap rs) (hs : a.eval s = .slice xa rs.length cap)
    {ad : Addr} {u : Rw} {c : Nat} (hx : a.eval x = .slice (some ad) 1 c) (hy : w.cell? (ad.add 0) = some (encR u)) (hl : rs.length ≤ 100000) (hB : B ≤ w.heap.size)
    (h : ∀ x' cap' w', OwnsR B w' x' cap' (rs ++ [u]) → Below B w w' → Turns (RowOf xa) w w' → K (a.put o.dst (.slice x' (rs ++ [u]).length cap')) w') : o.wp Try.prog a w K Q := by
  obtain ⟨i0, hi, hz0, hz1, hz2⟩ := info_parts infoSl
  refine wp_append_own_wide w s x 22 ho B 25 i0 (.slice none 0 0) 1 24 Try.underlying22 hi hz0 hz1 hz2 rfl (by decide) _ rs.length (rs.map encR) hs hown ad 1 c [encR u] hx (by simp) (fun j v hj => by
    match j, hj with
    | 0, hj => simp at hj; subst hj; exact hy
    | j + 1, hj => simp at hj) (by intro v hv; simp at hv; subst hv; rfl) (by unfold maxLen; omega) (by omega) hB (fun v' w' h1 h2 _ => ?_)
  obtain ⟨x', cap', rfl⟩ := owns_form h1
  have hlen : rs.length + 1 = (rs ++ [u]).length := by simp
  have hmp : rs.map encR ++ [encR u] = (rs ++ [u]).map encR := by simp
  rw [hlen, hmp] at h1
  rw [hlen]
  refine h x' cap' w' h1 ((Below.refl _ w).grown h2 hB (fun k e => ?_)) (Turns.of_grownBy h2 (fun b e => ?_))
  · exact (OwnsR.low hown k (by unfold RowOf; cases xa <;> exact e)).1
  · unfold RowOf; cases xa <;> exact e
end

end Go.Proofs.Ytgibfagnfhgelaa
