/- Slices of 64-bit words: in memory, owned by a call, grown by append. -/
import Derived.Test.YtjpicnfkmfjnoaaFill
import Derived.Test.YtjpicnfkmfjnoaaWords
namespace Go.Proofs.Ytjpicnfkmfjnoaa
open Go.RowKit

def encW (b : D64) : Value := .int .u64 (num b)
/-- The slice that begins at x holds these bytes. -/
def Wts (w : World) (x : Option Addr) (l : List D64) : Prop :=
  l = [] ∨ ∃ b o, x = some ⟨b, o, none⟩ ∧ ∀ i, i < l.length → w.cell? ⟨b, o + i, none⟩ = some (encW (l.getD i 0#64))
theorem Wts.later {w w' : World} {x : Option Addr} {l : List D64} (h : Wts w x l) (hb : Below w.heap.size w w') : Wts w' x l := by
  rcases h with h | ⟨b, o, hx, hc⟩
  · exact .inl h
  · exact .inr ⟨b, o, hx, fun i hi => Go.Proofs.Ytjpicnfkmfjnoaa.later hb (hc i hi)⟩
theorem Wts.nil (w : World) (x : Option Addr) : Wts w x [] := .inl rfl
theorem encW_oneCell (b : D64) : (encW b).oneCell' = true := rfl
theorem infoWord : (Try.prog.info? 22).map (fun i => (i.zero, i.size, i.bytes)) = some (some (.int .u64 0), 1, 8) := by kernel_rfl
/-- What is left of a call that hands back a slice of its own: these bytes, from block B on, nothing that was there turned. -/
def OwnsW (B : Nat) (w : World) (x : Option Addr) (cap : Nat) (l : List D64) : Prop := w.ownsRow B 22 1 (.slice x l.length cap) l.length (l.map encW)
theorem Wts.of_owns {B : Nat} {w : World} {x : Option Addr} {cap : Nat} {l : List D64} (h : OwnsW B w x cap l) : Wts w x l := by
  rcases h.2 with ⟨hv, h0⟩ | ⟨g, cap', cur, hv, hB, hg, _, _, _, _⟩
  · exact .inl (List.eq_nil_of_length_eq_zero h0)
  · simp only [Value.slice.injEq] at hv
    refine .inr ⟨g, 0, hv.1, fun i hi => ?_⟩
    have := World.ownsRow.cells h (g := g) (by rw [hv.1]; rfl) i (encW (l.getD i 0#64)) (by simp [List.getElem?_eq_getElem hi])
    have hplain : (⟨g, 0, none⟩ : Addr).add i = ⟨g, 0 + i, none⟩ := by unfold Addr.add; split <;> simp_all
    rw [hplain] at this
    exact this
theorem OwnsW.wts {B : Nat} {w : World} {x : Option Addr} {cap : Nat} {l : List D64} (h : OwnsW B w x cap l) : Wts w x l := Wts.of_owns h
theorem news_of_wts {w : World} {a : Addr} {l : List D64} (h : Wts w (some a) l) : ∀ j u, (l.map encW)[j]? = some u → w.cell? (a.add j) = some u := by
  intro j u hj
  rcases h with h | ⟨b, o, hx, hc⟩
  · subst h; simp at hj
  · cases hx
    have hjl : j < l.length := by
      rcases Nat.lt_or_ge j l.length with h | h
      · exact h
      · simp [List.getElem?_eq_none h] at hj
    have hplain : (⟨b, o, none⟩ : Addr).add j = ⟨b, o + j, none⟩ := by unfold Addr.add; split <;> simp_all
    rw [hplain, hc j hjl]
    simp [List.getElem?_eq_getElem hjl] at hj
    simp [List.getElem?_eq_getElem hjl, hj]
theorem OwnsW.nil (B : Nat) (w : World) : OwnsW B w none 0 [] := World.ownsRow_nil _ _ _ _
theorem oneEncW (l : List D64) : ∀ u ∈ l.map encW, u.oneCell' = true := by
  intro u hu; simp at hu; obtain ⟨b, _, rfl⟩ := hu; rfl
theorem OwnsW.low {B : Nat} {w : World} {x : Option Addr} {cap : Nat} {l : List D64} (h : OwnsW B w x cap l) : ∀ b, RowOf x b → B ≤ b ∧ b < w.heap.size := by
  intro b hb
  rcases h.2 with ⟨hv, _⟩ | ⟨g, cap', cur, hv, hlo, hg, _⟩
  · simp only [Value.slice.injEq] at hv
    rw [hv.1] at hb; cases hb
  · simp only [Value.slice.injEq] at hv
    rw [hv.1] at hb; cases hb
    exact ⟨hlo, (Array.getElem?_eq_some_iff.1 hg).1⟩
theorem OwnsW.turn {B : Nat} {w w' : World} {x : Option Addr} {cap : Nat} {l : List D64} {T : Nat → Prop} (h : OwnsW B w x cap l) (ht : Turns T w w') (hT : ∀ b, RowOf x b → ¬ T b) : OwnsW B w' x cap l := by
  refine ⟨h.1, ?_⟩
  rcases h.2 with h0 | ⟨g, cap', cur, hv, hlo, hg, hr⟩
  · exact .inl h0
  · refine .inr ⟨g, cap', cur, hv, hlo, ?_, hr⟩
    simp only [Value.slice.injEq] at hv
    exact (ht.block g (Array.getElem?_eq_some_iff.1 hg).1 (hT g (by rw [hv.1]; rfl))).trans hg
theorem Wts.turn {w w' : World} {x : Option Addr} {l : List D64} {T : Nat → Prop} (h : Wts w x l) (ht : Turns T w w') (hT : ∀ a, x = some a → ¬ T a.block) : Wts w' x l := by
  rcases h with h | ⟨b, o, hx, hc⟩
  · exact .inl h
  · exact .inr ⟨b, o, hx, fun i hi => ht.cell (show ¬ T b from hT ⟨b, o, none⟩ hx) (hc i hi)⟩
theorem OwnsW.weaken {B B' : Nat} {w : World} {x : Option Addr} {cap : Nat} {l : List D64} (h : OwnsW B w x cap l) (hB : B' ≤ B) : OwnsW B' w x cap l := by
  refine ⟨h.1, ?_⟩
  rcases h.2 with h | ⟨g, cap, cur, h1, h2, h3⟩
  · exact .inl h
  · exact .inr ⟨g, cap, cur, h1, Nat.le_trans hB h2, h3⟩
theorem OwnsW.some_of {B : Nat} {w : World} {x : Option Addr} {cap : Nat} {l : List D64} (h : OwnsW B w x cap l) (h0 : 0 < l.length) : ∃ g, x = some ⟨g, 0, none⟩ := by
  rcases h.2 with ⟨_, hv⟩ | ⟨g, cap', cur, hv, _⟩
  · omega
  · simp only [Value.slice.injEq] at hv; exact ⟨g, hv.1⟩
theorem OwnsW.cell {B : Nat} {w : World} {g cap : Nat} {l : List D64} (h : OwnsW B w (some ⟨g, 0, none⟩) cap l) (i : Nat) (hi : i < l.length) : w.cell? ⟨g, i, none⟩ = some (.int .u64 (num (l.getD i 0#64))) := by
  rw [World.ownsRow.cellAt h i (by omega)]
  simp [List.getElem?_eq_getElem hi, encW]
theorem OwnsW.free {B : Nat} {w : World} {g cap : Nat} {l : List D64} (h : OwnsW B w (some ⟨g, 0, none⟩) cap l) (i : Nat) : w.frozen? ⟨g, i, none⟩ = false := World.ownsRow.frozenAt h i
theorem OwnsW.set {B : Nat} {w : World} {g cap : Nat} {l : List D64} (h : OwnsW B w (some ⟨g, 0, none⟩) cap l) (i : Nat) (v : D64) : OwnsW B (w.setCell ⟨g, i, none⟩ (.int .u64 (num v))) (some ⟨g, 0, none⟩) cap (l.set i v) := by
  have := (World.ownsRow.stored h i (.int .u64 (num v))).1
  have e : (l.map encW).set i (.int .u64 (num v)) = (l.set i v).map encW := by rw [List.map_set]; rfl
  rw [e] at this
  unfold OwnsW
  rw [List.length_set]
  exact this
/-- The bytes of a block just made. -/
theorem wts_new (w : World) (l : List D64) (t : TypeId) (p : Nat × Nat) : Wts (w.alloc (.cells (l.map encW).toArray t p)) (some ⟨w.heap.size, 0, none⟩) l := by
  refine .inr ⟨_, _, rfl, fun i hi => ?_⟩
  have h : (w.alloc (.cells (l.map encW).toArray t p)).heap[w.heap.size]? = some (.cells (l.map encW).toArray t p) := by
    show (w.heap.push _)[w.heap.size]? = _
    simp
  unfold World.cell?
  simp only [h]
  simp [List.getElem?_eq_getElem hi]
theorem wts_one (w : World) (v : D64) (t : TypeId) (p : Nat × Nat) : Wts (w.alloc (.cells #[.int .u64 (num v)] t p)) (some ⟨w.heap.size, 0, none⟩) [v] := wts_new w [v] t p
section
variable {w : World} {o : Oper} {a : Act} {Q : Exit → Act → World → Prop}
theorem wp_appW {K : Act → World → Prop} (s x : Operand) (ho : o.op = .call { callee := .builtin .append, args := #[s, x], argTypes := #[32, 32] })
    {B : Nat} {xa : Option Addr} {cap : Nat} {l : List D64} (hown : OwnsW B w xa cap l) (hs : a.eval s = .slice xa l.length cap)
    {y : Option Addr} {m : List D64} {c : Nat} (hx : a.eval x = .slice y m.length c) (hy : Wts w y m) (hyn : y = none → c = 0) (hl : l.length + m.length ≤ 10000000) {lm : List D64} (hlm : l ++ m = lm) (hB : B ≤ w.heap.size)
    (h : ∀ x' cap' w', OwnsW B w' x' cap' lm → Below B w w' → Turns (RowOf xa) w w' → K (a.put o.dst (.slice x' lm.length cap')) w') : o.wp Try.prog a w K Q := by
  subst hlm
  obtain ⟨i0, hi, hz0, hz1, hz2⟩ := info_parts infoWord
  cases y with
  | none =>
    obtain rfl := hyn rfl
    have hm : m = [] := by
      rcases hy with h | ⟨b, o, hx, _⟩
      · exact h
      · cases hx
    subst hm
    have hrun := run_append_owned_none (P := Try.prog) (w := w) B 32 o.type 22 i0 1 Try.underlying32 hi _ _ _ hown
    have hk := h xa cap w (by rw [List.append_nil]; exact hown) (Below.refl _ _) (Turns.refl _ _)
    rw [List.append_nil] at hk
    simp only [List.length_nil] at hx
    unfold Oper.wp
    simp [execOp, ho, resolve, invoke, builtin, hs, hx, hrun, Result.andThen]
    exact hk
  | some ad =>
    refine wp_append_own w s x 32 ho B 22 i0 (.int .u64 0) 1 8 Try.underlying32 hi hz0 hz1 hz2 rfl (by decide) _ _ _ hs hown ad m.length c (m.map encW) hx (by simp) (news_of_wts hy) (oneEncW m) (by unfold maxLen; omega) (by omega) hB (fun v' w' h1 h2 _ => ?_)
    obtain ⟨x', cap', rfl⟩ := owns_form h1
    have hlen : l.length + m.length = (l ++ m).length := by simp
    rw [hlen, ← List.map_append] at h1
    rw [hlen]
    refine h x' cap' w' h1 ((Below.refl _ _).grown h2 hB (fun k e => ?_)) (Turns.of_grownBy h2 (fun b e => ?_))
    · exact (OwnsW.low hown k (by unfold RowOf; cases xa <;> exact e)).1
    · unfold RowOf; cases xa <;> exact e
theorem wpList_appW {ops : Array Oper} {rest : List Oper} (hg : o.guard = none) (s x : Operand) (ho : o.op = .call { callee := .builtin .append, args := #[s, x], argTypes := #[32, 32] })
    {B : Nat} {xa : Option Addr} {cap : Nat} {l : List D64} (hown : OwnsW B w xa cap l) (hs : a.eval s = .slice xa l.length cap)
    {y : Option Addr} {m : List D64} {c : Nat} (hx : a.eval x = .slice y m.length c) (hy : Wts w y m) (hyn : y = none → c = 0) (hl : l.length + m.length ≤ 10000000) {lm : List D64} (hlm : l ++ m = lm) (hB : B ≤ w.heap.size)
    (h : ∀ x' cap' w', OwnsW B w' x' cap' lm → Below B w w' → Turns (RowOf xa) w w' → wpList Try.prog ops Q rest (a.put o.dst (.slice x' lm.length cap')) w') : wpList Try.prog ops Q (o :: rest) a w :=
  wpList_plain hg fun _ hK => wp_appW s x ho hown hs hx hy hyn hl hlm hB fun x' cap' w' h1 h2 h3 => hK _ _ (h x' cap' w' h1 h2 h3)
end
/-- A row just made whole. -/
theorem OwnsW.whole (B g : Nat) (w : World) (l : List D64) (C : Array Value) (hC : C = (l.map encW).toArray) (hB : B ≤ w.heap.size) (hg : w.heap.size = g) (hl : l.length ≤ 10000000) : OwnsW B (w.alloc (.cells C 22)) (some ⟨g, 0, none⟩) l.length l := by
  subst hg hC
  have hm : l.length ≤ maxLen := by unfold maxLen; omega
  exact ⟨by simp, .inr ⟨w.heap.size, l.length, (l.map encW).toArray, rfl, hB, heap_alloc_new w _, Nat.le_refl _, hm, by simp, by simp [List.take_of_length_le]⟩⟩
def zeroW (n : Nat) : Array Value := ((List.replicate n (0#64 : D64)).map encW).toArray
theorem made_zeroW (n : Nat) : madeCells (Value.cells (.int .u64 0)) n = zeroW n := by
  unfold zeroW
  apply Array.ext
  · rw [size_madeCells]; simp
  · intro i h1 h2
    simp [madeCells, Value.cells, encW, Nat.mod_one]
    rfl
/-- make([]byte, n) -/
theorem run_zerosW (n : Nat) (h : n ≤ 10000000) (w : World) : (Instr.makeSlice 32 (.int .i64 (n : Int)) (.int .i64 (n : Int))).run Try.prog w = .ok (.slice (some ⟨w.heap.size, 0, none⟩) n n) (w.alloc (.cells (zeroW n) 22)) := by
  obtain ⟨i0, hi, hz0, hz1, hz2⟩ := info_parts infoWord
  have := run_makeSlice (P := Try.prog) w 32 22 i0 (.int .u64 0) Try.underlying32 hi hz0 .i64 .i64 (n : Int) (n : Int) (by omega) (Int.le_refl _) (by rw [hz1]; simp; omega) (by rw [hz2]; omega) (by omega)
  rw [this, hz1]
  simp only [Int.toNat_natCast, Nat.mul_one, made_zeroW]
theorem OwnsW.zeros (B g n : Nat) (w : World) (hB : B ≤ w.heap.size) (hg : w.heap.size = g) (hl : n ≤ 10000000) : OwnsW B (w.alloc (.cells (zeroW n) 22)) (some ⟨g, 0, none⟩) n (List.replicate n 0#64) := by
  have := OwnsW.whole B g w (List.replicate n 0#64) (zeroW n) rfl hB hg (by simpa using hl)
  simpa using this
theorem OwnsW.later {B : Nat} {w w' : World} {x : Option Addr} {cap : Nat} {l : List D64} (h : OwnsW B w x cap l) (hb : Below w.heap.size w w') : OwnsW B w' x cap l :=
  h.turn (Turns.of_below hb (Nat.le_refl _)) (fun _ _ h => h)
theorem OwnsW.none_cap {B : Nat} {w : World} {x : Option Addr} {cap : Nat} {l : List D64} (h : OwnsW B w x cap l) : x = none → cap = 0 := by
  rintro rfl
  rcases h.2 with ⟨hv, _⟩ | ⟨g, cap', cur, hv, _⟩
  · simp only [Value.slice.injEq] at hv; exact hv.2.2
  · simp only [Value.slice.injEq] at hv; cases hv.1

end Go.Proofs.Ytjpicnfkmfjnoaa
