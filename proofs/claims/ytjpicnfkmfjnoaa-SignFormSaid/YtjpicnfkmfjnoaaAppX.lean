/- append of one word to a row of the call's own: the row stays where it is or is a new block. -/
import Derived.Test.YtjpicnfkmfjnoaaWords64
namespace Go.Proofs.Ytjpicnfkmfjnoaa
open Go.RowKit

/-- The block of a row, as a list. -/
def rowS : Option Addr → List Nat
  | some a => [a.block]
  | none => []
theorem rowS_of {x : Option Addr} {b : Nat} (h : b ∈ rowS x) : RowOf x b := by
  cases x with
  | none => simp [rowS] at h
  | some a => simp [rowS] at h; subst h; rfl

section
variable {P : Program} (w : World)
theorem owns_grown (B : Nat) (e : TypeId) (xs news : List Value) (n m old : Nat) (z : Value) (hz : z.cells.size = 1) (hx : xs.length = n) (hn : news.length = m) (hB : B ≤ w.heap.size) (hm : n + m ≤ maxLen) :
    (w.drew.alloc (.cells (xs.toArray ++ news.toArray ++ Builtin.zeroCells z.cells (grownCap w (n + m) old e - (n + m))) e)).ownsRow B e 1 (.slice (some ⟨w.heap.size, 0, none⟩) (n + m) (grownCap w (n + m) old e)) (n + m) (xs ++ news) := by
  have hge := grownCap_ge w (n + m) old e
  have hcm := grownCap_le_maxLen w (n + m) old e hm
  refine ⟨by simp [hx, hn], .inr ⟨w.heap.size, _, _, rfl, hB, heap_alloc_new w.drew _, hge, hcm, ?_, ?_⟩⟩
  · simp only [Array.size_append, List.size_toArray, size_zeroCells, hz, hx, hn]
    omega
  · simp only [Array.toList_append, List.append_assoc, Nat.mul_one]
    rw [← List.append_assoc, ← show (xs ++ news).length = n + m by simp [hx, hn]]
    exact List.take_left
end

section
variable {w : World} {o : Oper} {a : Act} {Q : Exit → Act → World → Prop}
theorem wp_appWX {K : Act → World → Prop} (s x : Operand) (ho : o.op = .call { callee := .builtin .append, args := #[s, x], argTypes := #[32, 32] })
    {B : Nat} {xa : Option Addr} {cap : Nat} {l : List D64} (hown : OwnsW B w xa cap l) (hs : a.eval s = .slice xa l.length cap)
    {ad : Addr} {u : D64} {c : Nat} (hx : a.eval x = .slice (some ad) 1 c) (hy : w.cell? (ad.add 0) = some (.int .u64 (num u))) (hl : l.length ≤ 100000) (hB : B ≤ w.heap.size)
    (h : ∀ x' cap' w', OwnsW B w' x' cap' (l ++ [u]) → Below B w w' → Turns (RowOf xa) w w' → (∀ b, RowOf x' b → RowOf xa b ∨ w.heap.size ≤ b) → K (a.put o.dst (.slice x' (l ++ [u]).length cap')) w') : o.wp Try.prog a w K Q := by
  obtain ⟨i0, hi, hz0, hz1, hz2⟩ := info_parts infoWord
  have hnews : ∀ j v, ([encW u] : List Value)[j]? = some v → w.cell? (ad.add j) = some v := fun j v hj => by
    match j, hj with
    | 0, hj => simp at hj; subst hj; exact hy
    | j + 1, hj => simp at hj
  have hmax : l.length + 1 ≤ maxLen := by unfold maxLen; omega
  have hlen : (l ++ [u]).length = l.length + 1 := by simp
  have grown : ∀ old, OwnsW B (w.drew.alloc (.cells ((l.map encW).toArray ++ [encW u].toArray ++ Builtin.zeroCells (Value.int .u64 0).cells (grownCap w (l.length + 1) old 22 - (l.length + 1))) 22)) (some ⟨w.heap.size, 0, none⟩) (grownCap w (l.length + 1) old 22) (l ++ [u]) := fun old => by
    have := owns_grown w B 22 (l.map encW) [encW u] l.length 1 old (.int .u64 0) rfl (by simp) rfl hB hmax
    unfold OwnsW
    rw [hlen, List.map_append]
    exact this
  have hbel : ∀ ob : Obj, Below B w (w.drew.alloc ob) := fun ob => ((Below.refl _ w).drew).alloc hB ob
  have htur : ∀ (T : Nat → Prop) (ob : Obj), Turns T w (w.drew.alloc ob) := fun T ob => ((Turns.refl T w).drew).alloc ob
  have hnew : ∀ b, RowOf (some ⟨w.heap.size, 0, none⟩) b → RowOf xa b ∨ w.heap.size ≤ b := fun b hb => by cases hb; exact .inr (Nat.le_refl _)
  rcases hown.2 with ⟨hv, h0⟩ | ⟨g, cap', cur, hv, hlo, hg, hnc, hcm, hcs, htk⟩
  · simp only [Value.slice.injEq] at hv
    obtain ⟨rfl, hl0, rfl⟩ := hv
    have hl : l = [] := List.eq_nil_of_length_eq_zero hl0
    subst hl
    have hrun := run_append_nil (P := Try.prog) w 32 o.type 22 i0 (.int .u64 0) Try.underlying32 hi hz0 ad 1 c [encW u] (by simp [hz1]) hnews (by omega) (by omega) (by rw [hz2]; omega)
    have hk := h _ _ _ (grown 0) (hbel _) (htur _ _) hnew
    simp only [List.map_nil, List.length_nil, Nat.zero_add, List.nil_append, Array.empty_append, List.length_cons] at hk hs
    unfold Oper.wp
    simp [execOp, ho, resolve, invoke, builtin, hs, hx, hrun, Result.andThen]
    first | exact hk | (simp at hk; exact hk)
  · simp only [Value.slice.injEq] at hv
    obtain ⟨rfl, _, rfl⟩ := hv
    by_cases hroom : l.length + 1 ≤ cap
    · have hrun := run_append_room (P := Try.prog) w 32 o.type 22 i0 Try.underlying32 hi g l.length cap cur hg ad 1 c [encW u] (by simp [hz1]) hnews (by intro v hv; simp at hv; subst hv; rfl) hroom (by rw [hz1]; simp; omega)
      have ho2 : OwnsW B (w.setRow g (cur.toList.take (l.length * i0.size) ++ [encW u] ++ cur.toList.drop (l.length * i0.size + [encW u].length)).toArray) (some ⟨g, 0, none⟩) cap (l ++ [u]) := by
        refine ⟨by simp, .inr ⟨g, cap, _, by rw [hlen], hlo, setRow_heap w g cur _ _ _ hg, by rw [hlen]; exact hroom, hcm, ?_, ?_⟩⟩
        · simp [hz1]; omega
        · rw [hz1, Nat.mul_one, hlen, Nat.mul_one, List.map_append]
          have e : List.take l.length cur.toList = l.map encW := by simpa using htk
          rw [e]
          have e2 : (List.map encW l ++ [encW u]).length = l.length + 1 := by simp
          show List.take (l.length + 1) (List.map encW l ++ [encW u] ++ _) = List.map encW l ++ [encW u]
          rw [← e2]
          exact List.take_left
      have hsr : Turns (RowOf (some ⟨g, 0, none⟩)) w (w.setRow g (cur.toList.take (l.length * i0.size) ++ [encW u] ++ cur.toList.drop (l.length * i0.size + [encW u].length)).toArray) := ⟨rfl, rfl, rfl, by simp, fun k _ hk => setRow_other w g k _ (fun e => hk (by subst e; rfl))⟩
      have hk := h _ _ _ ho2 (hsr.below hB (fun i hi hr => by have e : g = i := Option.some.inj hr; omega)) hsr (fun b hb => .inl hb)
      rw [hlen] at hk
      unfold Oper.wp
      simp [execOp, ho, resolve, invoke, builtin, hs, hx, hrun, Result.andThen]
      first | exact hk | (simp at hk; exact hk)
    · have hrun := run_append_grow (P := Try.prog) w 32 o.type 22 i0 (.int .u64 0) Try.underlying32 hi hz0 ⟨g, 0, none⟩ l.length cap (l.map encW) (by simp [hz1]) (fun j v hj => World.ownsRow.cells hown (g := g) rfl j v hj) ad 1 c [encW u] (by simp [hz1]) hnews (by omega) (by omega) (by rw [hz2]; exact growslice_fits (by omega) (by omega))
      have hk := h _ _ _ (grown cap) (hbel _) (htur _ _) hnew
      rw [hlen] at hk
      unfold Oper.wp
      simp [execOp, ho, resolve, invoke, builtin, hs, hx, hrun, Result.andThen]
      first | exact hk | (simp at hk; exact hk)
theorem wpList_appWX {ops : Array Oper} {rest : List Oper} (hg : o.guard = none) (s x : Operand) (ho : o.op = .call { callee := .builtin .append, args := #[s, x], argTypes := #[32, 32] })
    {B : Nat} {xa : Option Addr} {cap : Nat} {l : List D64} (hown : OwnsW B w xa cap l) (hs : a.eval s = .slice xa l.length cap)
    {ad : Addr} {u : D64} {c : Nat} (hx : a.eval x = .slice (some ad) 1 c) (hy : w.cell? (ad.add 0) = some (.int .u64 (num u))) (hl : l.length ≤ 100000) {lm : List D64} (hlm : l ++ [u] = lm) (hB : B ≤ w.heap.size)
    (h : ∀ x' cap' w', OwnsW B w' x' cap' lm → Below B w w' → Turns (RowOf xa) w w' → (∀ b, RowOf x' b → RowOf xa b ∨ w.heap.size ≤ b) → wpList Try.prog ops Q rest (a.put o.dst (.slice x' lm.length cap')) w') : wpList Try.prog ops Q (o :: rest) a w := by
  subst hlm
  exact wpList_plain hg fun _ hK => wp_appWX s x ho hown hs hx hy hl hB fun x' cap' w' h1 h2 h3 h4 => hK _ _ (h x' cap' w' h1 h2 h3 h4)
end

end Go.Proofs.Ytjpicnfkmfjnoaa
