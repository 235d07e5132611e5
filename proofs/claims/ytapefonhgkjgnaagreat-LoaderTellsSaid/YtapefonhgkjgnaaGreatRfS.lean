/- The part of a slice of bytes, as one operation. -/
import Derived.Test.YtapefonhgkjgnaaGreatLdT
import Derived.Test.YtapefonhgkjgnaaGreatLdH
import Derived.Laws.Tables
namespace Go.Proofs.YtapefonhgkjgnaaGreat
open Go.RowKit

/-- Where a part of a slice begins. -/
def subA (x : Option Addr) (c lo : Nat) : Option Addr := if c = lo then x else x.map (·.add (lo * 1))
theorem Bts.sub {w : World} {x : Option Addr} {l : List UInt8} (h : Bts w x l) {c : Nat} (hc : l.length ≤ c) (lo : Nat) : Bts w (subA x c lo) (l.drop lo) := by
  unfold subA
  split
  · next e => subst e; rw [List.drop_eq_nil_of_le hc]; exact .inl rfl
  · cases x with
    | none =>
      rcases h with h | ⟨b, o, hx, _⟩
      · subst h; exact .inl (by simp)
      · cases hx
    | some a =>
      have := h.dropA lo
      simpa using this
theorem subA_none {x : Option Addr} {c lo : Nat} (h : subA x c lo = none) : x = none := by
  unfold subA at h
  split at h
  · exact h
  · simpa using h
theorem subA_blk {x : Option Addr} {c lo : Nat} {p : Addr} (h : subA x c lo = some p) : ∃ q, x = some q ∧ q.block = p.block := by
  unfold subA at h
  split at h
  · exact ⟨p, h, rfl⟩
  · cases x with
    | none => simp at h
    | some a =>
      simp only [Option.map_some, Option.some.injEq] at h
      subst h
      exact ⟨a, rfl, by unfold Addr.add; split <;> rfl⟩
theorem sl_elem : Tryz.prog.underlying 22 = some (.slice (Tryz.prog.elem 22)) := by kernel_rfl
theorem sl_size (w : World) : (sizeOf (Tryz.prog.elem 22)).run Tryz.prog w = .ok 1 w := by kernel_rfl
theorem run_subLH (x : Option Addr) (n c lo k : Nat) {l h : Int} (hl : l = (lo : Int)) (hh : h = ((lo + k : Nat) : Int)) (hc : lo + k ≤ c) (w : World) :
    (Instr.sliceAt 22 (.slice x n c) (some (.int .i64 l)) (some (.int .i64 h)) none).run Tryz.prog w = .ok (.slice (subA x c lo) k (c - lo)) w := by
  subst hl hh
  rw [run_sliceAt_slice _ _ _ _ _ _ sl_elem, run_slice_lh _ _ _ _ _ sl_elem _ _ _ _ (by omega) (by omega) (by omega), sl_size]
  unfold subA
  simp [sliced, Result.andThen]
  omega
theorem run_subL (x : Option Addr) (n c lo k : Nat) {l : Int} (hl : l = (lo : Int)) (hn : n = lo + k) (w : World) :
    (Instr.sliceAt 22 (.slice x n c) (some (.int .i64 l)) none none).run Tryz.prog w = .ok (.slice (subA x c lo) k (c - lo)) w := by
  subst hl hn
  rw [run_sliceAt_slice _ _ _ _ _ _ sl_elem, run_slice_l _ _ _ _ _ sl_elem _ _ (by omega) (by omega), sl_size]
  unfold subA
  simp [sliced, Result.andThen]
theorem run_subH (x : Option Addr) (n c k : Nat) {h : Int} (hh : h = (k : Int)) (hc : k ≤ c) (w : World) :
    (Instr.sliceAt 22 (.slice x n c) none (some (.int .i64 h)) none).run Tryz.prog w = .ok (.slice x k c) w := by
  subst hh
  rw [run_sliceAt_slice _ _ _ _ _ _ sl_elem, run_slice_h _ _ _ _ _ sl_elem _ _ (by omega) (by omega), sl_size]
  cases x <;> simp [sliced, Result.andThen, Addr.add]

section
variable {ops : Array Oper} {rest : List Oper} {o : Oper} {a : Act} {w : World} {C : World → Prop} {Q : Act → Prop} {R : Exit → Act → World → Prop}
theorem wpQuiet_subLH (hw : Region.wanted o (yielded ops a.tmps) = true) (s p q : Operand) (ho : o.op = .slice 22 s (some p) (some q) none) {x : Option Addr} {n c : Nat} (hs : a.eval s = .slice x n c) (lo k : Nat) {l h : Int} (hp : a.eval p = .int .i64 l) (hq : a.eval q = .int .i64 h)
    (hl : l = (lo : Int)) (hh : h = ((lo + k : Nat) : Int)) (hc : lo + k ≤ c) (hk : wpQuiet Tryz.prog ops C Q rest (a.put o.dst (.slice (subA x c lo) k (c - lo)))) : wpQuiet Tryz.prog ops C Q (o :: rest) a :=
  wpQuiet_run hw (fun w' _ => by simp [execOp, ho, hs, hp, hq, run_subLH x n c lo k hl hh hc, Result.andThen]) hk
theorem wpQuiet_subL (hw : Region.wanted o (yielded ops a.tmps) = true) (s p : Operand) (ho : o.op = .slice 22 s (some p) none none) {x : Option Addr} {n c : Nat} (hs : a.eval s = .slice x n c) (lo k : Nat) {l : Int} (hp : a.eval p = .int .i64 l)
    (hl : l = (lo : Int)) (hn : n = lo + k) (hk : wpQuiet Tryz.prog ops C Q rest (a.put o.dst (.slice (subA x c lo) k (c - lo)))) : wpQuiet Tryz.prog ops C Q (o :: rest) a :=
  wpQuiet_run hw (fun w' _ => by simp [execOp, ho, hs, hp, run_subL x n c lo k hl hn, Result.andThen]) hk
theorem wpQuiet_subH (hw : Region.wanted o (yielded ops a.tmps) = true) (s q : Operand) (ho : o.op = .slice 22 s none (some q) none) {x : Option Addr} {n c : Nat} (hs : a.eval s = .slice x n c) (k : Nat) {h : Int} (hq : a.eval q = .int .i64 h)
    (hh : h = (k : Int)) (hc : k ≤ c) (hk : wpQuiet Tryz.prog ops C Q rest (a.put o.dst (.slice x k c))) : wpQuiet Tryz.prog ops C Q (o :: rest) a :=
  wpQuiet_run hw (fun w' _ => by simp [execOp, ho, hs, hq, run_subH x n c k hh hc, Result.andThen]) hk
end
/-- Software that is built of its parts. -/
theorem built_soft (s : Ld.Sw) (a : SwA) : Program.built Tryz.prog 29 [(0, .string ⟨s.name.toArray⟩), (1, .int .i64 s.ver), (2, .slice a.xi s.img.length a.ci), (3, aggN 20 (sigV s.key s.ch a.xp s.path.length a.cp))] = some (((List.range 23).map (softV s a)).toArray) := by kernel_rfl
theorem wpQuiet_build4 {ops : Array Oper} {rest : List Oper} {o : Oper} {a : Act} {C : World → Prop} {Q : Act → Prop} (hw : Region.wanted o (yielded ops a.tmps) = true) (t : TypeId) {i0 i1 i2 i3 : Nat} (x0 x1 x2 x3 : Operand) (ho : o.op = .build t #[(i0, x0), (i1, x1), (i2, x2), (i3, x3)]) {cells : Array Value} {v0 v1 v2 v3 : Value} (h0 : a.eval x0 = v0) (h1 : a.eval x1 = v1) (h2 : a.eval x2 = v2) (h3 : a.eval x3 = v3) (hb : Program.built Tryz.prog t [(i0, v0), (i1, v1), (i2, v2), (i3, v3)] = some cells)
    (hk : wpQuiet Tryz.prog ops C Q rest (a.put o.dst (.agg cells))) : wpQuiet Tryz.prog ops C Q (o :: rest) a :=
  wpQuiet_run hw (fun w' _ => by
    simp [execOp, ho, h0, h1, h2, h3, run_build w' t #[(i0, v0), (i1, v1), (i2, v2), (i3, v3)] cells hb, Result.andThen]) hk
/-- A conversion of bytes to a string, in every world that the others of a region can leave. -/
theorem conv_B {W : World} {B : Nat} {x : Option Addr} {l : List UInt8} (h : Bts W x l) (hx : ∀ a, x = some a → a.block < B) (n c : Nat) (hn : l.length = n) : ∀ w', OutB B W w' → (convert 22 9 (.slice x n c)).run Tryz.prog w' = .ok (.string ⟨l.toArray⟩) w' := by
  rintro w' ⟨v, rfl⟩
  subst hn
  exact run_conv (P := Tryz.prog) Tryz.underlying22 Tryz.underlying5 str_under (h.low (plusB_below B W v) hx) c

end Go.Proofs.YtapefonhgkjgnaaGreat
