/- Which of the blocks that lay may have changed. Proved over any program. -/
import Derived.Below
import Derived.Deep.Draws
import Derived.WalkKit
namespace Go.Proofs.Ytgibfagnfhgelaa
open Go.RowKit

/-- Of what was there only blocks of T may have changed. -/
structure Turns (T : Nat → Prop) (w w' : World) : Prop where
  os : w'.os = w.os
  tape : w'.tape = w.tape
  output : w'.output = w.output
  size : w.heap.size ≤ w'.heap.size
  block : ∀ k, k < w.heap.size → ¬ T k → w'.heap[k]? = w.heap[k]?

namespace Turns
variable {T T' : Nat → Prop} {a b c w w' : World}
theorem refl (T : Nat → Prop) (w : World) : Turns T w w := ⟨rfl, rfl, rfl, Nat.le_refl _, fun _ _ _ => rfl⟩
theorem trans (h : Turns T a b) (k : Turns T b c) : Turns T a c :=
  ⟨k.os.trans h.os, k.tape.trans h.tape, k.output.trans h.output, Nat.le_trans h.size k.size, fun i hi ht => (k.block i (Nat.lt_of_lt_of_le hi h.size) ht).trans (h.block i hi ht)⟩
/-- A second step may also turn blocks that the first has made. -/
theorem trans' (h : Turns T a b) (k : Turns T' b c) (hT : ∀ i, i < a.heap.size → T' i → T i) : Turns T a c :=
  ⟨k.os.trans h.os, k.tape.trans h.tape, k.output.trans h.output, Nat.le_trans h.size k.size, fun i hi ht => (k.block i (Nat.lt_of_lt_of_le hi h.size) (fun e => ht (hT i hi e))).trans (h.block i hi ht)⟩
theorem mono (h : Turns T a b) (hT : ∀ i, i < a.heap.size → T i → T' i) : Turns T' a b := ⟨h.os, h.tape, h.output, h.size, fun i hi ht => h.block i hi (fun e => ht (hT i hi e))⟩
theorem of_below {B : Nat} (h : Below B a b) (hB : a.heap.size ≤ B) : Turns T a b := ⟨h.os, h.tape, h.output, h.size, fun i hi _ => h.block i (by omega)⟩
theorem below {B : Nat} (h : Turns T a b) (hB : B ≤ a.heap.size) (hT : ∀ i, i < B → ¬ T i) : Below B a b := ⟨h.os, h.tape, h.output, h.size, fun i hi => h.block i (by omega) (hT i hi)⟩
theorem alloc (h : Turns T a b) (o : Obj) : Turns T a (b.alloc o) := h.trans' (T' := fun _ => False) (of_below ((Below.refl _ b).alloc (Nat.le_refl _) o) (Nat.le_refl _)) (fun _ _ e => e.elim)
theorem drew (h : Turns T a b) : Turns T a b.drew := ⟨h.os, h.tape, h.output, h.size, h.block⟩
theorem drewN (h : Turns T a b) (n : Nat) : Turns T a (b.drewN n) := ⟨h.os, h.tape, h.output, h.size, h.block⟩
theorem setCell (h : Turns T a b) {p : Addr} (hp : p.block < a.heap.size → T p.block) (u : Value) : Turns T a (b.setCell p u) :=
  h.trans' (T' := fun i => i = p.block) ⟨rfl, rfl, rfl, by simp [World.setCell], fun k _ hk => Below.heap_setCell _ _ _ _ hk⟩ (fun i hi e => by cases e; exact hp hi)
theorem cell (h : Turns T w w') {p : Addr} {v : Value} (hp : ¬ T p.block) (hc : w.cell? p = some v) : w'.cell? p = some v :=
  (World.cell?_of_block (w := w) (h.block _ (World.block_lt_of_cell? w p hc) hp)).trans hc
theorem frozen (h : Turns T w w') {p : Addr} {v : Bool} (hp : ¬ T p.block) (hs : p.block < w.heap.size) (hc : w.frozen? p = v) : w'.frozen? p = v :=
  (World.frozen?_of_block (w := w) (h.block _ hs hp)).trans hc
theorem obj (h : Turns T w w') {k : Nat} {o : Obj} (hk : ¬ T k) (hc : w.heap[k]? = some o) : w'.heap[k]? = some o := (h.block k (Array.getElem?_eq_some_iff.1 hc).1 hk).trans hc
end Turns

theorem al {w W : World} (h : Below w.heap.size w W) (o : Obj) : Below w.heap.size w (W.alloc o) := h.alloc h.size o
theorem thru {w W w' : World} (h : Below w.heap.size w W) (hb : Below W.heap.size W w') : Below w.heap.size w w' := h.trans (hb.mono h.size)
theorem belN {B : Nat} {w W : World} (h : Below B w W) (n : Nat) : Below B w (W.drewN n) := ⟨h.os, h.tape, h.output, h.size, h.block⟩
theorem cell_new (w : World) (C : Array Value) (T : TypeId) (p : Nat × Nat) (i : Nat) : (w.alloc (.cells C T p)).cell? ⟨w.heap.size, i, none⟩ = C[i]? := by
  have h : (w.alloc (.cells C T p)).heap[w.heap.size]? = some (.cells C T p) := by
    show (w.heap.push _)[w.heap.size]? = _
    simp
  unfold World.cell?; simp only [h]; rfl
theorem take_succ_getD (l : List UInt8) (j : Nat) (h : j < l.length) : l.take (j + 1) = l.take j ++ [l.getD j 0] := by
  rw [List.take_succ_eq_append_getElem h, List.getD_eq_getElem?_getD, List.getElem?_eq_getElem h]; rfl
@[go_sem] theorem u8_of_u8 (v : UInt8) : IntKind.u8.wrap (v.toNat : Int) = (v.toNat : Int) := by
  have := v.toNat_lt
  simp [IntKind.wrap, IntKind.bits, IntKind.signed]; omega
theorem u8_xor (a b : UInt8) : bits .xor .u8 (a.toNat : Int) (b.toNat : Int) = ((a ^^^ b).toNat : Int) := by
  show IntKind.u8.wrap ((BitVec.ofInt 8 (a.toNat : Int) ^^^ BitVec.ofInt 8 (b.toNat : Int)).toNat : Int) = _
  rw [show BitVec.ofInt 8 (a.toNat : Int) = a.toBitVec by apply BitVec.eq_of_toNat_eq; simp, show BitVec.ofInt 8 (b.toNat : Int) = b.toBitVec by apply BitVec.eq_of_toNat_eq; simp]
  exact u8_of_u8 (a ^^^ b)
theorem u8_eq0 (v : UInt8) : ((v.toNat : Int) == 0) = (v == 0) := by
  rw [Bool.eq_iff_iff]; simp [← UInt8.toNat_inj]
/-- A law's answer: true, and nothing that lay has turned. -/
def YesOf (w : World) (e : Ending) (w' : World) : Prop := e = .returned (.bool true) ∧ Below w.heap.size w w'

end Go.Proofs.Ytgibfagnfhgelaa
