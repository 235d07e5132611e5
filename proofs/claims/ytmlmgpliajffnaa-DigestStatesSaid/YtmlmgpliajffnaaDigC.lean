/- WALKS of the digest layer: Text. -/
import Derived.Test.YtmlmgpliajffnaaDigB
import Derived.Lib.SlBytesConst
import Derived.Laws.Cover3
namespace Go.Proofs.Ytmlmgpliajffnaa
open Go.RowKit

def digV : Value := .agg #[.int .u8 48, .int .u8 49, .int .u8 50, .int .u8 51, .int .u8 52, .int .u8 53, .int .u8 54, .int .u8 55, .int .u8 56, .int .u8 57, .int .u8 97, .int .u8 98, .int .u8 99, .int .u8 100, .int .u8 101, .int .u8 102]

set_option maxHeartbeats 1000000 in
theorem digits_any (w : World) : Calls Try.prog 28 #[] w fun e w' => e = .returned digV ∧ Below w.heap.size w w' := by
  have hcv : ∀ (w : World) (o : Obj) (C : Array Value) (n c : Nat), (convert 22 22 (.slice (some ⟨w.heap.size + 1, 0, none⟩) n c)).run Try.prog ((w.alloc o).alloc (.cells C 5)) = .ok (.slice (some ⟨w.heap.size + 1, 0, none⟩) n c) ((w.alloc o).alloc (.cells C 5 (C.size, C.size + 1))) := fun w o C n c => by
    have h := Lib.run_convert_bytes_const (P := Try.prog) (w.alloc o) 22 5 C n c Try.underlying22 Try.underlying5
    rwa [show (w.alloc o).heap.size = w.heap.size + 1 by simp] at h
  have hld : ∀ (w : World) (o : Obj) (C : Array Value) (p : Nat × Nat) (i : Nat), ((w.alloc o).alloc (.cells C 5 p)).cell? ⟨w.heap.size + 1, i, none⟩ = C[i]? := fun w o C p i => by
    have h : ((w.alloc o).alloc (.cells C 5 p)).heap[w.heap.size + 1]? = some (.cells C 5 p) := by
      have := Deep.blk_alloc_new (w.alloc o) (.cells C 5 p)
      rwa [show (w.alloc o).heap.size = w.heap.size + 1 by simp] at this
    unfold World.cell?; simp only [h]; rfl
  have hat := fun (w : World) (a : Option Addr) (n c : Nat) (h : 16 ≤ n) => run_arrayAt (P := Try.prog) (w := w) 50 5 16 a n c Try.underlying50 h
  go_enter Try.func28, Try.ntmps28
  go_wp2_with fail
  exact bodyPost_ret (v := digV) (by simp [results, Try.results28, go_sem, digV]) rfl ⟨rfl, al (al (Below.refl _ w) _) _⟩

end Go.Proofs.Ytmlmgpliajffnaa
