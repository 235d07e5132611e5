/- Operations run in two parts, cut at their ends, exchanged: in plain lists. -/
import Derived.Test.YtgibfagnfhgelaaPureRn
namespace Go.Proofs.Ytgibfagnfhgelaa
open Go.RowKit

theorem doOp_zero (ls : List (List UInt8)) (o : OpV) : doOp ls o 0 = ls := by
  unfold doOp
  show ls.set _ (ls.getD _ []) = ls
  by_cases h : o.blk.toNat < ls.length
  · rw [List.getD_eq_getElem?_getD, List.getElem?_eq_getElem h]; exact List.set_getElem_self ..
  · exact List.set_eq_of_length_le (by omega)
theorem cutL_zero (ls : List (List UInt8)) (os : List OpV) (n : Nat) : cutL ls os n 0 = runL ls (os.take n) := doOp_zero _ _
theorem cutL_end (ls : List (List UInt8)) (os : List OpV) (n : Nat) (h : n < os.length) : cutL ls os n (lenO (os.getD n op0).er) = runL ls (os.take (n + 1)) := (runL_take ls os n h).symm
/-- Two neighbours exchanged. -/
def swapO (os : List OpV) (n : Nat) : List OpV := (os.set n (os.getD (n + 1) op0)).set (n + 1) (os.getD n op0)
theorem swapO_len (os : List OpV) (n : Nat) : (swapO os n).length = os.length := by unfold swapO; rw [List.length_set, List.length_set]
theorem swapO_mem (os : List OpV) (n : Nat) (h : n + 1 < os.length) : ∀ o, o ∈ swapO os n → o ∈ os := by
  intro o ho
  rcases List.mem_or_eq_of_mem_set ho with h1 | h1
  · rcases List.mem_or_eq_of_mem_set h1 with h2 | h2
    · exact h2
    · rw [h2]; exact getD_mem os _ _ h
  · rw [h1]; exact getD_mem os _ _ (by omega)
theorem doOp_comm (ls : List (List UInt8)) (a b : OpV) (h : All54 ls) (ha : OkO ls.length a) (hb : OkO ls.length b) (hab : a.blk ≠ b.blk) : doOp (doOp ls a (lenO a.er)) b (lenO b.er) = doOp (doOp ls b (lenO b.er)) a (lenO a.er) := by
  rw [doOp_full (doOp ls a _) b (h.doOp a _) (by rw [doOp_len]; exact hb), doOp_full (doOp ls b _) a (h.doOp b _) (by rw [doOp_len]; exact ha), doOp_full ls a h ha, doOp_full ls b h hb]
  have h1 := ha.1
  have h2 := hb.1
  exact List.set_comm _ _ (by omega)
theorem swap_run : ∀ (n : Nat) (os : List OpV) (ls : List (List UInt8)), n + 1 < os.length → All54 ls → (∀ o, o ∈ os → OkO ls.length o) → (os.getD n op0).blk ≠ (os.getD (n + 1) op0).blk → runL ls (swapO os n) = runL ls os
  | 0, a :: b :: t, ls, _, h54, hok, hne => by
    show runL ls (b :: a :: t) = runL ls (a :: b :: t)
    rw [runL_cons, runL_cons, runL_cons, runL_cons, doOp_comm ls a b h54 (hok a (by simp)) (hok b (by simp)) hne]
  | n + 1, o :: t, ls, hn, h54, hok, hne => by
    show runL ls (o :: swapO t n) = runL ls (o :: t)
    rw [runL_cons, runL_cons]
    exact swap_run n t _ (by simpa using hn) (h54.doOp o _) (fun p hp => by rw [doOp_len]; exact hok p (List.mem_cons_of_mem _ hp)) hne
  | 0, [], _, h, _, _, _ => by simp at h
  | 0, [_], _, h, _, _, _ => by simp at h
  | _ + 1, [], _, h, _, _, _ => by simp at h
theorem vldO_swap (ls : List (List UInt8)) (os : List OpV) (n : Nat) (hv : vldO ls os = true) (h : n + 1 < os.length) : vldO ls (swapO os n) = true := vldO_sub hv ((vldO_iff _ _).1 hv).1 rfl (swapO_mem os n h)
theorem runs_swap (ls : List (List UInt8)) (os : List OpV) (n : Nat) (hv : vldO ls os = true) (h : n + 1 < os.length) (hne : (os.getD n op0).blk ≠ (os.getD (n + 1) op0).blk) : runL ls (swapO os n) = runL ls os :=
  swap_run n os ls h ((vldS_iff _).1 ((vldO_iff _ _).1 hv).1).2 (fun o ho => okO_of (((vldO_iff _ _).1 hv).2 o ho)) hne

/-- An owned row of operations. -/
def encO (o : OpV) : List Value := [.int .i64 o.blk, .bool o.er, .slice o.x o.d.length o.c]
theorem infoOp : (Try.prog.info? 31).map (fun i => (i.zero, i.size, i.bytes)) = some (some (.agg #[.int .i64 0, .bool false, .slice none 0 0]), 3, 40) := by kernel_rfl
def OwnsO (B : Nat) (w : World) (x : Option Addr) (cap : Nat) (os : List OpV) : Prop := w.ownsRow B 31 3 (.slice x os.length cap) os.length (os.flatMap encO)

end Go.Proofs.Ytgibfagnfhgelaa
