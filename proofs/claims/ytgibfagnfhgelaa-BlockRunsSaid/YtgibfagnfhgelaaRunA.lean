/- BlockRuns: what its calls answer, and the row's two ends. -/
import Derived.Test.YtgibfagnfhgelaaPureRuns
import Derived.Test.YtgibfagnfhgelaaBlkN
import Derived.Test.YtgibfagnfhgelaaBlkO
import Derived.Test.YtgibfagnfhgelaaBlkQ
namespace Go.Proofs.Ytgibfagnfhgelaa
open Go.RowKit

/-- ops[n:]'s address. -/
def sufA (y : Option Addr) (cy n : Nat) : Option Addr := if cy = n then y else y.map (·.add (n * 3))
theorem Ops.suf {W : World} {y : Option Addr} {os : List OpV} (h : Ops W y os) (n cy : Nat) (hn : n ≤ os.length) (hcy : os.length ≤ cy) : Ops W (sufA y cy n) (os.drop n) := by
  unfold sufA
  split
  · refine ⟨.inl ?_, fun o ho => h.2 o (List.mem_of_mem_drop ho)⟩
    exact List.drop_eq_nil_of_le (by omega)
  · rcases h.1 with h0 | ⟨b, o, rfl, _⟩
    · refine ⟨.inl ?_, fun o ho => h.2 o (List.mem_of_mem_drop ho)⟩
      rw [h0]; exact List.drop_nil
    · have := h.drop n
      by_cases h3 : n * 3 = 0
      · rw [h3] at this
        simpa [Addr.add, h3] using this
      · simpa [Addr.add, h3] using this
theorem suf_none {y : Option Addr} {cy n : Nat} (h : y = none → cy = 0) : sufA y cy n = none → cy - n = 0 := by
  unfold sufA
  split
  · omega
  · intro e
    have := h (by simpa using e)
    omega
theorem run_pre (y : Option Addr) (l cy n : Nat) (h : n ≤ cy) (w : World) : (Instr.slice 26 (.slice y l cy) none (some (.int .i64 (n : Int))) none).run Try.prog w = .ok (.slice y n cy) w := by
  rw [run_slice_h w _ y l cy (by kernel_rfl) .i64 (n : Int) (by omega) (by omega)]
  have : ∀ a : Addr, a.add 0 = a := fun a => by rcases a with ⟨b, o, f⟩; unfold Addr.add; split <;> simp_all
  go_simp
  try (cases y <;> simp [sliced, this])
theorem run_suf (y : Option Addr) (l cy n : Nat) (h : n ≤ l) (w : World) : (Instr.slice 26 (.slice y l cy) (some (.int .i64 (n : Int))) none none).run Try.prog w = .ok (.slice (sufA y cy n) (l - n) (cy - n)) w := by
  rw [run_slice_l w _ y l cy (by kernel_rfl) .i64 (n : Int) (by omega) (by omega)]
  go_simp
  unfold sufA
  rfl

section
variable {x y : Option Addr} {rs : List Rw} {c cy : Nat} {os : List OpV} {n : Nat}
/-- Run at the first m operations. -/
theorem run_take (hn70 : rs.length ≤ 70) (hl0 : ∀ r, r ∈ rs → r.l.length ≤ 100000) (hyn : y = none → cy = 0) (ho20 : os.length ≤ 20) (hcy : os.length ≤ cy ∧ cy ≤ 9223372036854775807) (hv : vldO (rs.map (·.l)) os = true) (hn : n ≤ os.length) :
    ∀ W, Rws W x rs → Ops W y os → Calls Try.prog 15 #[.agg #[.slice x rs.length c], .slice y n cy] W (ErrOf (runL (rs.map (·.l)) (os.take n)) 0 W) := fun W h1 h2 => by
  have hvt : vldO (rs.map (·.l)) (os.take n) = true := vldO_sub hv ((vldO_iff _ _).1 hv).1 rfl (fun o h => List.mem_of_mem_take h)
  have hlt : (os.take n).length = n := by rw [List.length_take]; omega
  have := run_any x rs c y (os.take n) cy W h1 (by omega) hl0 (h2.take n) hyn (by omega) (by omega)
  rwa [hvt, if_pos rfl, if_pos rfl, hlt] at this
theorem take_all (os : List OpV) : os.take os.length = os := List.take_length
/-- Run goes on with the rest. -/
theorem run_rest (hn70 : rs.length ≤ 70) (hyn : y = none → cy = 0) (ho20 : os.length ≤ 20) (hcy : os.length ≤ cy ∧ cy ≤ 9223372036854775807) (hv : vldO (rs.map (·.l)) os = true) (hn : n ≤ os.length) :
    ∀ W xa ra ca, Rws W xa ra → ra.map (·.l) = runL (rs.map (·.l)) (os.take n) → Ops W y os → Calls Try.prog 15 #[.agg #[.slice xa ra.length ca], .slice (sufA y cy n) (os.length - n) (cy - n)] W (ErrOf (runL (rs.map (·.l)) os) 0 W) := fun W xa ra ca h1 h2 h3 => by
  have hvs := ((vldO_iff _ _).1 hv).1
  have hvr := vldS_runL _ (os.take n) hvs
  have hvd : vldO (ra.map (·.l)) (os.drop n) = true := by
    rw [h2]; exact vldO_sub hv hvr (runL_len _ _) (fun o h => List.mem_of_mem_drop h)
  have hll : ra.length = rs.length := by have := congrArg List.length h2; rwa [List.length_map, runL_len, List.length_map] at this
  have hld : (os.drop n).length = os.length - n := List.length_drop
  have := run_any xa ra ca (sufA y cy n) (os.drop n) (cy - n) W h1 (by omega) (fun r hr => by
    have := ((vldS_iff _).1 hvr).2 r.l (by rw [← h2]; exact List.mem_map_of_mem hr)
    omega) (h3.suf n cy hn hcy.1) (suf_none hyn) (by omega) (by omega)
  rwa [hvd, if_pos rfl, if_pos rfl, hld, h2, run_split] at this
theorem cut_good (hn70 : rs.length ≤ 70) (hl0 : ∀ r, r ∈ rs → r.l.length ≤ 100000) (hyn : y = none → cy = 0) (ho20 : os.length ≤ 20) (hcy : os.length ≤ cy ∧ cy ≤ 9223372036854775807) (hv : vldO (rs.map (·.l)) os = true) (hn : n < os.length) (k : Nat) (hk : k ≤ lenO (os.getD n op0).er) :
    ∀ W, Rws W x rs → Ops W y os → Calls Try.prog 16 #[.agg #[.slice x rs.length c], .slice y os.length cy, .int .i64 (n : Int), .int .i64 (k : Int)] W (ErrOf (cutL (rs.map (·.l)) os n k) 0 W) := fun W h1 h2 => by
  have hc : cutOk (rs.map (·.l)) os (n : Int) (k : Int) = true := (cutOk_iff _ _ _ _).2 ⟨hv, by omega, by omega, by omega, by rw [Int.toNat_natCast]; omega⟩
  have := cut_any x rs c y os cy (n : Int) (k : Int) W h1 (by omega) hl0 h2 hyn (by omega) hcy
  rwa [hc, if_pos rfl, if_pos rfl, Int.toNat_natCast, Int.toNat_natCast] at this
theorem cut_over (hn70 : rs.length ≤ 70) (hl0 : ∀ r, r ∈ rs → r.l.length ≤ 100000) (hyn : y = none → cy = 0) (ho20 : os.length ≤ 20) (hcy : os.length ≤ cy ∧ cy ≤ 9223372036854775807) (k : Nat) (hk : lenO (os.getD n op0).er < k) :
    ∀ W, Rws W x rs → Ops W y os → Calls Try.prog 16 #[.agg #[.slice x rs.length c], .slice y os.length cy, .int .i64 (n : Int), .int .i64 (k : Int)] W (ErrOf (rs.map (·.l)) 2 W) := fun W h1 h2 => by
  have hc : cutOk (rs.map (·.l)) os (n : Int) (k : Int) = false := by
    rw [Bool.eq_false_iff]
    intro h
    have := ((cutOk_iff _ _ _ _).1 h).2.2.2.2
    rw [Int.toNat_natCast] at this
    omega
  have := cut_any x rs c y os cy (n : Int) (k : Int) W h1 (by omega) hl0 h2 hyn (by omega) hcy
  rwa [hc, if_neg Bool.false_ne_true, if_neg Bool.false_ne_true] at this
end
theorem same_both {x y : Option Addr} {r s : List Rw} {c d : Nat} {L : List (List UInt8)} (W : World) (h1 : Rws W x r) (h2 : Rws W y s) (e1 : r.map (·.l) = L) (e2 : s.map (·.l) = L) (hl : L.length ≤ 70) : Calls Try.prog 25 #[.agg #[.slice x r.length c], .agg #[.slice y s.length d]] W fun e w' => e = .returned (.bool true) ∧ Below W.heap.size W w' := by
  have hr : r.length ≤ 1000 := by have := congrArg List.length e1; rw [List.length_map] at this; omega
  have := same_any x r c y s d W h1 h2 hr
  rwa [e1, e2, beq_self_eq_true] at this

end Go.Proofs.Ytgibfagnfhgelaa
