/- Rows of a known length, filled cell by cell. -/
import Derived.Test.YtgibfagnfhgelaaAppend
import Derived.Laws.MakeOwn
import Derived.OwnWalk
namespace Go.Proofs.Ytgibfagnfhgelaa
open Go.RowKit

/-- The first k of some bytes, the others still 0. -/
def fillL (l : List UInt8) (k : Nat) : List UInt8 := l.take k ++ List.replicate (l.length - k) 0
theorem fillL_length (l : List UInt8) (k : Nat) : (fillL l k).length = l.length := by unfold fillL; simp; omega
theorem fillL_zero (l : List UInt8) : fillL l 0 = List.replicate l.length 0 := rfl
theorem fillL_all (l : List UInt8) : fillL l l.length = l := by unfold fillL; simp
theorem fillL_succ (l : List UInt8) (k : Nat) (h : k < l.length) : (fillL l k).set k (l.getD k 0) = fillL l (k + 1) := by
  apply List.ext_getElem
  · rw [List.length_set, fillL_length, fillL_length]
  · intro i h1 h2
    rw [List.length_set, fillL_length] at h1
    have hx : (fillL l (k + 1))[i]? = some (if i < k + 1 then l[i] else 0) := by
      unfold fillL
      by_cases hi : i < k + 1
      · rw [List.getElem?_append_left (by simp; omega), List.getElem?_take, if_pos hi, if_pos hi, List.getElem?_eq_getElem h1]
      · rw [List.getElem?_append_right (by simp; omega), if_neg hi, List.getElem?_replicate, if_pos (by simp; omega)]
    have hy : ((fillL l k).set k (l.getD k 0))[i]? = some (if i < k + 1 then l[i] else 0) := by
      by_cases hk : i = k
      · subst hk
        rw [List.getElem?_set_self (by rw [fillL_length]; exact h), if_pos (by omega), List.getD_eq_getElem?_getD, List.getElem?_eq_getElem h]; rfl
      · rw [List.getElem?_set_ne (by omega)]
        unfold fillL
        by_cases hi : i < k
        · rw [List.getElem?_append_left (by simp; omega), List.getElem?_take, if_pos hi, if_pos (by omega), List.getElem?_eq_getElem h1]
        · rw [List.getElem?_append_right (by simp; omega), if_neg (by omega), List.getElem?_replicate, if_pos (by simp; omega)]
    rw [List.getElem?_eq_getElem (by rw [List.length_set, fillL_length]; exact h1)] at hy
    rw [List.getElem?_eq_getElem h2] at hx
    rw [Option.some.inj hy, Option.some.inj hx]

/-- A row just made whole. -/
theorem OwnsB.whole (B g : Nat) (w : World) (l : List UInt8) (C : Array Value) (hC : C = (l.map encB).toArray) (hB : B ≤ w.heap.size) (hg : w.heap.size = g) (hl : l.length ≤ 10000000) : OwnsB B (w.alloc (.cells C 5)) (some ⟨g, 0, none⟩) l.length l := by
  subst hg hC
  have hm : l.length ≤ maxLen := by unfold maxLen; omega
  exact ⟨by simp, .inr ⟨w.heap.size, l.length, (l.map encB).toArray, rfl, hB, heap_alloc_new w _, Nat.le_refl _, hm, by simp, by simp [List.take_of_length_le]⟩⟩
def zeroB (n : Nat) : Array Value := ((List.replicate n (0 : UInt8)).map encB).toArray
theorem made_zero (n : Nat) : madeCells (Value.cells (.int .u8 0)) n = zeroB n := by
  unfold zeroB
  apply Array.ext
  · rw [size_madeCells]; simp
  · intro i h1 h2
    simp [madeCells, Value.cells, encB, Nat.mod_one]
/-- make([]byte, n) -/
theorem run_zeros (n : Nat) (h : n ≤ 10000000) (w : World) : (Instr.makeSlice 25 (.int .i64 (n : Int)) (.int .i64 (n : Int))).run Try.prog w = .ok (.slice (some ⟨w.heap.size, 0, none⟩) n n) (w.alloc (.cells (zeroB n) 5)) := by
  obtain ⟨i0, hi, hz0, hz1, hz2⟩ := info_parts infoByte
  have := run_makeSlice (P := Try.prog) w 25 5 i0 (.int .u8 0) Try.underlying25 hi hz0 .i64 .i64 (n : Int) (n : Int) (by omega) (Int.le_refl _) (by rw [hz1]; simp; omega) (by rw [hz2]; omega) (by omega)
  rw [this, hz1]
  simp only [Int.toNat_natCast, Nat.mul_one, made_zero]
theorem OwnsB.zeros (B g n : Nat) (w : World) (hB : B ≤ w.heap.size) (hg : w.heap.size = g) (hl : n ≤ 10000000) : OwnsB B (w.alloc (.cells (zeroB n) 5)) (some ⟨g, 0, none⟩) n (List.replicate n 0) := by
  have := OwnsB.whole B g w (List.replicate n 0) (zeroB n) rfl hB hg (by simpa using hl)
  simpa using this
/-- make([]byte, 0, n) -/
theorem run_room (n : Nat) (h : n ≤ 10000000) (w : World) : (Instr.makeSlice 25 (.int .i64 0) (.int .i64 (n : Int))).run Try.prog w = .ok (.slice (some ⟨w.heap.size, 0, none⟩) 0 n) (w.alloc (.cells (zeroB n) 5)) := by
  obtain ⟨i0, hi, hz0, hz1, hz2⟩ := info_parts infoByte
  have := run_makeSlice (P := Try.prog) w 25 5 i0 (.int .u8 0) Try.underlying25 hi hz0 .i64 .i64 0 (n : Int) (Int.le_refl _) (by omega) (by rw [hz1]; simp; omega) (by rw [hz2]; omega) (by omega)
  rw [this, hz1]
  simp only [Int.toNat_natCast, Int.toNat_zero, Nat.mul_one, made_zero]
theorem OwnsB.room (B g n : Nat) (w : World) (hB : B ≤ w.heap.size) (hg : w.heap.size = g) (hl : n ≤ 10000000) : OwnsB B (w.alloc (.cells (zeroB n) 5)) (some ⟨g, 0, none⟩) n [] := by
  subst hg
  exact World.ownsRow_made (base := B) (e := 5) (size := 1) w (zeroB n) n hB (by unfold maxLen; omega) (by simp [zeroB])
theorem Bts.take {w : World} {x : Option Addr} {l : List UInt8} (h : Bts w x l) (n : Nat) : Bts w x (l.take n) := by
  rcases h with h | ⟨b, o, hx, hc⟩
  · subst h; exact .inl (by simp)
  · refine .inr ⟨b, o, hx, fun i hi => ?_⟩
    simp only [List.length_take] at hi
    rw [hc i (by omega)]
    congr 2
    rw [List.getD_eq_getElem?_getD, List.getD_eq_getElem?_getD, List.getElem?_take, if_pos (by omega)]

end Go.Proofs.Ytgibfagnfhgelaa
