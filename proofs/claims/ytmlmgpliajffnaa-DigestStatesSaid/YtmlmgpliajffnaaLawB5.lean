/- WALKS of the laws of the digest layer: DigestUndo. -/
import Derived.Test.YtmlmgpliajffnaaLawA5
namespace Go.Proofs.Ytmlmgpliajffnaa
open Go.RowKit

theorem wrap_back {n : Int} (h : -9223372036854775808 ≤ n ∧ n ≤ 9223372036854775807) : wrap64 (wrap64 (n - 1) + 1) = n := by unfold wrap64; omega
theorem wrap_rng (n : Int) : -9223372036854775808 ≤ wrap64 n ∧ wrap64 n ≤ 9223372036854775807 := by unfold wrap64; omega

set_option maxHeartbeats 1000000 in
theorem undo_law (x : D64) (n : Int) (v : UInt8) (w : World) (hn : -9223372036854775808 ≤ n ∧ n ≤ 9223372036854775807) :
    Calls Try.prog 6 #[.agg #[.int .u64 (num x), .int .i64 n], .int .u8 (v.toNat : Int)] w (YesOf w) := by
  obtain ⟨y, hy⟩ : ∃ y, x >>> 20 ||| x <<< 44 = y := ⟨_, rfl⟩
  obtain ⟨z, hz⟩ : ∃ z, y - y <<< 28 + y <<< 56 = z := ⟨_, rfl⟩
  obtain ⟨s, hs⟩ : ∃ s, z ^^^ Dig.ofB v = s := ⟨_, rfl⟩
  have hxs : bits .xor .u64 (num z) (IntKind.u64.wrap (v.toNat : Int)) = num s := by rw [u8_num v, u64_wrap, u64_xor, hs]
  have hq : Dig.addL s [v] = x := by rw [← hs, ← hz, ← hy]; exact Dig.step_undo x v
  have HQ := Lib.hid hq
  have HL := Lib.hid (show wrap64 (wrap64 (n - 1) + (([v] : List UInt8).length : Int)) = n from wrap_back hn)
  have HN := Lib.hid (wrap_rng (n - 1))
  clear hq hn hs
  have hB := Below.refl w.heap.size w
  go_enter Try.func6, Try.ntmps6
  go_wp2_with fail
  refine wp_region_sched (fun W => W.cell? ⟨w.heap.size, 0, none⟩ = some (.int .u64 (num x)) ∧ W.cell? ⟨w.heap.size, 1, none⟩ = some (.int .i64 n) ∧ W.cell? ⟨w.heap.size + 1, 0, none⟩ = some (.int .u64 (num s)) ∧ W.cell? ⟨w.heap.size + 1, 1, none⟩ = some (.int .i64 (wrap64 (n - 1))) ∧ w.heap.size < W.heap.size ∧ w.heap.size + 1 < W.heap.size ∧ Below w.heap.size w W) (.one [0, 1, 4] 2 (.one [] 3 (.one [5, 6] 7 (.done [8, 9])))) (by kernel_rfl) (by kernel_rfl) (fun _ _ _ _ _ h => h) ⟨(by go_simp), (by go_simp), (by go_simp), (by go_simp), (by simp <;> omega), (by simp <;> omega), (thru hB (al (al (Below.refl _ w) _) _)).drew⟩ ?_
  clear hB 
  rintro W ⟨g1_0, g1_1, g1_2, g1_3, z1_0, z1_1, hB⟩
  rw [wpSched]
  simp only [pick, List.map_cons, List.map_nil, Array.getD_eq_getD_getElem?, List.getElem?_toArray, List.getElem?_cons_succ, List.getElem?_cons_zero, Option.getD_some]
  have kg1_0 := plusW_cell g1_0
  have kg1_1 := plusW_cell g1_1
  have kg1_2 := plusW_cell g1_2
  have kg1_3 := plusW_cell g1_3
  repeat (first | go_big_quiet_step (fail) | quiet_step (fail))
  refine wpQuiet_nil ?_
  clear kg1_0 kg1_1 kg1_2 kg1_3
  refine heavy_want (by rfl) (fun K' hK' => ?_)
  go_simp
  refine hK' _ _ (al (Below.refl _ _) _) ?_
  clear hK' K'
  have hq := al (Below.refl _ W) (.cells #[.int .u8 (v.toNat : Int)] 5)
  have fr0 : (W.alloc (.cells #[.int .u8 (v.toNat : Int)] 5)).cell? ⟨W.heap.size, 0, none⟩ = some (.int .u8 (v.toNat : Int)) := by go_simp
  have frz : W.heap.size < (W.alloc (.cells #[.int .u8 (v.toNat : Int)] 5)).heap.size := by simp
  have hbt := bts_one W v 5 (0, 0)
  obtain ⟨W1, hw2⟩ : ∃ X : World, W.alloc (.cells #[.int .u8 (v.toNat : Int)] 5) = X := ⟨_, rfl⟩
  rw [hw2] at hq frz fr0 hbt
  rw [hw2]
  have HB := Lib.hid hbt
  clear hw2 hbt
  have g2_0 := later hq g1_0
  have g2_1 := later hq g1_1
  have g2_2 := later hq g1_2
  have g2_3 := later hq g1_3
  have z2_0 : w.heap.size < W1.heap.size := Nat.lt_of_lt_of_le z1_0 hq.size
  have z2_1 : w.heap.size + 1 < W1.heap.size := Nat.lt_of_lt_of_le z1_1 hq.size
  replace hB := thru hB hq
  clear hq g1_0 g1_1 g1_2 g1_3 z1_0 z1_1
  have n2_0 := fr0
  have m2 := frz
  clear frz fr0
  try simp only [Act.put, List.setIfInBounds_toArray, List.set_cons_zero, List.set_cons_succ]
  rw [wpSched]
  simp only [pick, List.map_nil, Array.getD_eq_getD_getElem?, List.getElem?_toArray, List.getElem?_cons_succ, List.getElem?_cons_zero, Option.getD_some]
  refine wpQuiet_nil ?_
  refine heavy_want (by rfl) (fun K' hK' => ?_)
  go_simp
  refine (add_any s (wrap64 (n - 1)) _ [v] 1 _ HN.out (by simp) HB.out).mono ?_
  rintro e W2 ⟨rfl, hb⟩
  refine hK' _ _ hb ?_
  clear hK' K'
  clear HB
  have hq := thru (Below.refl _ W1) hb
  clear hb
  have g3_0 := later hq g2_0
  have g3_1 := later hq g2_1
  have g3_2 := later hq g2_2
  have g3_3 := later hq g2_3
  have g3_4 := later hq n2_0
  have z3_0 : w.heap.size < W2.heap.size := Nat.lt_of_lt_of_le z2_0 hq.size
  have z3_1 : w.heap.size + 1 < W2.heap.size := Nat.lt_of_lt_of_le z2_1 hq.size
  have z3_2 : W.heap.size < W2.heap.size := Nat.lt_of_lt_of_le m2 hq.size
  replace hB := thru hB hq
  clear hq g2_0 g2_1 g2_2 g2_3 n2_0 z2_0 z2_1 m2
  try simp only [Act.put, List.setIfInBounds_toArray, List.set_cons_zero, List.set_cons_succ]
  rw [HQ.out, HL.out]
  rw [wpSched]
  simp only [pick, List.map_cons, List.map_nil, Array.getD_eq_getD_getElem?, List.getElem?_toArray, List.getElem?_cons_succ, List.getElem?_cons_zero, Option.getD_some]
  have kg3_0 := plusW_cell g3_0
  have kg3_1 := plusW_cell g3_1
  repeat (first | go_big_quiet_step (fail) | quiet_step (fail))
  refine wpQuiet_nil ?_
  clear kg3_0 kg3_1
  refine heavy_want (by rfl) (fun K' hK' => ?_)
  go_simp
  refine (awake_any _).mono ?_
  rintro e W3 ⟨rfl, hb⟩
  refine hK' _ _ hb ?_
  clear hK' K'
  have hq := thru (Below.refl _ W2) hb
  clear hb
  have g4_0 := later hq g3_0
  have g4_1 := later hq g3_1
  have g4_2 := later hq g3_2
  have g4_3 := later hq g3_3
  have g4_4 := later hq g3_4
  have z4_0 : w.heap.size < W3.heap.size := Nat.lt_of_lt_of_le z3_0 hq.size
  have z4_1 : w.heap.size + 1 < W3.heap.size := Nat.lt_of_lt_of_le z3_1 hq.size
  have z4_2 : W.heap.size < W3.heap.size := Nat.lt_of_lt_of_le z3_2 hq.size
  replace hB := thru hB hq
  clear hq g3_0 g3_1 g3_2 g3_3 g3_4 z3_0 z3_1 z3_2
  try simp only [Act.put, List.setIfInBounds_toArray, List.set_cons_zero, List.set_cons_succ]
  rw [wpSched]
  simp only [pick, List.map_cons, List.map_nil, Array.getD_eq_getD_getElem?, List.getElem?_toArray, List.getElem?_cons_succ, List.getElem?_cons_zero, Option.getD_some]
  repeat (first | go_big_quiet_step (fail) | quiet_step (fail))
  refine wpQuiet_nil ?_
  go_wp2_with fail
  go_ret
  exact ⟨rfl, hB⟩

end Go.Proofs.Ytmlmgpliajffnaa
