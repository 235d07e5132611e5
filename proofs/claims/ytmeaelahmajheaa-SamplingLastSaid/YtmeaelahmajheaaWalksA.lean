/- WALKS of the sampling layer, the leaves: the closures, the validity of a port with a state. -/
import Derived.Test.YtmeaelahmajheaaProg
import Derived.Test.YtmeaelahmajheaaPureSampling
import Derived.Test.YtmeaelahmajheaaRegion
import Derived.WalkKit
import Derived.WalkSpells
import Derived.WalkLawsBesides
import Derived.BigQuiet
namespace Go.Proofs.Ytmeaelahmajheaa
open Go.RowKit

set_option maxHeartbeats 400000 in
theorem within_any (lo hi : Int) (w : World) :
    Calls Try.prog 23 #[.int .i64 lo, .int .i64 hi] w fun e w' => ∃ a b : Addr,
      e = .returned (.func (.func 24) #[] #[.pointer (some a), .pointer (some b)]) ∧ w'.cell? a = some (.int .i64 lo) ∧ w'.cell? b = some (.int .i64 hi) ∧ Below w.heap.size w w' := by
  go_enter Try.func23, Try.ntmps23
  go_wp2
  go_ret
  exact ⟨_, _, rfl, by go_simp, by go_simp, ((Below.refl _ _).alloc (Nat.le_refl _) _).alloc (by simp) _⟩


set_option maxHeartbeats 400000 in
theorem in_any (n lo hi : Int) (a b : Addr) (w : World) (ha : w.cell? a = some (.int .i64 lo)) (hb : w.cell? b = some (.int .i64 hi)) :
    Calls Try.prog 24 #[.int .i64 n, .pointer (some a), .pointer (some b)] w fun e w' => e = .returned (.bool (decide (lo ≤ n) && decide (n ≤ hi))) ∧ w = w' := by
  by_cases h1 : lo ≤ n
  · by_cases h2 : n ≤ hi
    · have H : (decide (lo ≤ n) && decide (n ≤ hi)) = true := by simp [h1, h2]
      rw [H]; clear H
      go_enter Try.func24, Try.ntmps24
      go_wp2
      go_ret
      exact ⟨rfl, rfl⟩
    · have H : (decide (lo ≤ n) && decide (n ≤ hi)) = false := by simp [h2]
      rw [H]; clear H
      go_enter Try.func24, Try.ntmps24
      go_wp2
      go_ret
      exact ⟨rfl, rfl⟩
  · have H : (decide (lo ≤ n) && decide (n ≤ hi)) = false := by simp [h1]
    rw [H]; clear H
    go_enter Try.func24, Try.ntmps24
    go_wp2
    go_ret
    exact ⟨rfl, rfl⟩


set_option maxHeartbeats 1000000 in
theorem valid_k1 (nm : ByteArray) (kind : Int) (out : Bool) (size depth refresh : Int) (a : Option Addr) (len cap : Nat) (at_ : Int) (has : Bool) (w : World) (hk : (kind != 1) = true) :
    Calls Try.prog 20 #[.agg #[.string nm, .int .u8 kind, .bool out, .int .i64 size, .int .i64 depth, .int .i64 refresh, .slice a len cap, .int .i64 at_, .bool has]] w fun e w' =>
      e = .returned (.bool false) ∧ Below w.heap.size w w' := by
  go_enter Try.func20, Try.ntmps20
  go_wp2_with (go_at_call 23; refine (within_any _ _ _).mono ?_; rintro e w1 ⟨ta, tb, rfl, hta, htb, hbL⟩)
  have hB := ((Below.refl _ w).alloc (Nat.le_refl _) _).trans (hbL.mono (by simp))
  have hc1 := later hbL (show (w.alloc _).cell? ⟨w.heap.size, 1, none⟩ = some (.int .u8 kind) by go_simp)
  have hc3 := later hbL (show (w.alloc _).cell? ⟨w.heap.size, 3, none⟩ = some (.int .i64 size) by go_simp)
  have hc4 := later hbL (show (w.alloc _).cell? ⟨w.heap.size, 4, none⟩ = some (.int .i64 depth) by go_simp)
  have hc5 := later hbL (show (w.alloc _).cell? ⟨w.heap.size, 5, none⟩ = some (.int .i64 refresh) by go_simp)
  have hc6 := later hbL (show (w.alloc _).cell? ⟨w.heap.size, 6, none⟩ = some (.slice a len cap) by go_simp)
  have hc7 := later hbL (show (w.alloc _).cell? ⟨w.heap.size, 7, none⟩ = some (.int .i64 at_) by go_simp)
  have hc8 := later hbL (show (w.alloc _).cell? ⟨w.heap.size, 8, none⟩ = some (.bool has) by go_simp)
  clear hbL
  refine wp_region_sched (fun W => Below w.heap.size w W ∧ W.cell? ta = some (.int .i64 0) ∧ W.cell? tb = some (.int .i64 1073741824) ∧ W.cell? ⟨w.heap.size, 1, none⟩ = some (.int .u8 kind) ∧ W.cell? ⟨w.heap.size, 3, none⟩ = some (.int .i64 size) ∧ W.cell? ⟨w.heap.size, 4, none⟩ = some (.int .i64 depth) ∧ W.cell? ⟨w.heap.size, 5, none⟩ = some (.int .i64 refresh) ∧ W.cell? ⟨w.heap.size, 6, none⟩ = some (.slice a len cap) ∧ W.cell? ⟨w.heap.size, 7, none⟩ = some (.int .i64 at_) ∧ W.cell? ⟨w.heap.size, 8, none⟩ = some (.bool has)) (.one [0, 1, 2, 3, 4, 5, 6, 7, 8, 9, 10, 12, 13, 14] 11 (.one [] 15 (.one [16, 17, 18, 19, 20, 21, 22] 23 (.done [24, 25])))) (by kernel_rfl) (by kernel_rfl) (fun _ _ _ _ _ h => h) ⟨hB.drew, hta, htb, hc1, hc3, hc4, hc5, hc6, hc7, hc8⟩ ?_
  clear hB hta htb hc1 hc3 hc4 hc5 hc6 hc7 hc8
  rintro W ⟨hB, hta, htb, hc1, hc3, hc4, hc5, hc6, hc7, hc8⟩
  rw [wpSched]
  simp only [pick, List.map_cons, List.map_nil, Array.getD_eq_getD_getElem?, List.getElem?_toArray, List.getElem?_cons_succ, List.getElem?_cons_zero, Option.getD_some]
  have khc1 := plusW_cell hc1
  have khc3 := plusW_cell hc3
  have khc4 := plusW_cell hc4
  have khc5 := plusW_cell hc5
  have khc6 := plusW_cell hc6
  have khc7 := plusW_cell hc7
  have khc8 := plusW_cell hc8
  repeat (first | go_big_quiet_step (fail) | quiet_step (fail))
  refine wpQuiet_nil ?_
  clear khc1 khc3 khc4 khc5 khc6 khc7 khc8
  refine heavy_skip (by rfl) ?_
  try simp only [Act.put, List.setIfInBounds_toArray, List.set_cons_zero, List.set_cons_succ]
  rw [wpSched]
  simp only [pick, List.map_nil, Array.getD_eq_getD_getElem?, List.getElem?_toArray, List.getElem?_cons_succ, List.getElem?_cons_zero, Option.getD_some]
  repeat (first | go_big_quiet_step (fail) | quiet_step (fail))
  refine wpQuiet_nil ?_
  refine heavy_skip (by rfl) ?_
  try simp only [Act.put, List.setIfInBounds_toArray, List.set_cons_zero, List.set_cons_succ]
  rw [wpSched]
  simp only [pick, List.map_cons, List.map_nil, Array.getD_eq_getD_getElem?, List.getElem?_toArray, List.getElem?_cons_succ, List.getElem?_cons_zero, Option.getD_some]
  have khc1 := plusW_cell hc1
  have khc3 := plusW_cell hc3
  have khc4 := plusW_cell hc4
  have khc5 := plusW_cell hc5
  have khc6 := plusW_cell hc6
  have khc7 := plusW_cell hc7
  have khc8 := plusW_cell hc8
  repeat (first | go_big_quiet_step (fail) | quiet_step (fail))
  refine wpQuiet_nil ?_
  clear khc1 khc3 khc4 khc5 khc6 khc7 khc8
  refine heavy_skip (by rfl) ?_
  try simp only [Act.put, List.setIfInBounds_toArray, List.set_cons_zero, List.set_cons_succ]
  rw [wpSched]
  simp only [pick, List.map_cons, List.map_nil, Array.getD_eq_getD_getElem?, List.getElem?_toArray, List.getElem?_cons_succ, List.getElem?_cons_zero, Option.getD_some]
  repeat (first | go_big_quiet_step (fail) | quiet_step (fail))
  refine wpQuiet_nil ?_
  go_wp2
  go_ret
  exact ⟨rfl, hB⟩

set_option maxHeartbeats 1000000 in
theorem valid_k2 (nm : ByteArray) (out : Bool) (size depth refresh : Int) (a : Option Addr) (len cap : Nat) (at_ : Int) (has : Bool) (w : World) (hk : (depth != 0) = true) :
    Calls Try.prog 20 #[.agg #[.string nm, .int .u8 1, .bool out, .int .i64 size, .int .i64 depth, .int .i64 refresh, .slice a len cap, .int .i64 at_, .bool has]] w fun e w' =>
      e = .returned (.bool false) ∧ Below w.heap.size w w' := by
  go_enter Try.func20, Try.ntmps20
  go_wp2_with (go_at_call 23; refine (within_any _ _ _).mono ?_; rintro e w1 ⟨ta, tb, rfl, hta, htb, hbL⟩)
  have hB := ((Below.refl _ w).alloc (Nat.le_refl _) _).trans (hbL.mono (by simp))
  have hc1 := later hbL (show (w.alloc _).cell? ⟨w.heap.size, 1, none⟩ = some (.int .u8 1) by go_simp)
  have hc3 := later hbL (show (w.alloc _).cell? ⟨w.heap.size, 3, none⟩ = some (.int .i64 size) by go_simp)
  have hc4 := later hbL (show (w.alloc _).cell? ⟨w.heap.size, 4, none⟩ = some (.int .i64 depth) by go_simp)
  have hc5 := later hbL (show (w.alloc _).cell? ⟨w.heap.size, 5, none⟩ = some (.int .i64 refresh) by go_simp)
  have hc6 := later hbL (show (w.alloc _).cell? ⟨w.heap.size, 6, none⟩ = some (.slice a len cap) by go_simp)
  have hc7 := later hbL (show (w.alloc _).cell? ⟨w.heap.size, 7, none⟩ = some (.int .i64 at_) by go_simp)
  have hc8 := later hbL (show (w.alloc _).cell? ⟨w.heap.size, 8, none⟩ = some (.bool has) by go_simp)
  clear hbL
  refine wp_region_sched (fun W => Below w.heap.size w W ∧ W.cell? ta = some (.int .i64 0) ∧ W.cell? tb = some (.int .i64 1073741824) ∧ W.cell? ⟨w.heap.size, 1, none⟩ = some (.int .u8 1) ∧ W.cell? ⟨w.heap.size, 3, none⟩ = some (.int .i64 size) ∧ W.cell? ⟨w.heap.size, 4, none⟩ = some (.int .i64 depth) ∧ W.cell? ⟨w.heap.size, 5, none⟩ = some (.int .i64 refresh) ∧ W.cell? ⟨w.heap.size, 6, none⟩ = some (.slice a len cap) ∧ W.cell? ⟨w.heap.size, 7, none⟩ = some (.int .i64 at_) ∧ W.cell? ⟨w.heap.size, 8, none⟩ = some (.bool has)) (.one [0, 1, 2, 3, 4, 5, 6, 7, 8, 9, 10, 12, 13, 14] 11 (.one [] 15 (.one [16, 17, 18, 19, 20, 21, 22] 23 (.done [24, 25])))) (by kernel_rfl) (by kernel_rfl) (fun _ _ _ _ _ h => h) ⟨hB.drew, hta, htb, hc1, hc3, hc4, hc5, hc6, hc7, hc8⟩ ?_
  clear hB hta htb hc1 hc3 hc4 hc5 hc6 hc7 hc8
  rintro W ⟨hB, hta, htb, hc1, hc3, hc4, hc5, hc6, hc7, hc8⟩
  rw [wpSched]
  simp only [pick, List.map_cons, List.map_nil, Array.getD_eq_getD_getElem?, List.getElem?_toArray, List.getElem?_cons_succ, List.getElem?_cons_zero, Option.getD_some]
  have khc1 := plusW_cell hc1
  have khc3 := plusW_cell hc3
  have khc4 := plusW_cell hc4
  have khc5 := plusW_cell hc5
  have khc6 := plusW_cell hc6
  have khc7 := plusW_cell hc7
  have khc8 := plusW_cell hc8
  repeat (first | go_big_quiet_step (fail) | quiet_step (fail))
  refine wpQuiet_nil ?_
  clear khc1 khc3 khc4 khc5 khc6 khc7 khc8
  refine heavy_skip (by rfl) ?_
  try simp only [Act.put, List.setIfInBounds_toArray, List.set_cons_zero, List.set_cons_succ]
  rw [wpSched]
  simp only [pick, List.map_nil, Array.getD_eq_getD_getElem?, List.getElem?_toArray, List.getElem?_cons_succ, List.getElem?_cons_zero, Option.getD_some]
  repeat (first | go_big_quiet_step (fail) | quiet_step (fail))
  refine wpQuiet_nil ?_
  refine heavy_skip (by rfl) ?_
  try simp only [Act.put, List.setIfInBounds_toArray, List.set_cons_zero, List.set_cons_succ]
  rw [wpSched]
  simp only [pick, List.map_cons, List.map_nil, Array.getD_eq_getD_getElem?, List.getElem?_toArray, List.getElem?_cons_succ, List.getElem?_cons_zero, Option.getD_some]
  have khc1 := plusW_cell hc1
  have khc3 := plusW_cell hc3
  have khc4 := plusW_cell hc4
  have khc5 := plusW_cell hc5
  have khc6 := plusW_cell hc6
  have khc7 := plusW_cell hc7
  have khc8 := plusW_cell hc8
  repeat (first | go_big_quiet_step (fail) | quiet_step (fail))
  refine wpQuiet_nil ?_
  clear khc1 khc3 khc4 khc5 khc6 khc7 khc8
  refine heavy_skip (by rfl) ?_
  try simp only [Act.put, List.setIfInBounds_toArray, List.set_cons_zero, List.set_cons_succ]
  rw [wpSched]
  simp only [pick, List.map_cons, List.map_nil, Array.getD_eq_getD_getElem?, List.getElem?_toArray, List.getElem?_cons_succ, List.getElem?_cons_zero, Option.getD_some]
  repeat (first | go_big_quiet_step (fail) | quiet_step (fail))
  refine wpQuiet_nil ?_
  go_wp2
  go_ret
  exact ⟨rfl, hB⟩

set_option maxHeartbeats 1000000 in
theorem valid_k3 (nm : ByteArray) (out : Bool) (size refresh : Int) (a : Option Addr) (len cap : Nat) (at_ : Int) (has : Bool) (w : World) (hk : (decide ((1 : Int) ≤ size) && decide (size ≤ 64)) = false) :
    Calls Try.prog 20 #[.agg #[.string nm, .int .u8 1, .bool out, .int .i64 size, .int .i64 0, .int .i64 refresh, .slice a len cap, .int .i64 at_, .bool has]] w fun e w' =>
      e = .returned (.bool false) ∧ Below w.heap.size w w' := by
  go_enter Try.func20, Try.ntmps20
  go_wp2_with (go_at_call 23; refine (within_any _ _ _).mono ?_; rintro e w1 ⟨ta, tb, rfl, hta, htb, hbL⟩)
  have hB := ((Below.refl _ w).alloc (Nat.le_refl _) _).trans (hbL.mono (by simp))
  have hc1 := later hbL (show (w.alloc _).cell? ⟨w.heap.size, 1, none⟩ = some (.int .u8 1) by go_simp)
  have hc3 := later hbL (show (w.alloc _).cell? ⟨w.heap.size, 3, none⟩ = some (.int .i64 size) by go_simp)
  have hc4 := later hbL (show (w.alloc _).cell? ⟨w.heap.size, 4, none⟩ = some (.int .i64 0) by go_simp)
  have hc5 := later hbL (show (w.alloc _).cell? ⟨w.heap.size, 5, none⟩ = some (.int .i64 refresh) by go_simp)
  have hc6 := later hbL (show (w.alloc _).cell? ⟨w.heap.size, 6, none⟩ = some (.slice a len cap) by go_simp)
  have hc7 := later hbL (show (w.alloc _).cell? ⟨w.heap.size, 7, none⟩ = some (.int .i64 at_) by go_simp)
  have hc8 := later hbL (show (w.alloc _).cell? ⟨w.heap.size, 8, none⟩ = some (.bool has) by go_simp)
  clear hbL
  refine wp_region_sched (fun W => Below w.heap.size w W ∧ W.cell? ta = some (.int .i64 0) ∧ W.cell? tb = some (.int .i64 1073741824) ∧ W.cell? ⟨w.heap.size, 1, none⟩ = some (.int .u8 1) ∧ W.cell? ⟨w.heap.size, 3, none⟩ = some (.int .i64 size) ∧ W.cell? ⟨w.heap.size, 4, none⟩ = some (.int .i64 0) ∧ W.cell? ⟨w.heap.size, 5, none⟩ = some (.int .i64 refresh) ∧ W.cell? ⟨w.heap.size, 6, none⟩ = some (.slice a len cap) ∧ W.cell? ⟨w.heap.size, 7, none⟩ = some (.int .i64 at_) ∧ W.cell? ⟨w.heap.size, 8, none⟩ = some (.bool has)) (.one [0, 1, 2, 3, 4, 5, 6, 7, 8, 9, 10, 12, 13, 14] 11 (.one [] 15 (.one [16, 17, 18, 19, 20, 21, 22] 23 (.done [24, 25])))) (by kernel_rfl) (by kernel_rfl) (fun _ _ _ _ _ h => h) ⟨hB.drew, hta, htb, hc1, hc3, hc4, hc5, hc6, hc7, hc8⟩ ?_
  clear hB hta htb hc1 hc3 hc4 hc5 hc6 hc7 hc8
  rintro W ⟨hB, hta, htb, hc1, hc3, hc4, hc5, hc6, hc7, hc8⟩
  rw [wpSched]
  simp only [pick, List.map_cons, List.map_nil, Array.getD_eq_getD_getElem?, List.getElem?_toArray, List.getElem?_cons_succ, List.getElem?_cons_zero, Option.getD_some]
  have khc1 := plusW_cell hc1
  have khc3 := plusW_cell hc3
  have khc4 := plusW_cell hc4
  have khc5 := plusW_cell hc5
  have khc6 := plusW_cell hc6
  have khc7 := plusW_cell hc7
  have khc8 := plusW_cell hc8
  repeat (first | go_big_quiet_step (fail) | quiet_step (fail))
  refine wpQuiet_nil ?_
  clear khc1 khc3 khc4 khc5 khc6 khc7 khc8
  refine heavy_want (by rfl) (fun K' hK' => ?_)
  go_simp
  refine (within_any _ _ _).mono ?_
  rintro e W1 ⟨ca, cb, rfl, hca, hcb, hbL⟩
  refine hK' _ _ hbL ?_
  clear hK' K'
  replace hta := later hbL hta
  replace htb := later hbL htb
  replace hc1 := later hbL hc1
  replace hc3 := later hbL hc3
  replace hc4 := later hbL hc4
  replace hc5 := later hbL hc5
  replace hc6 := later hbL hc6
  replace hc7 := later hbL hc7
  replace hc8 := later hbL hc8
  replace hB := hB.trans (hbL.mono hB.size)
  clear hbL
  try simp only [Act.put, List.setIfInBounds_toArray, List.set_cons_zero, List.set_cons_succ]
  rw [wpSched]
  simp only [pick, List.map_nil, Array.getD_eq_getD_getElem?, List.getElem?_toArray, List.getElem?_cons_succ, List.getElem?_cons_zero, Option.getD_some]
  repeat (first | go_big_quiet_step (fail) | quiet_step (fail))
  refine wpQuiet_nil ?_
  refine heavy_want (by rfl) (fun K' hK' => ?_)
  go_simp
  refine (in_any _ _ _ _ _ _ (by assumption) (by assumption)).mono ?_
  rintro e W' ⟨rfl, rfl⟩
  refine hK' _ _ (Below.refl _ _) ?_
  clear hK' K'
  rw [hk]
  try simp only [Act.put, List.setIfInBounds_toArray, List.set_cons_zero, List.set_cons_succ]
  rw [wpSched]
  simp only [pick, List.map_cons, List.map_nil, Array.getD_eq_getD_getElem?, List.getElem?_toArray, List.getElem?_cons_succ, List.getElem?_cons_zero, Option.getD_some]
  have khc1 := plusW_cell hc1
  have khc3 := plusW_cell hc3
  have khc4 := plusW_cell hc4
  have khc5 := plusW_cell hc5
  have khc6 := plusW_cell hc6
  have khc7 := plusW_cell hc7
  have khc8 := plusW_cell hc8
  repeat (first | go_big_quiet_step (fail) | quiet_step (fail))
  refine wpQuiet_nil ?_
  clear khc1 khc3 khc4 khc5 khc6 khc7 khc8
  refine heavy_skip (by rfl) ?_
  try simp only [Act.put, List.setIfInBounds_toArray, List.set_cons_zero, List.set_cons_succ]
  rw [wpSched]
  simp only [pick, List.map_cons, List.map_nil, Array.getD_eq_getD_getElem?, List.getElem?_toArray, List.getElem?_cons_succ, List.getElem?_cons_zero, Option.getD_some]
  repeat (first | go_big_quiet_step (fail) | quiet_step (fail))
  refine wpQuiet_nil ?_
  go_wp2
  go_ret
  exact ⟨rfl, hB⟩

set_option maxHeartbeats 1000000 in
theorem valid_k4 (nm : ByteArray) (out : Bool) (size refresh : Int) (a : Option Addr) (len cap : Nat) (at_ : Int) (has : Bool) (w : World) (hA : (decide ((1 : Int) ≤ size) && decide (size ≤ 64)) = true) (hk : (decide ((0 : Int) ≤ refresh) && decide (refresh ≤ 1073741824)) = false) :
    Calls Try.prog 20 #[.agg #[.string nm, .int .u8 1, .bool out, .int .i64 size, .int .i64 0, .int .i64 refresh, .slice a len cap, .int .i64 at_, .bool has]] w fun e w' =>
      e = .returned (.bool false) ∧ Below w.heap.size w w' := by
  go_enter Try.func20, Try.ntmps20
  go_wp2_with (go_at_call 23; refine (within_any _ _ _).mono ?_; rintro e w1 ⟨ta, tb, rfl, hta, htb, hbL⟩)
  have hB := ((Below.refl _ w).alloc (Nat.le_refl _) _).trans (hbL.mono (by simp))
  have hc1 := later hbL (show (w.alloc _).cell? ⟨w.heap.size, 1, none⟩ = some (.int .u8 1) by go_simp)
  have hc3 := later hbL (show (w.alloc _).cell? ⟨w.heap.size, 3, none⟩ = some (.int .i64 size) by go_simp)
  have hc4 := later hbL (show (w.alloc _).cell? ⟨w.heap.size, 4, none⟩ = some (.int .i64 0) by go_simp)
  have hc5 := later hbL (show (w.alloc _).cell? ⟨w.heap.size, 5, none⟩ = some (.int .i64 refresh) by go_simp)
  have hc6 := later hbL (show (w.alloc _).cell? ⟨w.heap.size, 6, none⟩ = some (.slice a len cap) by go_simp)
  have hc7 := later hbL (show (w.alloc _).cell? ⟨w.heap.size, 7, none⟩ = some (.int .i64 at_) by go_simp)
  have hc8 := later hbL (show (w.alloc _).cell? ⟨w.heap.size, 8, none⟩ = some (.bool has) by go_simp)
  clear hbL
  refine wp_region_sched (fun W => Below w.heap.size w W ∧ W.cell? ta = some (.int .i64 0) ∧ W.cell? tb = some (.int .i64 1073741824) ∧ W.cell? ⟨w.heap.size, 1, none⟩ = some (.int .u8 1) ∧ W.cell? ⟨w.heap.size, 3, none⟩ = some (.int .i64 size) ∧ W.cell? ⟨w.heap.size, 4, none⟩ = some (.int .i64 0) ∧ W.cell? ⟨w.heap.size, 5, none⟩ = some (.int .i64 refresh) ∧ W.cell? ⟨w.heap.size, 6, none⟩ = some (.slice a len cap) ∧ W.cell? ⟨w.heap.size, 7, none⟩ = some (.int .i64 at_) ∧ W.cell? ⟨w.heap.size, 8, none⟩ = some (.bool has)) (.one [0, 1, 2, 3, 4, 5, 6, 7, 8, 9, 10, 12, 13, 14] 11 (.one [] 15 (.one [16, 17, 18, 19, 20, 21, 22] 23 (.done [24, 25])))) (by kernel_rfl) (by kernel_rfl) (fun _ _ _ _ _ h => h) ⟨hB.drew, hta, htb, hc1, hc3, hc4, hc5, hc6, hc7, hc8⟩ ?_
  clear hB hta htb hc1 hc3 hc4 hc5 hc6 hc7 hc8
  rintro W ⟨hB, hta, htb, hc1, hc3, hc4, hc5, hc6, hc7, hc8⟩
  rw [wpSched]
  simp only [pick, List.map_cons, List.map_nil, Array.getD_eq_getD_getElem?, List.getElem?_toArray, List.getElem?_cons_succ, List.getElem?_cons_zero, Option.getD_some]
  have khc1 := plusW_cell hc1
  have khc3 := plusW_cell hc3
  have khc4 := plusW_cell hc4
  have khc5 := plusW_cell hc5
  have khc6 := plusW_cell hc6
  have khc7 := plusW_cell hc7
  have khc8 := plusW_cell hc8
  repeat (first | go_big_quiet_step (fail) | quiet_step (fail))
  refine wpQuiet_nil ?_
  clear khc1 khc3 khc4 khc5 khc6 khc7 khc8
  refine heavy_want (by rfl) (fun K' hK' => ?_)
  go_simp
  refine (within_any _ _ _).mono ?_
  rintro e W1 ⟨ca, cb, rfl, hca, hcb, hbL⟩
  refine hK' _ _ hbL ?_
  clear hK' K'
  replace hta := later hbL hta
  replace htb := later hbL htb
  replace hc1 := later hbL hc1
  replace hc3 := later hbL hc3
  replace hc4 := later hbL hc4
  replace hc5 := later hbL hc5
  replace hc6 := later hbL hc6
  replace hc7 := later hbL hc7
  replace hc8 := later hbL hc8
  replace hB := hB.trans (hbL.mono hB.size)
  clear hbL
  try simp only [Act.put, List.setIfInBounds_toArray, List.set_cons_zero, List.set_cons_succ]
  rw [wpSched]
  simp only [pick, List.map_nil, Array.getD_eq_getD_getElem?, List.getElem?_toArray, List.getElem?_cons_succ, List.getElem?_cons_zero, Option.getD_some]
  repeat (first | go_big_quiet_step (fail) | quiet_step (fail))
  refine wpQuiet_nil ?_
  refine heavy_want (by rfl) (fun K' hK' => ?_)
  go_simp
  refine (in_any _ _ _ _ _ _ (by assumption) (by assumption)).mono ?_
  rintro e W' ⟨rfl, rfl⟩
  refine hK' _ _ (Below.refl _ _) ?_
  clear hK' K'
  rw [hA]
  try simp only [Act.put, List.setIfInBounds_toArray, List.set_cons_zero, List.set_cons_succ]
  rw [wpSched]
  simp only [pick, List.map_cons, List.map_nil, Array.getD_eq_getD_getElem?, List.getElem?_toArray, List.getElem?_cons_succ, List.getElem?_cons_zero, Option.getD_some]
  have khc1 := plusW_cell hc1
  have khc3 := plusW_cell hc3
  have khc4 := plusW_cell hc4
  have khc5 := plusW_cell hc5
  have khc6 := plusW_cell hc6
  have khc7 := plusW_cell hc7
  have khc8 := plusW_cell hc8
  repeat (first | go_big_quiet_step (fail) | quiet_step (fail))
  refine wpQuiet_nil ?_
  clear khc1 khc3 khc4 khc5 khc6 khc7 khc8
  refine heavy_want (by rfl) (fun K' hK' => ?_)
  go_simp
  refine (in_any _ _ _ _ _ _ (by assumption) (by assumption)).mono ?_
  rintro e W' ⟨rfl, rfl⟩
  refine hK' _ _ (Below.refl _ _) ?_
  clear hK' K'
  rw [hk]
  try simp only [Act.put, List.setIfInBounds_toArray, List.set_cons_zero, List.set_cons_succ]
  rw [wpSched]
  simp only [pick, List.map_cons, List.map_nil, Array.getD_eq_getD_getElem?, List.getElem?_toArray, List.getElem?_cons_succ, List.getElem?_cons_zero, Option.getD_some]
  repeat (first | go_big_quiet_step (fail) | quiet_step (fail))
  refine wpQuiet_nil ?_
  go_wp2
  go_ret
  exact ⟨rfl, hB⟩

set_option maxHeartbeats 1000000 in
theorem valid_b1 (nm : ByteArray) (out : Bool) (size refresh : Int) (a : Option Addr) (len cap : Nat) (at_ : Int) (w : World) (hA : (decide ((1 : Int) ≤ size) && decide (size ≤ 64)) = true) (hR : (decide ((0 : Int) ≤ refresh) && decide (refresh ≤ 1073741824)) = true) (hl : ((len : Int) == 0) = false) :
    Calls Try.prog 20 #[.agg #[.string nm, .int .u8 1, .bool out, .int .i64 size, .int .i64 0, .int .i64 refresh, .slice a len cap, .int .i64 at_, .bool false]] w fun e w' =>
      e = .returned (.bool false) ∧ Below w.heap.size w w' := by
  go_enter Try.func20, Try.ntmps20
  go_wp2_with (go_at_call 23; refine (within_any _ _ _).mono ?_; rintro e w1 ⟨ta, tb, rfl, hta, htb, hbL⟩)
  have hB := ((Below.refl _ w).alloc (Nat.le_refl _) _).trans (hbL.mono (by simp))
  have hc1 := later hbL (show (w.alloc _).cell? ⟨w.heap.size, 1, none⟩ = some (.int .u8 1) by go_simp)
  have hc3 := later hbL (show (w.alloc _).cell? ⟨w.heap.size, 3, none⟩ = some (.int .i64 size) by go_simp)
  have hc4 := later hbL (show (w.alloc _).cell? ⟨w.heap.size, 4, none⟩ = some (.int .i64 0) by go_simp)
  have hc5 := later hbL (show (w.alloc _).cell? ⟨w.heap.size, 5, none⟩ = some (.int .i64 refresh) by go_simp)
  have hc6 := later hbL (show (w.alloc _).cell? ⟨w.heap.size, 6, none⟩ = some (.slice a len cap) by go_simp)
  have hc7 := later hbL (show (w.alloc _).cell? ⟨w.heap.size, 7, none⟩ = some (.int .i64 at_) by go_simp)
  have hc8 := later hbL (show (w.alloc _).cell? ⟨w.heap.size, 8, none⟩ = some (.bool false) by go_simp)
  clear hbL
  refine wp_region_sched (fun W => Below w.heap.size w W ∧ W.cell? ta = some (.int .i64 0) ∧ W.cell? tb = some (.int .i64 1073741824) ∧ W.cell? ⟨w.heap.size, 1, none⟩ = some (.int .u8 1) ∧ W.cell? ⟨w.heap.size, 3, none⟩ = some (.int .i64 size) ∧ W.cell? ⟨w.heap.size, 4, none⟩ = some (.int .i64 0) ∧ W.cell? ⟨w.heap.size, 5, none⟩ = some (.int .i64 refresh) ∧ W.cell? ⟨w.heap.size, 6, none⟩ = some (.slice a len cap) ∧ W.cell? ⟨w.heap.size, 7, none⟩ = some (.int .i64 at_) ∧ W.cell? ⟨w.heap.size, 8, none⟩ = some (.bool false)) (.one [0, 1, 2, 3, 4, 5, 6, 7, 8, 9, 10, 12, 13, 14] 11 (.one [] 15 (.one [16, 17, 18, 19, 20, 21, 22] 23 (.done [24, 25])))) (by kernel_rfl) (by kernel_rfl) (fun _ _ _ _ _ h => h) ⟨hB.drew, hta, htb, hc1, hc3, hc4, hc5, hc6, hc7, hc8⟩ ?_
  clear hB hta htb hc1 hc3 hc4 hc5 hc6 hc7 hc8
  rintro W ⟨hB, hta, htb, hc1, hc3, hc4, hc5, hc6, hc7, hc8⟩
  rw [wpSched]
  simp only [pick, List.map_cons, List.map_nil, Array.getD_eq_getD_getElem?, List.getElem?_toArray, List.getElem?_cons_succ, List.getElem?_cons_zero, Option.getD_some]
  have khc1 := plusW_cell hc1
  have khc3 := plusW_cell hc3
  have khc4 := plusW_cell hc4
  have khc5 := plusW_cell hc5
  have khc6 := plusW_cell hc6
  have khc7 := plusW_cell hc7
  have khc8 := plusW_cell hc8
  repeat (first | go_big_quiet_step (fail) | quiet_step (fail))
  refine wpQuiet_nil ?_
  clear khc1 khc3 khc4 khc5 khc6 khc7 khc8
  refine heavy_want (by rfl) (fun K' hK' => ?_)
  go_simp
  refine (within_any _ _ _).mono ?_
  rintro e W1 ⟨ca, cb, rfl, hca, hcb, hbL⟩
  refine hK' _ _ hbL ?_
  clear hK' K'
  replace hta := later hbL hta
  replace htb := later hbL htb
  replace hc1 := later hbL hc1
  replace hc3 := later hbL hc3
  replace hc4 := later hbL hc4
  replace hc5 := later hbL hc5
  replace hc6 := later hbL hc6
  replace hc7 := later hbL hc7
  replace hc8 := later hbL hc8
  replace hB := hB.trans (hbL.mono hB.size)
  clear hbL
  try simp only [Act.put, List.setIfInBounds_toArray, List.set_cons_zero, List.set_cons_succ]
  rw [wpSched]
  simp only [pick, List.map_nil, Array.getD_eq_getD_getElem?, List.getElem?_toArray, List.getElem?_cons_succ, List.getElem?_cons_zero, Option.getD_some]
  repeat (first | go_big_quiet_step (fail) | quiet_step (fail))
  refine wpQuiet_nil ?_
  refine heavy_want (by rfl) (fun K' hK' => ?_)
  go_simp
  refine (in_any _ _ _ _ _ _ (by assumption) (by assumption)).mono ?_
  rintro e W' ⟨rfl, rfl⟩
  refine hK' _ _ (Below.refl _ _) ?_
  clear hK' K'
  rw [hA]
  try simp only [Act.put, List.setIfInBounds_toArray, List.set_cons_zero, List.set_cons_succ]
  rw [wpSched]
  simp only [pick, List.map_cons, List.map_nil, Array.getD_eq_getD_getElem?, List.getElem?_toArray, List.getElem?_cons_succ, List.getElem?_cons_zero, Option.getD_some]
  have khc1 := plusW_cell hc1
  have khc3 := plusW_cell hc3
  have khc4 := plusW_cell hc4
  have khc5 := plusW_cell hc5
  have khc6 := plusW_cell hc6
  have khc7 := plusW_cell hc7
  have khc8 := plusW_cell hc8
  repeat (first | go_big_quiet_step (fail) | quiet_step (fail))
  refine wpQuiet_nil ?_
  clear khc1 khc3 khc4 khc5 khc6 khc7 khc8
  refine heavy_want (by rfl) (fun K' hK' => ?_)
  go_simp
  refine (in_any _ _ _ _ _ _ (by assumption) (by assumption)).mono ?_
  rintro e W' ⟨rfl, rfl⟩
  refine hK' _ _ (Below.refl _ _) ?_
  clear hK' K'
  rw [hR]
  try simp only [Act.put, List.setIfInBounds_toArray, List.set_cons_zero, List.set_cons_succ]
  rw [wpSched]
  simp only [pick, List.map_cons, List.map_nil, Array.getD_eq_getD_getElem?, List.getElem?_toArray, List.getElem?_cons_succ, List.getElem?_cons_zero, Option.getD_some]
  repeat (first | go_big_quiet_step (fail) | quiet_step (fail))
  refine wpQuiet_nil ?_
  go_wp2
  go_ret
  exact ⟨rfl, hB⟩

set_option maxHeartbeats 1000000 in
theorem valid_b2 (nm : ByteArray) (out : Bool) (size refresh : Int) (a : Option Addr) (len cap : Nat) (at_ : Int) (w : World) (hA : (decide ((1 : Int) ≤ size) && decide (size ≤ 64)) = true) (hR : (decide ((0 : Int) ≤ refresh) && decide (refresh ≤ 1073741824)) = true) (hl : (at_ == 0) = false) (h0 : len = 0) :
    Calls Try.prog 20 #[.agg #[.string nm, .int .u8 1, .bool out, .int .i64 size, .int .i64 0, .int .i64 refresh, .slice a len cap, .int .i64 at_, .bool false]] w fun e w' =>
      e = .returned (.bool false) ∧ Below w.heap.size w w' := by
  go_enter Try.func20, Try.ntmps20
  go_wp2_with (go_at_call 23; refine (within_any _ _ _).mono ?_; rintro e w1 ⟨ta, tb, rfl, hta, htb, hbL⟩)
  have hB := ((Below.refl _ w).alloc (Nat.le_refl _) _).trans (hbL.mono (by simp))
  have hc1 := later hbL (show (w.alloc _).cell? ⟨w.heap.size, 1, none⟩ = some (.int .u8 1) by go_simp)
  have hc3 := later hbL (show (w.alloc _).cell? ⟨w.heap.size, 3, none⟩ = some (.int .i64 size) by go_simp)
  have hc4 := later hbL (show (w.alloc _).cell? ⟨w.heap.size, 4, none⟩ = some (.int .i64 0) by go_simp)
  have hc5 := later hbL (show (w.alloc _).cell? ⟨w.heap.size, 5, none⟩ = some (.int .i64 refresh) by go_simp)
  have hc6 := later hbL (show (w.alloc _).cell? ⟨w.heap.size, 6, none⟩ = some (.slice a len cap) by go_simp)
  have hc7 := later hbL (show (w.alloc _).cell? ⟨w.heap.size, 7, none⟩ = some (.int .i64 at_) by go_simp)
  have hc8 := later hbL (show (w.alloc _).cell? ⟨w.heap.size, 8, none⟩ = some (.bool false) by go_simp)
  clear hbL
  refine wp_region_sched (fun W => Below w.heap.size w W ∧ W.cell? ta = some (.int .i64 0) ∧ W.cell? tb = some (.int .i64 1073741824) ∧ W.cell? ⟨w.heap.size, 1, none⟩ = some (.int .u8 1) ∧ W.cell? ⟨w.heap.size, 3, none⟩ = some (.int .i64 size) ∧ W.cell? ⟨w.heap.size, 4, none⟩ = some (.int .i64 0) ∧ W.cell? ⟨w.heap.size, 5, none⟩ = some (.int .i64 refresh) ∧ W.cell? ⟨w.heap.size, 6, none⟩ = some (.slice a len cap) ∧ W.cell? ⟨w.heap.size, 7, none⟩ = some (.int .i64 at_) ∧ W.cell? ⟨w.heap.size, 8, none⟩ = some (.bool false)) (.one [0, 1, 2, 3, 4, 5, 6, 7, 8, 9, 10, 12, 13, 14] 11 (.one [] 15 (.one [16, 17, 18, 19, 20, 21, 22] 23 (.done [24, 25])))) (by kernel_rfl) (by kernel_rfl) (fun _ _ _ _ _ h => h) ⟨hB.drew, hta, htb, hc1, hc3, hc4, hc5, hc6, hc7, hc8⟩ ?_
  clear hB hta htb hc1 hc3 hc4 hc5 hc6 hc7 hc8
  rintro W ⟨hB, hta, htb, hc1, hc3, hc4, hc5, hc6, hc7, hc8⟩
  subst h0
  rw [wpSched]
  simp only [pick, List.map_cons, List.map_nil, Array.getD_eq_getD_getElem?, List.getElem?_toArray, List.getElem?_cons_succ, List.getElem?_cons_zero, Option.getD_some]
  have khc1 := plusW_cell hc1
  have khc3 := plusW_cell hc3
  have khc4 := plusW_cell hc4
  have khc5 := plusW_cell hc5
  have khc6 := plusW_cell hc6
  have khc7 := plusW_cell hc7
  have khc8 := plusW_cell hc8
  repeat (first | go_big_quiet_step (fail) | quiet_step (fail))
  refine wpQuiet_nil ?_
  clear khc1 khc3 khc4 khc5 khc6 khc7 khc8
  refine heavy_want (by rfl) (fun K' hK' => ?_)
  go_simp
  refine (within_any _ _ _).mono ?_
  rintro e W1 ⟨ca, cb, rfl, hca, hcb, hbL⟩
  refine hK' _ _ hbL ?_
  clear hK' K'
  replace hta := later hbL hta
  replace htb := later hbL htb
  replace hc1 := later hbL hc1
  replace hc3 := later hbL hc3
  replace hc4 := later hbL hc4
  replace hc5 := later hbL hc5
  replace hc6 := later hbL hc6
  replace hc7 := later hbL hc7
  replace hc8 := later hbL hc8
  replace hB := hB.trans (hbL.mono hB.size)
  clear hbL
  try simp only [Act.put, List.setIfInBounds_toArray, List.set_cons_zero, List.set_cons_succ]
  rw [wpSched]
  simp only [pick, List.map_nil, Array.getD_eq_getD_getElem?, List.getElem?_toArray, List.getElem?_cons_succ, List.getElem?_cons_zero, Option.getD_some]
  repeat (first | go_big_quiet_step (fail) | quiet_step (fail))
  refine wpQuiet_nil ?_
  refine heavy_want (by rfl) (fun K' hK' => ?_)
  go_simp
  refine (in_any _ _ _ _ _ _ (by assumption) (by assumption)).mono ?_
  rintro e W' ⟨rfl, rfl⟩
  refine hK' _ _ (Below.refl _ _) ?_
  clear hK' K'
  rw [hA]
  try simp only [Act.put, List.setIfInBounds_toArray, List.set_cons_zero, List.set_cons_succ]
  rw [wpSched]
  simp only [pick, List.map_cons, List.map_nil, Array.getD_eq_getD_getElem?, List.getElem?_toArray, List.getElem?_cons_succ, List.getElem?_cons_zero, Option.getD_some]
  have khc1 := plusW_cell hc1
  have khc3 := plusW_cell hc3
  have khc4 := plusW_cell hc4
  have khc5 := plusW_cell hc5
  have khc6 := plusW_cell hc6
  have khc7 := plusW_cell hc7
  have khc8 := plusW_cell hc8
  repeat (first | go_big_quiet_step (fail) | quiet_step (fail))
  refine wpQuiet_nil ?_
  clear khc1 khc3 khc4 khc5 khc6 khc7 khc8
  refine heavy_want (by rfl) (fun K' hK' => ?_)
  go_simp
  refine (in_any _ _ _ _ _ _ (by assumption) (by assumption)).mono ?_
  rintro e W' ⟨rfl, rfl⟩
  refine hK' _ _ (Below.refl _ _) ?_
  clear hK' K'
  rw [hR]
  try simp only [Act.put, List.setIfInBounds_toArray, List.set_cons_zero, List.set_cons_succ]
  rw [wpSched]
  simp only [pick, List.map_cons, List.map_nil, Array.getD_eq_getD_getElem?, List.getElem?_toArray, List.getElem?_cons_succ, List.getElem?_cons_zero, Option.getD_some]
  repeat (first | go_big_quiet_step (fail) | quiet_step (fail))
  refine wpQuiet_nil ?_
  go_wp2
  go_ret
  exact ⟨rfl, hB⟩

set_option maxHeartbeats 1000000 in
theorem valid_b3 (nm : ByteArray) (out : Bool) (size refresh : Int) (a : Option Addr) (len cap : Nat) (at_ : Int) (w : World) (hA : (decide ((1 : Int) ≤ size) && decide (size ≤ 64)) = true) (hR : (decide ((0 : Int) ≤ refresh) && decide (refresh ≤ 1073741824)) = true) (hl : (at_ == 0) = true) (h0 : len = 0) :
    Calls Try.prog 20 #[.agg #[.string nm, .int .u8 1, .bool out, .int .i64 size, .int .i64 0, .int .i64 refresh, .slice a len cap, .int .i64 at_, .bool false]] w fun e w' =>
      e = .returned (.bool true) ∧ Below w.heap.size w w' := by
  go_enter Try.func20, Try.ntmps20
  go_wp2_with (go_at_call 23; refine (within_any _ _ _).mono ?_; rintro e w1 ⟨ta, tb, rfl, hta, htb, hbL⟩)
  have hB := ((Below.refl _ w).alloc (Nat.le_refl _) _).trans (hbL.mono (by simp))
  have hc1 := later hbL (show (w.alloc _).cell? ⟨w.heap.size, 1, none⟩ = some (.int .u8 1) by go_simp)
  have hc3 := later hbL (show (w.alloc _).cell? ⟨w.heap.size, 3, none⟩ = some (.int .i64 size) by go_simp)
  have hc4 := later hbL (show (w.alloc _).cell? ⟨w.heap.size, 4, none⟩ = some (.int .i64 0) by go_simp)
  have hc5 := later hbL (show (w.alloc _).cell? ⟨w.heap.size, 5, none⟩ = some (.int .i64 refresh) by go_simp)
  have hc6 := later hbL (show (w.alloc _).cell? ⟨w.heap.size, 6, none⟩ = some (.slice a len cap) by go_simp)
  have hc7 := later hbL (show (w.alloc _).cell? ⟨w.heap.size, 7, none⟩ = some (.int .i64 at_) by go_simp)
  have hc8 := later hbL (show (w.alloc _).cell? ⟨w.heap.size, 8, none⟩ = some (.bool false) by go_simp)
  clear hbL
  refine wp_region_sched (fun W => Below w.heap.size w W ∧ W.cell? ta = some (.int .i64 0) ∧ W.cell? tb = some (.int .i64 1073741824) ∧ W.cell? ⟨w.heap.size, 1, none⟩ = some (.int .u8 1) ∧ W.cell? ⟨w.heap.size, 3, none⟩ = some (.int .i64 size) ∧ W.cell? ⟨w.heap.size, 4, none⟩ = some (.int .i64 0) ∧ W.cell? ⟨w.heap.size, 5, none⟩ = some (.int .i64 refresh) ∧ W.cell? ⟨w.heap.size, 6, none⟩ = some (.slice a len cap) ∧ W.cell? ⟨w.heap.size, 7, none⟩ = some (.int .i64 at_) ∧ W.cell? ⟨w.heap.size, 8, none⟩ = some (.bool false)) (.one [0, 1, 2, 3, 4, 5, 6, 7, 8, 9, 10, 12, 13, 14] 11 (.one [] 15 (.one [16, 17, 18, 19, 20, 21, 22] 23 (.done [24, 25])))) (by kernel_rfl) (by kernel_rfl) (fun _ _ _ _ _ h => h) ⟨hB.drew, hta, htb, hc1, hc3, hc4, hc5, hc6, hc7, hc8⟩ ?_
  clear hB hta htb hc1 hc3 hc4 hc5 hc6 hc7 hc8
  rintro W ⟨hB, hta, htb, hc1, hc3, hc4, hc5, hc6, hc7, hc8⟩
  subst h0
  rw [wpSched]
  simp only [pick, List.map_cons, List.map_nil, Array.getD_eq_getD_getElem?, List.getElem?_toArray, List.getElem?_cons_succ, List.getElem?_cons_zero, Option.getD_some]
  have khc1 := plusW_cell hc1
  have khc3 := plusW_cell hc3
  have khc4 := plusW_cell hc4
  have khc5 := plusW_cell hc5
  have khc6 := plusW_cell hc6
  have khc7 := plusW_cell hc7
  have khc8 := plusW_cell hc8
  repeat (first | go_big_quiet_step (fail) | quiet_step (fail))
  refine wpQuiet_nil ?_
  clear khc1 khc3 khc4 khc5 khc6 khc7 khc8
  refine heavy_want (by rfl) (fun K' hK' => ?_)
  go_simp
  refine (within_any _ _ _).mono ?_
  rintro e W1 ⟨ca, cb, rfl, hca, hcb, hbL⟩
  refine hK' _ _ hbL ?_
  clear hK' K'
  replace hta := later hbL hta
  replace htb := later hbL htb
  replace hc1 := later hbL hc1
  replace hc3 := later hbL hc3
  replace hc4 := later hbL hc4
  replace hc5 := later hbL hc5
  replace hc6 := later hbL hc6
  replace hc7 := later hbL hc7
  replace hc8 := later hbL hc8
  replace hB := hB.trans (hbL.mono hB.size)
  clear hbL
  try simp only [Act.put, List.setIfInBounds_toArray, List.set_cons_zero, List.set_cons_succ]
  rw [wpSched]
  simp only [pick, List.map_nil, Array.getD_eq_getD_getElem?, List.getElem?_toArray, List.getElem?_cons_succ, List.getElem?_cons_zero, Option.getD_some]
  repeat (first | go_big_quiet_step (fail) | quiet_step (fail))
  refine wpQuiet_nil ?_
  refine heavy_want (by rfl) (fun K' hK' => ?_)
  go_simp
  refine (in_any _ _ _ _ _ _ (by assumption) (by assumption)).mono ?_
  rintro e W' ⟨rfl, rfl⟩
  refine hK' _ _ (Below.refl _ _) ?_
  clear hK' K'
  rw [hA]
  try simp only [Act.put, List.setIfInBounds_toArray, List.set_cons_zero, List.set_cons_succ]
  rw [wpSched]
  simp only [pick, List.map_cons, List.map_nil, Array.getD_eq_getD_getElem?, List.getElem?_toArray, List.getElem?_cons_succ, List.getElem?_cons_zero, Option.getD_some]
  have khc1 := plusW_cell hc1
  have khc3 := plusW_cell hc3
  have khc4 := plusW_cell hc4
  have khc5 := plusW_cell hc5
  have khc6 := plusW_cell hc6
  have khc7 := plusW_cell hc7
  have khc8 := plusW_cell hc8
  repeat (first | go_big_quiet_step (fail) | quiet_step (fail))
  refine wpQuiet_nil ?_
  clear khc1 khc3 khc4 khc5 khc6 khc7 khc8
  refine heavy_want (by rfl) (fun K' hK' => ?_)
  go_simp
  refine (in_any _ _ _ _ _ _ (by assumption) (by assumption)).mono ?_
  rintro e W' ⟨rfl, rfl⟩
  refine hK' _ _ (Below.refl _ _) ?_
  clear hK' K'
  rw [hR]
  try simp only [Act.put, List.setIfInBounds_toArray, List.set_cons_zero, List.set_cons_succ]
  rw [wpSched]
  simp only [pick, List.map_cons, List.map_nil, Array.getD_eq_getD_getElem?, List.getElem?_toArray, List.getElem?_cons_succ, List.getElem?_cons_zero, Option.getD_some]
  repeat (first | go_big_quiet_step (fail) | quiet_step (fail))
  refine wpQuiet_nil ?_
  go_wp2
  go_ret
  exact ⟨rfl, hB⟩

set_option maxHeartbeats 1000000 in
theorem valid_f1 (nm : ByteArray) (out : Bool) (size refresh : Int) (a : Option Addr) (len cap : Nat) (at_ : Int) (w : World) (hA : (decide ((1 : Int) ≤ size) && decide (size ≤ 64)) = true) (hR : (decide ((0 : Int) ≤ refresh) && decide (refresh ≤ 1073741824)) = true) (hl : (decide ((1 : Int) ≤ (len : Int)) && decide ((len : Int) ≤ size)) = false) :
    Calls Try.prog 20 #[.agg #[.string nm, .int .u8 1, .bool out, .int .i64 size, .int .i64 0, .int .i64 refresh, .slice a len cap, .int .i64 at_, .bool true]] w fun e w' =>
      e = .returned (.bool false) ∧ Below w.heap.size w w' := by
  go_enter Try.func20, Try.ntmps20
  go_wp2_with (go_at_call 23; refine (within_any _ _ _).mono ?_; rintro e w1 ⟨ta, tb, rfl, hta, htb, hbL⟩)
  have hB := ((Below.refl _ w).alloc (Nat.le_refl _) _).trans (hbL.mono (by simp))
  have hc1 := later hbL (show (w.alloc _).cell? ⟨w.heap.size, 1, none⟩ = some (.int .u8 1) by go_simp)
  have hc3 := later hbL (show (w.alloc _).cell? ⟨w.heap.size, 3, none⟩ = some (.int .i64 size) by go_simp)
  have hc4 := later hbL (show (w.alloc _).cell? ⟨w.heap.size, 4, none⟩ = some (.int .i64 0) by go_simp)
  have hc5 := later hbL (show (w.alloc _).cell? ⟨w.heap.size, 5, none⟩ = some (.int .i64 refresh) by go_simp)
  have hc6 := later hbL (show (w.alloc _).cell? ⟨w.heap.size, 6, none⟩ = some (.slice a len cap) by go_simp)
  have hc7 := later hbL (show (w.alloc _).cell? ⟨w.heap.size, 7, none⟩ = some (.int .i64 at_) by go_simp)
  have hc8 := later hbL (show (w.alloc _).cell? ⟨w.heap.size, 8, none⟩ = some (.bool true) by go_simp)
  clear hbL
  refine wp_region_sched (fun W => Below w.heap.size w W ∧ W.cell? ta = some (.int .i64 0) ∧ W.cell? tb = some (.int .i64 1073741824) ∧ W.cell? ⟨w.heap.size, 1, none⟩ = some (.int .u8 1) ∧ W.cell? ⟨w.heap.size, 3, none⟩ = some (.int .i64 size) ∧ W.cell? ⟨w.heap.size, 4, none⟩ = some (.int .i64 0) ∧ W.cell? ⟨w.heap.size, 5, none⟩ = some (.int .i64 refresh) ∧ W.cell? ⟨w.heap.size, 6, none⟩ = some (.slice a len cap) ∧ W.cell? ⟨w.heap.size, 7, none⟩ = some (.int .i64 at_) ∧ W.cell? ⟨w.heap.size, 8, none⟩ = some (.bool true)) (.one [0, 1, 2, 3, 4, 5, 6, 7, 8, 9, 10, 12, 13, 14] 11 (.one [] 15 (.one [16, 17, 18, 19, 20, 21, 22] 23 (.done [24, 25])))) (by kernel_rfl) (by kernel_rfl) (fun _ _ _ _ _ h => h) ⟨hB.drew, hta, htb, hc1, hc3, hc4, hc5, hc6, hc7, hc8⟩ ?_
  clear hB hta htb hc1 hc3 hc4 hc5 hc6 hc7 hc8
  rintro W ⟨hB, hta, htb, hc1, hc3, hc4, hc5, hc6, hc7, hc8⟩
  rw [wpSched]
  simp only [pick, List.map_cons, List.map_nil, Array.getD_eq_getD_getElem?, List.getElem?_toArray, List.getElem?_cons_succ, List.getElem?_cons_zero, Option.getD_some]
  have khc1 := plusW_cell hc1
  have khc3 := plusW_cell hc3
  have khc4 := plusW_cell hc4
  have khc5 := plusW_cell hc5
  have khc6 := plusW_cell hc6
  have khc7 := plusW_cell hc7
  have khc8 := plusW_cell hc8
  repeat (first | go_big_quiet_step (fail) | quiet_step (fail))
  refine wpQuiet_nil ?_
  clear khc1 khc3 khc4 khc5 khc6 khc7 khc8
  refine heavy_want (by rfl) (fun K' hK' => ?_)
  go_simp
  refine (within_any _ _ _).mono ?_
  rintro e W1 ⟨ca, cb, rfl, hca, hcb, hbL⟩
  refine hK' _ _ hbL ?_
  clear hK' K'
  replace hta := later hbL hta
  replace htb := later hbL htb
  replace hc1 := later hbL hc1
  replace hc3 := later hbL hc3
  replace hc4 := later hbL hc4
  replace hc5 := later hbL hc5
  replace hc6 := later hbL hc6
  replace hc7 := later hbL hc7
  replace hc8 := later hbL hc8
  replace hB := hB.trans (hbL.mono hB.size)
  clear hbL
  try simp only [Act.put, List.setIfInBounds_toArray, List.set_cons_zero, List.set_cons_succ]
  rw [wpSched]
  simp only [pick, List.map_nil, Array.getD_eq_getD_getElem?, List.getElem?_toArray, List.getElem?_cons_succ, List.getElem?_cons_zero, Option.getD_some]
  repeat (first | go_big_quiet_step (fail) | quiet_step (fail))
  refine wpQuiet_nil ?_
  refine heavy_want (by rfl) (fun K' hK' => ?_)
  go_simp
  refine (in_any _ _ _ _ _ _ (by assumption) (by assumption)).mono ?_
  rintro e W' ⟨rfl, rfl⟩
  refine hK' _ _ (Below.refl _ _) ?_
  clear hK' K'
  rw [hA]
  try simp only [Act.put, List.setIfInBounds_toArray, List.set_cons_zero, List.set_cons_succ]
  rw [wpSched]
  simp only [pick, List.map_cons, List.map_nil, Array.getD_eq_getD_getElem?, List.getElem?_toArray, List.getElem?_cons_succ, List.getElem?_cons_zero, Option.getD_some]
  have khc1 := plusW_cell hc1
  have khc3 := plusW_cell hc3
  have khc4 := plusW_cell hc4
  have khc5 := plusW_cell hc5
  have khc6 := plusW_cell hc6
  have khc7 := plusW_cell hc7
  have khc8 := plusW_cell hc8
  repeat (first | go_big_quiet_step (fail) | quiet_step (fail))
  refine wpQuiet_nil ?_
  clear khc1 khc3 khc4 khc5 khc6 khc7 khc8
  refine heavy_want (by rfl) (fun K' hK' => ?_)
  go_simp
  refine (in_any _ _ _ _ _ _ (by assumption) (by assumption)).mono ?_
  rintro e W' ⟨rfl, rfl⟩
  refine hK' _ _ (Below.refl _ _) ?_
  clear hK' K'
  rw [hR]
  try simp only [Act.put, List.setIfInBounds_toArray, List.set_cons_zero, List.set_cons_succ]
  rw [wpSched]
  simp only [pick, List.map_cons, List.map_nil, Array.getD_eq_getD_getElem?, List.getElem?_toArray, List.getElem?_cons_succ, List.getElem?_cons_zero, Option.getD_some]
  repeat (first | go_big_quiet_step (fail) | quiet_step (fail))
  refine wpQuiet_nil ?_
  go_wp2
  refine wp_region_sched (fun W => Below w.heap.size w W ∧ W.cell? ta = some (.int .i64 0) ∧ W.cell? tb = some (.int .i64 1073741824) ∧ W.cell? ⟨w.heap.size, 1, none⟩ = some (.int .u8 1) ∧ W.cell? ⟨w.heap.size, 3, none⟩ = some (.int .i64 size) ∧ W.cell? ⟨w.heap.size, 4, none⟩ = some (.int .i64 0) ∧ W.cell? ⟨w.heap.size, 5, none⟩ = some (.int .i64 refresh) ∧ W.cell? ⟨w.heap.size, 6, none⟩ = some (.slice a len cap) ∧ W.cell? ⟨w.heap.size, 7, none⟩ = some (.int .i64 at_) ∧ W.cell? ⟨w.heap.size, 8, none⟩ = some (.bool true)) (.one [0, 1, 2, 4, 5, 6, 7] 3 (.one [] 8 (.one [9, 10, 11, 12, 13] 14 (.done [15, 16])))) (by kernel_rfl) (by kernel_rfl) (fun _ _ _ _ _ h => h) ⟨hB.drew, hta, htb, hc1, hc3, hc4, hc5, hc6, hc7, hc8⟩ ?_
  clear hB hta htb hc1 hc3 hc4 hc5 hc6 hc7 hc8
  rintro W ⟨hB, hta, htb, hc1, hc3, hc4, hc5, hc6, hc7, hc8⟩
  rw [wpSched]
  simp only [pick, List.map_cons, List.map_nil, Array.getD_eq_getD_getElem?, List.getElem?_toArray, List.getElem?_cons_succ, List.getElem?_cons_zero, Option.getD_some]
  have khc1 := plusW_cell hc1
  have khc3 := plusW_cell hc3
  have khc4 := plusW_cell hc4
  have khc5 := plusW_cell hc5
  have khc6 := plusW_cell hc6
  have khc7 := plusW_cell hc7
  have khc8 := plusW_cell hc8
  repeat (first | go_big_quiet_step (fail) | quiet_step (fail))
  refine wpQuiet_nil ?_
  clear khc1 khc3 khc4 khc5 khc6 khc7 khc8
  refine heavy_want (by rfl) (fun K' hK' => ?_)
  go_simp
  refine (within_any _ _ _).mono ?_
  rintro e W1 ⟨ca, cb, rfl, hca, hcb, hbL⟩
  refine hK' _ _ hbL ?_
  clear hK' K'
  replace hta := later hbL hta
  replace htb := later hbL htb
  replace hc1 := later hbL hc1
  replace hc3 := later hbL hc3
  replace hc4 := later hbL hc4
  replace hc5 := later hbL hc5
  replace hc6 := later hbL hc6
  replace hc7 := later hbL hc7
  replace hc8 := later hbL hc8
  replace hB := hB.trans (hbL.mono hB.size)
  clear hbL
  try simp only [Act.put, List.setIfInBounds_toArray, List.set_cons_zero, List.set_cons_succ]
  rw [wpSched]
  simp only [pick, List.map_nil, Array.getD_eq_getD_getElem?, List.getElem?_toArray, List.getElem?_cons_succ, List.getElem?_cons_zero, Option.getD_some]
  repeat (first | go_big_quiet_step (fail) | quiet_step (fail))
  refine wpQuiet_nil ?_
  refine heavy_want (by rfl) (fun K' hK' => ?_)
  go_simp
  refine (in_any _ _ _ _ _ _ (by assumption) (by assumption)).mono ?_
  rintro e W' ⟨rfl, rfl⟩
  refine hK' _ _ (Below.refl _ _) ?_
  clear hK' K'
  rw [hl]
  try simp only [Act.put, List.setIfInBounds_toArray, List.set_cons_zero, List.set_cons_succ]
  rw [wpSched]
  simp only [pick, List.map_cons, List.map_nil, Array.getD_eq_getD_getElem?, List.getElem?_toArray, List.getElem?_cons_succ, List.getElem?_cons_zero, Option.getD_some]
  have khc1 := plusW_cell hc1
  have khc3 := plusW_cell hc3
  have khc4 := plusW_cell hc4
  have khc5 := plusW_cell hc5
  have khc6 := plusW_cell hc6
  have khc7 := plusW_cell hc7
  have khc8 := plusW_cell hc8
  repeat (first | go_big_quiet_step (fail) | quiet_step (fail))
  refine wpQuiet_nil ?_
  clear khc1 khc3 khc4 khc5 khc6 khc7 khc8
  refine heavy_skip (by rfl) ?_
  try simp only [Act.put, List.setIfInBounds_toArray, List.set_cons_zero, List.set_cons_succ]
  rw [wpSched]
  simp only [pick, List.map_cons, List.map_nil, Array.getD_eq_getD_getElem?, List.getElem?_toArray, List.getElem?_cons_succ, List.getElem?_cons_zero, Option.getD_some]
  repeat (first | go_big_quiet_step (fail) | quiet_step (fail))
  refine wpQuiet_nil ?_
  go_wp2
  go_ret
  exact ⟨rfl, hB⟩

set_option maxHeartbeats 1000000 in
theorem valid_f2 (nm : ByteArray) (out : Bool) (size refresh : Int) (a : Option Addr) (len cap : Nat) (at_ : Int) (w : World) (hA : (decide ((1 : Int) ≤ size) && decide (size ≤ 64)) = true) (hR : (decide ((0 : Int) ≤ refresh) && decide (refresh ≤ 1073741824)) = true) (hl : (decide ((1 : Int) ≤ (len : Int)) && decide ((len : Int) ≤ size)) = true) (hn : (decide ((0 : Int) ≤ at_) && decide (at_ ≤ 1073741824)) = false) :
    Calls Try.prog 20 #[.agg #[.string nm, .int .u8 1, .bool out, .int .i64 size, .int .i64 0, .int .i64 refresh, .slice a len cap, .int .i64 at_, .bool true]] w fun e w' =>
      e = .returned (.bool false) ∧ Below w.heap.size w w' := by
  go_enter Try.func20, Try.ntmps20
  go_wp2_with (go_at_call 23; refine (within_any _ _ _).mono ?_; rintro e w1 ⟨ta, tb, rfl, hta, htb, hbL⟩)
  have hB := ((Below.refl _ w).alloc (Nat.le_refl _) _).trans (hbL.mono (by simp))
  have hc1 := later hbL (show (w.alloc _).cell? ⟨w.heap.size, 1, none⟩ = some (.int .u8 1) by go_simp)
  have hc3 := later hbL (show (w.alloc _).cell? ⟨w.heap.size, 3, none⟩ = some (.int .i64 size) by go_simp)
  have hc4 := later hbL (show (w.alloc _).cell? ⟨w.heap.size, 4, none⟩ = some (.int .i64 0) by go_simp)
  have hc5 := later hbL (show (w.alloc _).cell? ⟨w.heap.size, 5, none⟩ = some (.int .i64 refresh) by go_simp)
  have hc6 := later hbL (show (w.alloc _).cell? ⟨w.heap.size, 6, none⟩ = some (.slice a len cap) by go_simp)
  have hc7 := later hbL (show (w.alloc _).cell? ⟨w.heap.size, 7, none⟩ = some (.int .i64 at_) by go_simp)
  have hc8 := later hbL (show (w.alloc _).cell? ⟨w.heap.size, 8, none⟩ = some (.bool true) by go_simp)
  clear hbL
  refine wp_region_sched (fun W => Below w.heap.size w W ∧ W.cell? ta = some (.int .i64 0) ∧ W.cell? tb = some (.int .i64 1073741824) ∧ W.cell? ⟨w.heap.size, 1, none⟩ = some (.int .u8 1) ∧ W.cell? ⟨w.heap.size, 3, none⟩ = some (.int .i64 size) ∧ W.cell? ⟨w.heap.size, 4, none⟩ = some (.int .i64 0) ∧ W.cell? ⟨w.heap.size, 5, none⟩ = some (.int .i64 refresh) ∧ W.cell? ⟨w.heap.size, 6, none⟩ = some (.slice a len cap) ∧ W.cell? ⟨w.heap.size, 7, none⟩ = some (.int .i64 at_) ∧ W.cell? ⟨w.heap.size, 8, none⟩ = some (.bool true)) (.one [0, 1, 2, 3, 4, 5, 6, 7, 8, 9, 10, 12, 13, 14] 11 (.one [] 15 (.one [16, 17, 18, 19, 20, 21, 22] 23 (.done [24, 25])))) (by kernel_rfl) (by kernel_rfl) (fun _ _ _ _ _ h => h) ⟨hB.drew, hta, htb, hc1, hc3, hc4, hc5, hc6, hc7, hc8⟩ ?_
  clear hB hta htb hc1 hc3 hc4 hc5 hc6 hc7 hc8
  rintro W ⟨hB, hta, htb, hc1, hc3, hc4, hc5, hc6, hc7, hc8⟩
  rw [wpSched]
  simp only [pick, List.map_cons, List.map_nil, Array.getD_eq_getD_getElem?, List.getElem?_toArray, List.getElem?_cons_succ, List.getElem?_cons_zero, Option.getD_some]
  have khc1 := plusW_cell hc1
  have khc3 := plusW_cell hc3
  have khc4 := plusW_cell hc4
  have khc5 := plusW_cell hc5
  have khc6 := plusW_cell hc6
  have khc7 := plusW_cell hc7
  have khc8 := plusW_cell hc8
  repeat (first | go_big_quiet_step (fail) | quiet_step (fail))
  refine wpQuiet_nil ?_
  clear khc1 khc3 khc4 khc5 khc6 khc7 khc8
  refine heavy_want (by rfl) (fun K' hK' => ?_)
  go_simp
  refine (within_any _ _ _).mono ?_
  rintro e W1 ⟨ca, cb, rfl, hca, hcb, hbL⟩
  refine hK' _ _ hbL ?_
  clear hK' K'
  replace hta := later hbL hta
  replace htb := later hbL htb
  replace hc1 := later hbL hc1
  replace hc3 := later hbL hc3
  replace hc4 := later hbL hc4
  replace hc5 := later hbL hc5
  replace hc6 := later hbL hc6
  replace hc7 := later hbL hc7
  replace hc8 := later hbL hc8
  replace hB := hB.trans (hbL.mono hB.size)
  clear hbL
  try simp only [Act.put, List.setIfInBounds_toArray, List.set_cons_zero, List.set_cons_succ]
  rw [wpSched]
  simp only [pick, List.map_nil, Array.getD_eq_getD_getElem?, List.getElem?_toArray, List.getElem?_cons_succ, List.getElem?_cons_zero, Option.getD_some]
  repeat (first | go_big_quiet_step (fail) | quiet_step (fail))
  refine wpQuiet_nil ?_
  refine heavy_want (by rfl) (fun K' hK' => ?_)
  go_simp
  refine (in_any _ _ _ _ _ _ (by assumption) (by assumption)).mono ?_
  rintro e W' ⟨rfl, rfl⟩
  refine hK' _ _ (Below.refl _ _) ?_
  clear hK' K'
  rw [hA]
  try simp only [Act.put, List.setIfInBounds_toArray, List.set_cons_zero, List.set_cons_succ]
  rw [wpSched]
  simp only [pick, List.map_cons, List.map_nil, Array.getD_eq_getD_getElem?, List.getElem?_toArray, List.getElem?_cons_succ, List.getElem?_cons_zero, Option.getD_some]
  have khc1 := plusW_cell hc1
  have khc3 := plusW_cell hc3
  have khc4 := plusW_cell hc4
  have khc5 := plusW_cell hc5
  have khc6 := plusW_cell hc6
  have khc7 := plusW_cell hc7
  have khc8 := plusW_cell hc8
  repeat (first | go_big_quiet_step (fail) | quiet_step (fail))
  refine wpQuiet_nil ?_
  clear khc1 khc3 khc4 khc5 khc6 khc7 khc8
  refine heavy_want (by rfl) (fun K' hK' => ?_)
  go_simp
  refine (in_any _ _ _ _ _ _ (by assumption) (by assumption)).mono ?_
  rintro e W' ⟨rfl, rfl⟩
  refine hK' _ _ (Below.refl _ _) ?_
  clear hK' K'
  rw [hR]
  try simp only [Act.put, List.setIfInBounds_toArray, List.set_cons_zero, List.set_cons_succ]
  rw [wpSched]
  simp only [pick, List.map_cons, List.map_nil, Array.getD_eq_getD_getElem?, List.getElem?_toArray, List.getElem?_cons_succ, List.getElem?_cons_zero, Option.getD_some]
  repeat (first | go_big_quiet_step (fail) | quiet_step (fail))
  refine wpQuiet_nil ?_
  go_wp2
  refine wp_region_sched (fun W => Below w.heap.size w W ∧ W.cell? ta = some (.int .i64 0) ∧ W.cell? tb = some (.int .i64 1073741824) ∧ W.cell? ⟨w.heap.size, 1, none⟩ = some (.int .u8 1) ∧ W.cell? ⟨w.heap.size, 3, none⟩ = some (.int .i64 size) ∧ W.cell? ⟨w.heap.size, 4, none⟩ = some (.int .i64 0) ∧ W.cell? ⟨w.heap.size, 5, none⟩ = some (.int .i64 refresh) ∧ W.cell? ⟨w.heap.size, 6, none⟩ = some (.slice a len cap) ∧ W.cell? ⟨w.heap.size, 7, none⟩ = some (.int .i64 at_) ∧ W.cell? ⟨w.heap.size, 8, none⟩ = some (.bool true)) (.one [0, 1, 2, 4, 5, 6, 7] 3 (.one [] 8 (.one [9, 10, 11, 12, 13] 14 (.done [15, 16])))) (by kernel_rfl) (by kernel_rfl) (fun _ _ _ _ _ h => h) ⟨hB.drew, hta, htb, hc1, hc3, hc4, hc5, hc6, hc7, hc8⟩ ?_
  clear hB hta htb hc1 hc3 hc4 hc5 hc6 hc7 hc8
  rintro W ⟨hB, hta, htb, hc1, hc3, hc4, hc5, hc6, hc7, hc8⟩
  rw [wpSched]
  simp only [pick, List.map_cons, List.map_nil, Array.getD_eq_getD_getElem?, List.getElem?_toArray, List.getElem?_cons_succ, List.getElem?_cons_zero, Option.getD_some]
  have khc1 := plusW_cell hc1
  have khc3 := plusW_cell hc3
  have khc4 := plusW_cell hc4
  have khc5 := plusW_cell hc5
  have khc6 := plusW_cell hc6
  have khc7 := plusW_cell hc7
  have khc8 := plusW_cell hc8
  repeat (first | go_big_quiet_step (fail) | quiet_step (fail))
  refine wpQuiet_nil ?_
  clear khc1 khc3 khc4 khc5 khc6 khc7 khc8
  refine heavy_want (by rfl) (fun K' hK' => ?_)
  go_simp
  refine (within_any _ _ _).mono ?_
  rintro e W1 ⟨ca, cb, rfl, hca, hcb, hbL⟩
  refine hK' _ _ hbL ?_
  clear hK' K'
  replace hta := later hbL hta
  replace htb := later hbL htb
  replace hc1 := later hbL hc1
  replace hc3 := later hbL hc3
  replace hc4 := later hbL hc4
  replace hc5 := later hbL hc5
  replace hc6 := later hbL hc6
  replace hc7 := later hbL hc7
  replace hc8 := later hbL hc8
  replace hB := hB.trans (hbL.mono hB.size)
  clear hbL
  try simp only [Act.put, List.setIfInBounds_toArray, List.set_cons_zero, List.set_cons_succ]
  rw [wpSched]
  simp only [pick, List.map_nil, Array.getD_eq_getD_getElem?, List.getElem?_toArray, List.getElem?_cons_succ, List.getElem?_cons_zero, Option.getD_some]
  repeat (first | go_big_quiet_step (fail) | quiet_step (fail))
  refine wpQuiet_nil ?_
  refine heavy_want (by rfl) (fun K' hK' => ?_)
  go_simp
  refine (in_any _ _ _ _ _ _ (by assumption) (by assumption)).mono ?_
  rintro e W' ⟨rfl, rfl⟩
  refine hK' _ _ (Below.refl _ _) ?_
  clear hK' K'
  rw [hl]
  try simp only [Act.put, List.setIfInBounds_toArray, List.set_cons_zero, List.set_cons_succ]
  rw [wpSched]
  simp only [pick, List.map_cons, List.map_nil, Array.getD_eq_getD_getElem?, List.getElem?_toArray, List.getElem?_cons_succ, List.getElem?_cons_zero, Option.getD_some]
  have khc1 := plusW_cell hc1
  have khc3 := plusW_cell hc3
  have khc4 := plusW_cell hc4
  have khc5 := plusW_cell hc5
  have khc6 := plusW_cell hc6
  have khc7 := plusW_cell hc7
  have khc8 := plusW_cell hc8
  repeat (first | go_big_quiet_step (fail) | quiet_step (fail))
  refine wpQuiet_nil ?_
  clear khc1 khc3 khc4 khc5 khc6 khc7 khc8
  refine heavy_want (by rfl) (fun K' hK' => ?_)
  go_simp
  refine (in_any _ _ _ _ _ _ (by assumption) (by assumption)).mono ?_
  rintro e W' ⟨rfl, rfl⟩
  refine hK' _ _ (Below.refl _ _) ?_
  clear hK' K'
  rw [hn]
  try simp only [Act.put, List.setIfInBounds_toArray, List.set_cons_zero, List.set_cons_succ]
  rw [wpSched]
  simp only [pick, List.map_cons, List.map_nil, Array.getD_eq_getD_getElem?, List.getElem?_toArray, List.getElem?_cons_succ, List.getElem?_cons_zero, Option.getD_some]
  repeat (first | go_big_quiet_step (fail) | quiet_step (fail))
  refine wpQuiet_nil ?_
  go_wp2
  go_ret
  exact ⟨rfl, hB⟩

set_option maxHeartbeats 1000000 in
theorem valid_f3 (nm : ByteArray) (out : Bool) (size refresh : Int) (a : Option Addr) (len cap : Nat) (at_ : Int) (w : World) (hA : (decide ((1 : Int) ≤ size) && decide (size ≤ 64)) = true) (hR : (decide ((0 : Int) ≤ refresh) && decide (refresh ≤ 1073741824)) = true) (hl : (decide ((1 : Int) ≤ (len : Int)) && decide ((len : Int) ≤ size)) = true) (hn : (decide ((0 : Int) ≤ at_) && decide (at_ ≤ 1073741824)) = true) :
    Calls Try.prog 20 #[.agg #[.string nm, .int .u8 1, .bool out, .int .i64 size, .int .i64 0, .int .i64 refresh, .slice a len cap, .int .i64 at_, .bool true]] w fun e w' =>
      e = .returned (.bool true) ∧ Below w.heap.size w w' := by
  go_enter Try.func20, Try.ntmps20
  go_wp2_with (go_at_call 23; refine (within_any _ _ _).mono ?_; rintro e w1 ⟨ta, tb, rfl, hta, htb, hbL⟩)
  have hB := ((Below.refl _ w).alloc (Nat.le_refl _) _).trans (hbL.mono (by simp))
  have hc1 := later hbL (show (w.alloc _).cell? ⟨w.heap.size, 1, none⟩ = some (.int .u8 1) by go_simp)
  have hc3 := later hbL (show (w.alloc _).cell? ⟨w.heap.size, 3, none⟩ = some (.int .i64 size) by go_simp)
  have hc4 := later hbL (show (w.alloc _).cell? ⟨w.heap.size, 4, none⟩ = some (.int .i64 0) by go_simp)
  have hc5 := later hbL (show (w.alloc _).cell? ⟨w.heap.size, 5, none⟩ = some (.int .i64 refresh) by go_simp)
  have hc6 := later hbL (show (w.alloc _).cell? ⟨w.heap.size, 6, none⟩ = some (.slice a len cap) by go_simp)
  have hc7 := later hbL (show (w.alloc _).cell? ⟨w.heap.size, 7, none⟩ = some (.int .i64 at_) by go_simp)
  have hc8 := later hbL (show (w.alloc _).cell? ⟨w.heap.size, 8, none⟩ = some (.bool true) by go_simp)
  clear hbL
  refine wp_region_sched (fun W => Below w.heap.size w W ∧ W.cell? ta = some (.int .i64 0) ∧ W.cell? tb = some (.int .i64 1073741824) ∧ W.cell? ⟨w.heap.size, 1, none⟩ = some (.int .u8 1) ∧ W.cell? ⟨w.heap.size, 3, none⟩ = some (.int .i64 size) ∧ W.cell? ⟨w.heap.size, 4, none⟩ = some (.int .i64 0) ∧ W.cell? ⟨w.heap.size, 5, none⟩ = some (.int .i64 refresh) ∧ W.cell? ⟨w.heap.size, 6, none⟩ = some (.slice a len cap) ∧ W.cell? ⟨w.heap.size, 7, none⟩ = some (.int .i64 at_) ∧ W.cell? ⟨w.heap.size, 8, none⟩ = some (.bool true)) (.one [0, 1, 2, 3, 4, 5, 6, 7, 8, 9, 10, 12, 13, 14] 11 (.one [] 15 (.one [16, 17, 18, 19, 20, 21, 22] 23 (.done [24, 25])))) (by kernel_rfl) (by kernel_rfl) (fun _ _ _ _ _ h => h) ⟨hB.drew, hta, htb, hc1, hc3, hc4, hc5, hc6, hc7, hc8⟩ ?_
  clear hB hta htb hc1 hc3 hc4 hc5 hc6 hc7 hc8
  rintro W ⟨hB, hta, htb, hc1, hc3, hc4, hc5, hc6, hc7, hc8⟩
  rw [wpSched]
  simp only [pick, List.map_cons, List.map_nil, Array.getD_eq_getD_getElem?, List.getElem?_toArray, List.getElem?_cons_succ, List.getElem?_cons_zero, Option.getD_some]
  have khc1 := plusW_cell hc1
  have khc3 := plusW_cell hc3
  have khc4 := plusW_cell hc4
  have khc5 := plusW_cell hc5
  have khc6 := plusW_cell hc6
  have khc7 := plusW_cell hc7
  have khc8 := plusW_cell hc8
  repeat (first | go_big_quiet_step (fail) | quiet_step (fail))
  refine wpQuiet_nil ?_
  clear khc1 khc3 khc4 khc5 khc6 khc7 khc8
  refine heavy_want (by rfl) (fun K' hK' => ?_)
  go_simp
  refine (within_any _ _ _).mono ?_
  rintro e W1 ⟨ca, cb, rfl, hca, hcb, hbL⟩
  refine hK' _ _ hbL ?_
  clear hK' K'
  replace hta := later hbL hta
  replace htb := later hbL htb
  replace hc1 := later hbL hc1
  replace hc3 := later hbL hc3
  replace hc4 := later hbL hc4
  replace hc5 := later hbL hc5
  replace hc6 := later hbL hc6
  replace hc7 := later hbL hc7
  replace hc8 := later hbL hc8
  replace hB := hB.trans (hbL.mono hB.size)
  clear hbL
  try simp only [Act.put, List.setIfInBounds_toArray, List.set_cons_zero, List.set_cons_succ]
  rw [wpSched]
  simp only [pick, List.map_nil, Array.getD_eq_getD_getElem?, List.getElem?_toArray, List.getElem?_cons_succ, List.getElem?_cons_zero, Option.getD_some]
  repeat (first | go_big_quiet_step (fail) | quiet_step (fail))
  refine wpQuiet_nil ?_
  refine heavy_want (by rfl) (fun K' hK' => ?_)
  go_simp
  refine (in_any _ _ _ _ _ _ (by assumption) (by assumption)).mono ?_
  rintro e W' ⟨rfl, rfl⟩
  refine hK' _ _ (Below.refl _ _) ?_
  clear hK' K'
  rw [hA]
  try simp only [Act.put, List.setIfInBounds_toArray, List.set_cons_zero, List.set_cons_succ]
  rw [wpSched]
  simp only [pick, List.map_cons, List.map_nil, Array.getD_eq_getD_getElem?, List.getElem?_toArray, List.getElem?_cons_succ, List.getElem?_cons_zero, Option.getD_some]
  have khc1 := plusW_cell hc1
  have khc3 := plusW_cell hc3
  have khc4 := plusW_cell hc4
  have khc5 := plusW_cell hc5
  have khc6 := plusW_cell hc6
  have khc7 := plusW_cell hc7
  have khc8 := plusW_cell hc8
  repeat (first | go_big_quiet_step (fail) | quiet_step (fail))
  refine wpQuiet_nil ?_
  clear khc1 khc3 khc4 khc5 khc6 khc7 khc8
  refine heavy_want (by rfl) (fun K' hK' => ?_)
  go_simp
  refine (in_any _ _ _ _ _ _ (by assumption) (by assumption)).mono ?_
  rintro e W' ⟨rfl, rfl⟩
  refine hK' _ _ (Below.refl _ _) ?_
  clear hK' K'
  rw [hR]
  try simp only [Act.put, List.setIfInBounds_toArray, List.set_cons_zero, List.set_cons_succ]
  rw [wpSched]
  simp only [pick, List.map_cons, List.map_nil, Array.getD_eq_getD_getElem?, List.getElem?_toArray, List.getElem?_cons_succ, List.getElem?_cons_zero, Option.getD_some]
  repeat (first | go_big_quiet_step (fail) | quiet_step (fail))
  refine wpQuiet_nil ?_
  go_wp2
  refine wp_region_sched (fun W => Below w.heap.size w W ∧ W.cell? ta = some (.int .i64 0) ∧ W.cell? tb = some (.int .i64 1073741824) ∧ W.cell? ⟨w.heap.size, 1, none⟩ = some (.int .u8 1) ∧ W.cell? ⟨w.heap.size, 3, none⟩ = some (.int .i64 size) ∧ W.cell? ⟨w.heap.size, 4, none⟩ = some (.int .i64 0) ∧ W.cell? ⟨w.heap.size, 5, none⟩ = some (.int .i64 refresh) ∧ W.cell? ⟨w.heap.size, 6, none⟩ = some (.slice a len cap) ∧ W.cell? ⟨w.heap.size, 7, none⟩ = some (.int .i64 at_) ∧ W.cell? ⟨w.heap.size, 8, none⟩ = some (.bool true)) (.one [0, 1, 2, 4, 5, 6, 7] 3 (.one [] 8 (.one [9, 10, 11, 12, 13] 14 (.done [15, 16])))) (by kernel_rfl) (by kernel_rfl) (fun _ _ _ _ _ h => h) ⟨hB.drew, hta, htb, hc1, hc3, hc4, hc5, hc6, hc7, hc8⟩ ?_
  clear hB hta htb hc1 hc3 hc4 hc5 hc6 hc7 hc8
  rintro W ⟨hB, hta, htb, hc1, hc3, hc4, hc5, hc6, hc7, hc8⟩
  rw [wpSched]
  simp only [pick, List.map_cons, List.map_nil, Array.getD_eq_getD_getElem?, List.getElem?_toArray, List.getElem?_cons_succ, List.getElem?_cons_zero, Option.getD_some]
  have khc1 := plusW_cell hc1
  have khc3 := plusW_cell hc3
  have khc4 := plusW_cell hc4
  have khc5 := plusW_cell hc5
  have khc6 := plusW_cell hc6
  have khc7 := plusW_cell hc7
  have khc8 := plusW_cell hc8
  repeat (first | go_big_quiet_step (fail) | quiet_step (fail))
  refine wpQuiet_nil ?_
  clear khc1 khc3 khc4 khc5 khc6 khc7 khc8
  refine heavy_want (by rfl) (fun K' hK' => ?_)
  go_simp
  refine (within_any _ _ _).mono ?_
  rintro e W1 ⟨ca, cb, rfl, hca, hcb, hbL⟩
  refine hK' _ _ hbL ?_
  clear hK' K'
  replace hta := later hbL hta
  replace htb := later hbL htb
  replace hc1 := later hbL hc1
  replace hc3 := later hbL hc3
  replace hc4 := later hbL hc4
  replace hc5 := later hbL hc5
  replace hc6 := later hbL hc6
  replace hc7 := later hbL hc7
  replace hc8 := later hbL hc8
  replace hB := hB.trans (hbL.mono hB.size)
  clear hbL
  try simp only [Act.put, List.setIfInBounds_toArray, List.set_cons_zero, List.set_cons_succ]
  rw [wpSched]
  simp only [pick, List.map_nil, Array.getD_eq_getD_getElem?, List.getElem?_toArray, List.getElem?_cons_succ, List.getElem?_cons_zero, Option.getD_some]
  repeat (first | go_big_quiet_step (fail) | quiet_step (fail))
  refine wpQuiet_nil ?_
  refine heavy_want (by rfl) (fun K' hK' => ?_)
  go_simp
  refine (in_any _ _ _ _ _ _ (by assumption) (by assumption)).mono ?_
  rintro e W' ⟨rfl, rfl⟩
  refine hK' _ _ (Below.refl _ _) ?_
  clear hK' K'
  rw [hl]
  try simp only [Act.put, List.setIfInBounds_toArray, List.set_cons_zero, List.set_cons_succ]
  rw [wpSched]
  simp only [pick, List.map_cons, List.map_nil, Array.getD_eq_getD_getElem?, List.getElem?_toArray, List.getElem?_cons_succ, List.getElem?_cons_zero, Option.getD_some]
  have khc1 := plusW_cell hc1
  have khc3 := plusW_cell hc3
  have khc4 := plusW_cell hc4
  have khc5 := plusW_cell hc5
  have khc6 := plusW_cell hc6
  have khc7 := plusW_cell hc7
  have khc8 := plusW_cell hc8
  repeat (first | go_big_quiet_step (fail) | quiet_step (fail))
  refine wpQuiet_nil ?_
  clear khc1 khc3 khc4 khc5 khc6 khc7 khc8
  refine heavy_want (by rfl) (fun K' hK' => ?_)
  go_simp
  refine (in_any _ _ _ _ _ _ (by assumption) (by assumption)).mono ?_
  rintro e W' ⟨rfl, rfl⟩
  refine hK' _ _ (Below.refl _ _) ?_
  clear hK' K'
  rw [hn]
  try simp only [Act.put, List.setIfInBounds_toArray, List.set_cons_zero, List.set_cons_succ]
  rw [wpSched]
  simp only [pick, List.map_cons, List.map_nil, Array.getD_eq_getD_getElem?, List.getElem?_toArray, List.getElem?_cons_succ, List.getElem?_cons_zero, Option.getD_some]
  repeat (first | go_big_quiet_step (fail) | quiet_step (fail))
  refine wpQuiet_nil ?_
  go_wp2
  go_ret
  exact ⟨rfl, hB⟩

theorem valid_any (nm : ByteArray) (kind : Int) (out : Bool) (size depth refresh : Int) (a : Option Addr) (len cap : Nat) (at_ : Int) (has : Bool) (w : World) :
    Calls Try.prog 20 #[.agg #[.string nm, .int .u8 kind, .bool out, .int .i64 size, .int .i64 depth, .int .i64 refresh, .slice a len cap, .int .i64 at_, .bool has]] w fun e w' =>
      e = .returned (.bool (Smp.validB kind size depth refresh len at_ has)) ∧ Below w.heap.size w w' := by
  by_cases h1 : kind = 1
  · subst h1
    by_cases h2 : depth = 0
    · subst h2
      cases h3 : (decide ((1 : Int) ≤ size) && decide (size ≤ 64)) with
      | false => rw [Smp.valid_no3 (by simpa using h3)]; exact valid_k3 nm out size refresh a len cap at_ has w h3
      | true =>
        cases h4 : (decide ((0 : Int) ≤ refresh) && decide (refresh ≤ 1073741824)) with
        | false => rw [Smp.valid_no4 (by simpa using h4)]; exact valid_k4 nm out size refresh a len cap at_ has w h3 h4
        | true =>
          have h3' := h3
          have h4' := h4
          simp only [Bool.and_eq_true, decide_eq_true_eq] at h3' h4'
          cases has with
          | false =>
            rw [Smp.valid_bare h3'.1 h3'.2 h4'.1 h4'.2]
            by_cases h5 : len = 0
            · cases h6 : (at_ == 0) with
              | false => rw [show (decide (len = 0) && decide (at_ = 0)) = false by simp at h6; simp [h6]]; exact valid_b2 nm out size refresh a len cap at_ w h3 h4 h6 h5
              | true => rw [show (decide (len = 0) && decide (at_ = 0)) = true by simp at h6; simp [h6, h5]]; exact valid_b3 nm out size refresh a len cap at_ w h3 h4 h6 h5
            · rw [show (decide (len = 0) && decide (at_ = 0)) = false by simp [h5]]
              exact valid_b1 nm out size refresh a len cap at_ w h3 h4 (by simp; omega)
          | true =>
            rw [Smp.valid_full h3'.1 h3'.2 h4'.1 h4'.2]
            cases h5 : (decide ((1 : Int) ≤ (len : Int)) && decide ((len : Int) ≤ size)) with
            | false =>
              rw [show decide (1 ≤ len ∧ (len : Int) ≤ size) = false by simp at h5; simp; omega, Bool.false_and]
              exact valid_f1 nm out size refresh a len cap at_ w h3 h4 h5
            | true =>
              rw [show decide (1 ≤ len ∧ (len : Int) ≤ size) = true by simp at h5; simp; omega, Bool.true_and]
              cases h6 : (decide ((0 : Int) ≤ at_) && decide (at_ ≤ 1073741824)) with
              | false => rw [show decide (0 ≤ at_ ∧ at_ ≤ 1073741824) = false by simp at h6; simp; omega]; exact valid_f2 nm out size refresh a len cap at_ w h3 h4 h5 h6
              | true => rw [show decide (0 ≤ at_ ∧ at_ ≤ 1073741824) = true by simp at h6; simp; omega]; exact valid_f3 nm out size refresh a len cap at_ w h3 h4 h5 h6
    · rw [Smp.valid_no2 h2]; exact valid_k2 nm out size depth refresh a len cap at_ has w (by simp [h2])
  · rw [Smp.valid_no1 h1]; exact valid_k1 nm kind out size depth refresh a len cap at_ has w (by simp [h1])


end Go.Proofs.Ytmeaelahmajheaa
