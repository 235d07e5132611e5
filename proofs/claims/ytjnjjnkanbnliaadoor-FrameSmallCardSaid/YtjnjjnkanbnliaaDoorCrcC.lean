/- WALKS of the crc layer: Check. -/
import Derived.Test.YtjnjjnkanbnliaaDoorCrcB
namespace Go.Proofs.YtjnjjnkanbnliaaDoor
open Go.RowKit

theorem toB {f : Nat} {a : Array Value} {w : World} {v : Value} (h : Calls Tryd.prog f a w fun e w' => e = .returned v ∧ w' = w) : Calls Tryd.prog f a w fun e w' => e = .returned v ∧ Below w.heap.size w w' :=
  h.mono fun _ _ h => ⟨h.1, by rw [h.2]; exact Below.refl _ _⟩
def NoCheck (w : World) (e : Ending) (w' : World) : Prop := e = .returned (.tuple #[.slice none 0 0, .int .i64 40]) ∧ Below w.heap.size w w'
def YesCheck (m : List UInt8) (w : World) (e : Ending) (w' : World) : Prop := ∃ x cap, e = .returned (.tuple #[.slice x m.length cap, .int .i64 0]) ∧ OwnsB w.heap.size w' x cap m ∧ Below w.heap.size w w'

set_option maxHeartbeats 1000000 in
theorem check_short (x : Option Addr) (n c : Nat) (w : World) (hn : n < 4) : Calls Tryd.prog 39 #[.slice x n c] w (NoCheck w) := by
  have hd : decide ((n : Int) - 4 < 0) = true := by simp; omega
  have hB := Below.refl w.heap.size w
  go_enter Tryd.func39, Tryd.ntmps39
  go_wp2_with fail
  refine wp_region_sched (fun W => True ∧ Below w.heap.size w W) (.one [0, 1, 2, 3, 4, 5, 7, 8, 9] 6 (.one [] 10 (.done [11, 12]))) (by kernel_rfl) (by kernel_rfl) (fun _ _ _ _ _ h => h) ⟨trivial, hB.drew⟩ ?_
  clear hB 
  rintro W ⟨-, hB⟩
  rw [wpSched]
  simp only [pick, List.map_cons, List.map_nil, Array.getD_eq_getD_getElem?, List.getElem?_toArray, List.getElem?_cons_succ, List.getElem?_cons_zero, Option.getD_some]
  repeat (first | go_big_quiet_step (fail) | quiet_step (fail))
  refine wpQuiet_nil ?_
  refine heavy_skip (by rfl) ?_
  try simp only [Act.put, List.setIfInBounds_toArray, List.set_cons_zero, List.set_cons_succ]
  rw [wpSched]
  simp only [pick, List.map_nil, Array.getD_eq_getD_getElem?, List.getElem?_toArray, List.getElem?_cons_succ, List.getElem?_cons_zero, Option.getD_some]
  refine wpQuiet_nil ?_
  refine heavy_skip (by rfl) ?_
  try simp only [Act.put, List.setIfInBounds_toArray, List.set_cons_zero, List.set_cons_succ]
  rw [wpSched]
  simp only [pick, List.map_cons, List.map_nil, Array.getD_eq_getD_getElem?, List.getElem?_toArray, List.getElem?_cons_succ, List.getElem?_cons_zero, Option.getD_some]
  repeat (first | go_big_quiet_step (fail) | quiet_step (fail))
  refine wpQuiet_nil ?_
  go_wp2_with fail
  go_ret2
  exact ⟨rfl, hB⟩

set_option maxHeartbeats 1000000 in
theorem check_yes (g o : Nat) (m : List UInt8) (p q r s : UInt8) (c : Nat) (w : World) (yd : Bts w (some ⟨g, o, none⟩) (m ++ [p, q, r, s])) (hm : m.length ≤ 100000) (hc : m.length + 4 ≤ c) (_hc2 : c ≤ 9223372036854775807) (hs : num4 p q r s = Crc.sum m) : Calls Tryd.prog 39 #[.slice (some ⟨g, o, none⟩) (m.length + 4) c] w (YesCheck m w) := by
  have hB := Below.refl w.heap.size w
  have hd : decide ((m.length : Int) < 0) = false := decide_eq_false (by omega)
  go_enter Tryd.func39, Tryd.ntmps39
  go_wp2_with fail
  refine wp_region_sched (fun W => Bts W (some ⟨g, o, none⟩) (m ++ [p, q, r, s]) ∧ Below w.heap.size w W) (.one [0, 1, 2, 3, 4, 5, 7, 8, 9] 6 (.one [] 10 (.done [11, 12]))) (by kernel_rfl) (by kernel_rfl) (fun _ _ _ _ _ h => h) ⟨yd, hB.drew⟩ ?_
  clear hB yd
  rintro W ⟨yd, hB⟩
  rw [wpSched]
  simp only [pick, List.map_cons, List.map_nil, Array.getD_eq_getD_getElem?, List.getElem?_toArray, List.getElem?_cons_succ, List.getElem?_cons_zero, Option.getD_some]
  repeat (first | go_big_quiet_step (fail) | quiet_step (fail))
  refine wpQuiet_nil ?_
  refine heavy_want (by rfl) (fun K' hK' => ?_)
  go_simp
  refine (toB (number_any (some ⟨g, o + m.length, none⟩) p q r s _ _ yd.right (by omega))).mono ?_
  rintro e V1 ⟨rfl, hb⟩
  refine hK' _ _ hb ?_
  clear hK' K'
  have hq := thru (Below.refl _ W) hb
  clear hb
  replace hB := thru hB hq
  replace yd := yd.later hq
  clear hq 
  try simp only [Act.put, List.setIfInBounds_toArray, List.set_cons_zero, List.set_cons_succ]
  rw [wpSched]
  simp only [pick, List.map_nil, Array.getD_eq_getD_getElem?, List.getElem?_toArray, List.getElem?_cons_succ, List.getElem?_cons_zero, Option.getD_some]
  refine wpQuiet_nil ?_
  refine heavy_want (by rfl) (fun K' hK' => ?_)
  go_simp
  refine (sum_any (some ⟨g, o, none⟩) m c _ yd.left (by omega)).mono ?_
  rintro e V2 ⟨rfl, hb⟩
  refine hK' _ _ hb ?_
  clear hK' K'
  have hq := thru (Below.refl _ V1) hb
  clear hb
  replace hB := thru hB hq
  replace yd := yd.later hq
  clear hq 
  try simp only [Act.put, List.setIfInBounds_toArray, List.set_cons_zero, List.set_cons_succ]
  rw [wpSched]
  simp only [pick, List.map_cons, List.map_nil, Array.getD_eq_getD_getElem?, List.getElem?_toArray, List.getElem?_cons_succ, List.getElem?_cons_zero, Option.getD_some]
  repeat (first | go_big_quiet_step (fail) | quiet_step (fail))
  refine wpQuiet_nil ?_
  go_wp2_with fail
  refine (clone_any (some ⟨g, o, none⟩) m c _ yd.left (by omega)).mono ?_
  rintro e V3 ⟨x3, c3, rfl, ho, hb⟩
  have HO := Lib.hid (OwnsB.weaken ho hB.size)
  clear ho
  have hq := thru (Below.refl _ V2) hb
  replace hB := thru hB hq
  replace yd := yd.later hq
  clear hb hq 
  go_wp2_with fail
  go_ret2
  exact ⟨x3, c3, rfl, HO.out, hB⟩

set_option maxHeartbeats 1000000 in
theorem check_no (g o : Nat) (m : List UInt8) (p q r s : UInt8) (c : Nat) (w : World) (yd : Bts w (some ⟨g, o, none⟩) (m ++ [p, q, r, s])) (hm : m.length ≤ 100000) (hc : m.length + 4 ≤ c) (_hc2 : c ≤ 9223372036854775807) (hs : (num4 p q r s != Crc.sum m) = true) : Calls Tryd.prog 39 #[.slice (some ⟨g, o, none⟩) (m.length + 4) c] w (NoCheck w) := by
  have hB := Below.refl w.heap.size w
  have hd : decide ((m.length : Int) < 0) = false := decide_eq_false (by omega)
  go_enter Tryd.func39, Tryd.ntmps39
  go_wp2_with fail
  refine wp_region_sched (fun W => Bts W (some ⟨g, o, none⟩) (m ++ [p, q, r, s]) ∧ Below w.heap.size w W) (.one [0, 1, 2, 3, 4, 5, 7, 8, 9] 6 (.one [] 10 (.done [11, 12]))) (by kernel_rfl) (by kernel_rfl) (fun _ _ _ _ _ h => h) ⟨yd, hB.drew⟩ ?_
  clear hB yd
  rintro W ⟨yd, hB⟩
  rw [wpSched]
  simp only [pick, List.map_cons, List.map_nil, Array.getD_eq_getD_getElem?, List.getElem?_toArray, List.getElem?_cons_succ, List.getElem?_cons_zero, Option.getD_some]
  repeat (first | go_big_quiet_step (fail) | quiet_step (fail))
  refine wpQuiet_nil ?_
  refine heavy_want (by rfl) (fun K' hK' => ?_)
  go_simp
  refine (toB (number_any (some ⟨g, o + m.length, none⟩) p q r s _ _ yd.right (by omega))).mono ?_
  rintro e V1 ⟨rfl, hb⟩
  refine hK' _ _ hb ?_
  clear hK' K'
  have hq := thru (Below.refl _ W) hb
  clear hb
  replace hB := thru hB hq
  replace yd := yd.later hq
  clear hq 
  try simp only [Act.put, List.setIfInBounds_toArray, List.set_cons_zero, List.set_cons_succ]
  rw [wpSched]
  simp only [pick, List.map_nil, Array.getD_eq_getD_getElem?, List.getElem?_toArray, List.getElem?_cons_succ, List.getElem?_cons_zero, Option.getD_some]
  refine wpQuiet_nil ?_
  refine heavy_want (by rfl) (fun K' hK' => ?_)
  go_simp
  refine (sum_any (some ⟨g, o, none⟩) m c _ yd.left (by omega)).mono ?_
  rintro e V2 ⟨rfl, hb⟩
  refine hK' _ _ hb ?_
  clear hK' K'
  have hq := thru (Below.refl _ V1) hb
  clear hb
  replace hB := thru hB hq
  replace yd := yd.later hq
  clear hq 
  try simp only [Act.put, List.setIfInBounds_toArray, List.set_cons_zero, List.set_cons_succ]
  rw [wpSched]
  simp only [pick, List.map_cons, List.map_nil, Array.getD_eq_getD_getElem?, List.getElem?_toArray, List.getElem?_cons_succ, List.getElem?_cons_zero, Option.getD_some]
  repeat (first | go_big_quiet_step (fail) | quiet_step (fail))
  refine wpQuiet_nil ?_
  go_wp2_with fail
  go_ret2
  exact ⟨rfl, hB⟩

end Go.Proofs.YtjnjjnkanbnliaaDoor
