/- WALKS of the laws of the frame layer: FrameTells, FrameReads. -/
import Derived.Test.YtjnjjnkanbnliaaDoorFraO
namespace Go.Proofs.YtjnjjnkanbnliaaDoor
open Go.RowKit

set_option maxHeartbeats 2000000 in
theorem tells17_law (v n s : Int) (x : Option Addr) (l : List UInt8) (cx : Nat) (v' n' s' : Int) (y : Option Addr) (m : List UInt8) (cy : Nat) (w : World) (hd : DbAt w) (hx : Bts w x l) (hn : x = none → cx = 0) (hy : Bts w y m) (hm : y = none → cy = 0)
    (h63 : l.length ≤ 9223372036854775807 ∧ m.length ≤ 9223372036854775807) :
    Calls Tryd.prog 3 #[.agg #[.int .i64 v, .int .i64 n, .int .i64 s, .slice x l.length cx], .agg #[.int .i64 v', .int .i64 n', .int .i64 s', .slice y m.length cy]] w (YesOf w) := by
  obtain ⟨h63a, h63b⟩ := h63
  by_cases c0 : 300 < (l.length : Int)
  · have y0_0 : decide (300 < (l.length : Int)) = true := decide_eq_true c0
    go_enter Tryd.func3, Tryd.ntmps3
    go_wp2_with fail
    refine (awake_any _ (hd.later (al (al (Below.refl _ w) _) _))).mono ?_
    rintro e w' ⟨rfl, hb⟩
    go_wp2_with fail
    go_ret
    exact ⟨rfl, thru (al (al (Below.refl _ w) _) _) hb⟩
  · have y0_0 : decide (300 < (l.length : Int)) = false := decide_eq_false c0
    by_cases c1 : 300 < (m.length : Int)
    · have y1_0 : decide (300 < (m.length : Int)) = true := decide_eq_true c1
      go_enter Tryd.func3, Tryd.ntmps3
      go_wp2_with fail
      refine (awake_any _ (hd.later (al (al (Below.refl _ w) _) _))).mono ?_
      rintro e w' ⟨rfl, hb⟩
      go_wp2_with fail
      go_ret
      exact ⟨rfl, thru (al (al (Below.refl _ w) _) _) hb⟩
    · have y1_0 : decide (300 < (m.length : Int)) = false := decide_eq_false c1
      have l3 : l.length ≤ 300 := by omega
      have m3 : m.length ≤ 300 := by omega
      obtain ⟨q, hq⟩ : ∃ q, sameF v n s l v' n' s' m = q := ⟨_, rfl⟩
      obtain ⟨z, hz⟩ : ∃ z, wrap64 (v + 8) = z := ⟨_, rfl⟩
      have HQ := Lib.hid hq
      have HZ := Lib.hid hz
      clear hq hz c0 c1
      have hB := Below.refl w.heap.size w
      go_enter Tryd.func3, Tryd.ntmps3
      go_wp2_with fail
      refine wp_region_sched (fun W => W.cell? ⟨w.heap.size, 0, none⟩ = some (.int .i64 v) ∧ W.cell? ⟨w.heap.size, 1, none⟩ = some (.int .i64 n) ∧ W.cell? ⟨w.heap.size, 2, none⟩ = some (.int .i64 s) ∧ W.cell? ⟨w.heap.size, 3, none⟩ = some (.slice x l.length cx) ∧ W.cell? ⟨w.heap.size + 1, 0, none⟩ = some (.int .i64 v') ∧ W.cell? ⟨w.heap.size + 1, 1, none⟩ = some (.int .i64 n') ∧ W.cell? ⟨w.heap.size + 1, 2, none⟩ = some (.int .i64 s') ∧ W.cell? ⟨w.heap.size + 1, 3, none⟩ = some (.slice y m.length cy) ∧ w.heap.size < W.heap.size ∧ w.heap.size + 1 < W.heap.size ∧ Below w.heap.size w W) (.one [0] 1 (.one [2, 3] 4 (.one [5, 6, 7, 8, 10, 11] 9 (.one [] 12 (.one [13, 14, 15, 16, 17, 19, 20] 18 (.one [] 21 (.one [22, 23, 24] 25 (.done [26, 27])))))))) (by kernel_rfl) (by kernel_rfl) (fun _ _ _ _ _ h => h) ⟨(by go_simp), (by go_simp), (by go_simp), (by go_simp), (by go_simp), (by go_simp), (by go_simp), (by go_simp), (by simp <;> omega), (by simp <;> omega), (thru hB (al (al (Below.refl _ w) _) _)).drew⟩ ?_
      clear hB 
      rintro W ⟨g1_0, g1_1, g1_2, g1_3, g1_4, g1_5, g1_6, g1_7, z1_0, z1_1, hB⟩
      rw [wpSched]
      simp only [pick, List.map_cons, List.map_nil, Array.getD_eq_getD_getElem?, List.getElem?_toArray, List.getElem?_cons_succ, List.getElem?_cons_zero, Option.getD_some]
      have kg1_0 := plusW_cell g1_0
      have kg1_1 := plusW_cell g1_1
      have kg1_2 := plusW_cell g1_2
      have kg1_3 := plusW_cell g1_3
      repeat (first | go_big_quiet_step (fail) | quiet_step (fail))
      refine wpQuiet_nil ?_
      clear kg1_0 kg1_1 kg1_2 kg1_3
      refine heavy_want (by rfl) (fun K' hK' => ?_)
      go_simp
      refine (writes_any v n s x l cx _ (hx.later hB) hn (by omega)).mono ?_
      rintro e V1 ⟨rfl, hb⟩
      refine hK' _ _ hb ?_
      clear hK' K'
      have hq := thru (Below.refl _ W) hb
      clear hb
      have g2_0 := later hq g1_0
      have g2_1 := later hq g1_1
      have g2_2 := later hq g1_2
      have g2_3 := later hq g1_3
      have g2_4 := later hq g1_4
      have g2_5 := later hq g1_5
      have g2_6 := later hq g1_6
      have g2_7 := later hq g1_7
      have z2_0 : w.heap.size < V1.heap.size := Nat.lt_of_lt_of_le z1_0 hq.size
      have z2_1 : w.heap.size + 1 < V1.heap.size := Nat.lt_of_lt_of_le z1_1 hq.size
      replace hB := thru hB hq
      clear hq g1_0 g1_1 g1_2 g1_3 g1_4 g1_5 g1_6 g1_7 z1_0 z1_1
      try simp only [Act.put, List.setIfInBounds_toArray, List.set_cons_zero, List.set_cons_succ]
      rw [wpSched]
      simp only [pick, List.map_cons, List.map_nil, Array.getD_eq_getD_getElem?, List.getElem?_toArray, List.getElem?_cons_succ, List.getElem?_cons_zero, Option.getD_some]
      have kg2_4 := plusW_cell g2_4
      have kg2_5 := plusW_cell g2_5
      have kg2_6 := plusW_cell g2_6
      have kg2_7 := plusW_cell g2_7
      repeat (first | go_big_quiet_step (fail) | quiet_step (fail))
      refine wpQuiet_nil ?_
      clear kg2_4 kg2_5 kg2_6 kg2_7
      refine heavy_want (by rfl) (fun K' hK' => ?_)
      go_simp
      refine (writes_any v' n' s' y m cy _ (hy.later hB) hm (by omega)).mono ?_
      rintro e V2 ⟨rfl, hb⟩
      refine hK' _ _ hb ?_
      clear hK' K'
      have hq := thru (Below.refl _ V1) hb
      clear hb
      have g3_0 := later hq g2_0
      have g3_1 := later hq g2_1
      have g3_2 := later hq g2_2
      have g3_3 := later hq g2_3
      have g3_4 := later hq g2_4
      have g3_5 := later hq g2_5
      have g3_6 := later hq g2_6
      have g3_7 := later hq g2_7
      have z3_0 : w.heap.size < V2.heap.size := Nat.lt_of_lt_of_le z2_0 hq.size
      have z3_1 : w.heap.size + 1 < V2.heap.size := Nat.lt_of_lt_of_le z2_1 hq.size
      replace hB := thru hB hq
      clear hq g2_0 g2_1 g2_2 g2_3 g2_4 g2_5 g2_6 g2_7 z2_0 z2_1
      try simp only [Act.put, List.setIfInBounds_toArray, List.set_cons_zero, List.set_cons_succ]
      rw [wpSched]
      simp only [pick, List.map_cons, List.map_nil, Array.getD_eq_getD_getElem?, List.getElem?_toArray, List.getElem?_cons_succ, List.getElem?_cons_zero, Option.getD_some]
      have kg3_0 := plusW_cell g3_0
      have kg3_1 := plusW_cell g3_1
      have kg3_2 := plusW_cell g3_2
      have kg3_3 := plusW_cell g3_3
      have kg3_4 := plusW_cell g3_4
      have kg3_5 := plusW_cell g3_5
      have kg3_6 := plusW_cell g3_6
      have kg3_7 := plusW_cell g3_7
      repeat (first | go_big_quiet_step (fail) | quiet_step (fail))
      refine wpQuiet_nil ?_
      clear kg3_0 kg3_1 kg3_2 kg3_3 kg3_4 kg3_5 kg3_6 kg3_7
      refine heavy_want (by rfl) (fun K' hK' => ?_)
      go_simp
      refine (same17_any v n s x l cx v' n' s' y m cy _ (hx.later hB) (hy.later hB)).mono ?_
      rintro e V3 ⟨rfl, hb⟩
      refine hK' _ _ hb ?_
      clear hK' K'
      rw [HQ.out]
      have hq := thru (Below.refl _ V2) hb
      clear hb
      have g4_0 := later hq g3_0
      have g4_1 := later hq g3_1
      have g4_2 := later hq g3_2
      have g4_3 := later hq g3_3
      have g4_4 := later hq g3_4
      have g4_5 := later hq g3_5
      have g4_6 := later hq g3_6
      have g4_7 := later hq g3_7
      have z4_0 : w.heap.size < V3.heap.size := Nat.lt_of_lt_of_le z3_0 hq.size
      have z4_1 : w.heap.size + 1 < V3.heap.size := Nat.lt_of_lt_of_le z3_1 hq.size
      replace hB := thru hB hq
      clear hq g3_0 g3_1 g3_2 g3_3 g3_4 g3_5 g3_6 g3_7 z3_0 z3_1
      try simp only [Act.put, List.setIfInBounds_toArray, List.set_cons_zero, List.set_cons_succ]
      rw [wpSched]
      simp only [pick, List.map_nil, Array.getD_eq_getD_getElem?, List.getElem?_toArray, List.getElem?_cons_succ, List.getElem?_cons_zero, Option.getD_some]
      refine wpQuiet_nil ?_
      refine heavy_want (by rfl) (fun K' hK' => ?_)
      go_simp
      refine (refsame_any v n s x l cx v' n' s' y m cy _ (hx.later hB) (hy.later hB) (by omega) (by omega)).mono ?_
      rintro e V4 ⟨rfl, hb⟩
      refine hK' _ _ hb ?_
      clear hK' K'
      rw [HQ.out]
      have hq := thru (Below.refl _ V3) hb
      clear hb
      have g5_0 := later hq g4_0
      have g5_1 := later hq g4_1
      have g5_2 := later hq g4_2
      have g5_3 := later hq g4_3
      have g5_4 := later hq g4_4
      have g5_5 := later hq g4_5
      have g5_6 := later hq g4_6
      have g5_7 := later hq g4_7
      have z5_0 : w.heap.size < V4.heap.size := Nat.lt_of_lt_of_le z4_0 hq.size
      have z5_1 : w.heap.size + 1 < V4.heap.size := Nat.lt_of_lt_of_le z4_1 hq.size
      replace hB := thru hB hq
      clear hq g4_0 g4_1 g4_2 g4_3 g4_4 g4_5 g4_6 g4_7 z4_0 z4_1
      try simp only [Act.put, List.setIfInBounds_toArray, List.set_cons_zero, List.set_cons_succ]
      rw [wpSched]
      simp only [pick, List.map_cons, List.map_nil, Array.getD_eq_getD_getElem?, List.getElem?_toArray, List.getElem?_cons_succ, List.getElem?_cons_zero, Option.getD_some]
      have kg5_0 := plusW_cell g5_0
      have kg5_1 := plusW_cell g5_1
      have kg5_2 := plusW_cell g5_2
      have kg5_3 := plusW_cell g5_3
      have kg5_4 := plusW_cell g5_4
      have kg5_5 := plusW_cell g5_5
      have kg5_6 := plusW_cell g5_6
      have kg5_7 := plusW_cell g5_7
      repeat (first | go_big_quiet_step (fail) | quiet_step (fail))
      refine wpQuiet_nil ?_
      clear kg5_0 kg5_1 kg5_2 kg5_3 kg5_4 kg5_5 kg5_6 kg5_7
      refine heavy_want (by rfl) (fun K' hK' => ?_)
      go_simp
      refine (toB (size_any v _)).mono ?_
      rintro e V5 ⟨rfl, hb⟩
      refine hK' _ _ hb ?_
      clear hK' K'
      rw [HZ.out]
      have hq := thru (Below.refl _ V4) hb
      clear hb
      have g6_0 := later hq g5_0
      have g6_1 := later hq g5_1
      have g6_2 := later hq g5_2
      have g6_3 := later hq g5_3
      have g6_4 := later hq g5_4
      have g6_5 := later hq g5_5
      have g6_6 := later hq g5_6
      have g6_7 := later hq g5_7
      have z6_0 : w.heap.size < V5.heap.size := Nat.lt_of_lt_of_le z5_0 hq.size
      have z6_1 : w.heap.size + 1 < V5.heap.size := Nat.lt_of_lt_of_le z5_1 hq.size
      replace hB := thru hB hq
      clear hq g5_0 g5_1 g5_2 g5_3 g5_4 g5_5 g5_6 g5_7 z5_0 z5_1
      try simp only [Act.put, List.setIfInBounds_toArray, List.set_cons_zero, List.set_cons_succ]
      rw [wpSched]
      simp only [pick, List.map_nil, Array.getD_eq_getD_getElem?, List.getElem?_toArray, List.getElem?_cons_succ, List.getElem?_cons_zero, Option.getD_some]
      refine wpQuiet_nil ?_
      refine heavy_want (by rfl) (fun K' hK' => ?_)
      go_simp
      refine (toB (refsize_any v _)).mono ?_
      rintro e V6 ⟨rfl, hb⟩
      refine hK' _ _ hb ?_
      clear hK' K'
      rw [HZ.out]
      have hq := thru (Below.refl _ V5) hb
      clear hb
      have g7_0 := later hq g6_0
      have g7_1 := later hq g6_1
      have g7_2 := later hq g6_2
      have g7_3 := later hq g6_3
      have g7_4 := later hq g6_4
      have g7_5 := later hq g6_5
      have g7_6 := later hq g6_6
      have g7_7 := later hq g6_7
      have z7_0 : w.heap.size < V6.heap.size := Nat.lt_of_lt_of_le z6_0 hq.size
      have z7_1 : w.heap.size + 1 < V6.heap.size := Nat.lt_of_lt_of_le z6_1 hq.size
      replace hB := thru hB hq
      clear hq g6_0 g6_1 g6_2 g6_3 g6_4 g6_5 g6_6 g6_7 z6_0 z6_1
      try simp only [Act.put, List.setIfInBounds_toArray, List.set_cons_zero, List.set_cons_succ]
      rw [wpSched]
      simp only [pick, List.map_cons, List.map_nil, Array.getD_eq_getD_getElem?, List.getElem?_toArray, List.getElem?_cons_succ, List.getElem?_cons_zero, Option.getD_some]
      repeat (first | go_big_quiet_step (fail) | quiet_step (fail))
      refine wpQuiet_nil ?_
      refine heavy_want (by rfl) (fun K' hK' => ?_)
      go_simp
      refine (awake_any _ (hd.later hB)).mono ?_
      rintro e V7 ⟨rfl, hb⟩
      refine hK' _ _ hb ?_
      clear hK' K'
      have hq := thru (Below.refl _ V6) hb
      clear hb
      have g8_0 := later hq g7_0
      have g8_1 := later hq g7_1
      have g8_2 := later hq g7_2
      have g8_3 := later hq g7_3
      have g8_4 := later hq g7_4
      have g8_5 := later hq g7_5
      have g8_6 := later hq g7_6
      have g8_7 := later hq g7_7
      have z8_0 : w.heap.size < V7.heap.size := Nat.lt_of_lt_of_le z7_0 hq.size
      have z8_1 : w.heap.size + 1 < V7.heap.size := Nat.lt_of_lt_of_le z7_1 hq.size
      replace hB := thru hB hq
      clear hq g7_0 g7_1 g7_2 g7_3 g7_4 g7_5 g7_6 g7_7 z7_0 z7_1
      try simp only [Act.put, List.setIfInBounds_toArray, List.set_cons_zero, List.set_cons_succ]
      rw [wpSched]
      simp only [pick, List.map_cons, List.map_nil, Array.getD_eq_getD_getElem?, List.getElem?_toArray, List.getElem?_cons_succ, List.getElem?_cons_zero, Option.getD_some]
      repeat (first | go_big_quiet_step (fail) | quiet_step (fail))
      refine wpQuiet_nil ?_
      go_wp2_with fail
      go_ret
      exact ⟨rfl, hB⟩

set_option maxHeartbeats 2000000 in
theorem reads17_law (x : Option Addr) (l : List UInt8) (cx : Nat) (at_ : Int) (m : W32) (w : World) (hd : DbAt w) (hx : Bts w x l) (hn : x = none → cx = 0) (hcx : l.length ≤ cx ∧ cx ≤ 9223372036854775807) (hat : -9223372036854775808 ≤ at_ ∧ at_ ≤ 9223372036854775807) :
    Calls Tryd.prog 4 #[.slice x l.length cx, .int .i64 at_, .int .u32 (n32 m)] w (YesOf w) := by
  by_cases c0 : 300 < (l.length : Int)
  · have y0_0 : decide (300 < (l.length : Int)) = true := decide_eq_true c0
    go_enter Tryd.func4, Tryd.ntmps4
    go_wp2_with fail
    refine (awake_any _ (hd.later (Below.refl _ w))).mono ?_
    rintro e w' ⟨rfl, hb⟩
    go_wp2_with fail
    go_ret
    exact ⟨rfl, thru (Below.refl _ w) hb⟩
  · have y0_0 : decide (300 < (l.length : Int)) = false := decide_eq_false c0
    have l3 : l.length ≤ 300 := by omega
    obtain ⟨wl, hwl⟩ : ∃ z, l ++ Crc.trailer (Crc.sum l) = z := ⟨_, rfl⟩
    have nwl : wl.length ≤ 304 := by rw [← hwl, List.length_append, Crc.trailer_length]; omega
    obtain ⟨bl, hbl⟩ : ∃ z, Crc.burst m at_ l = z := ⟨_, rfl⟩
    have nbl : bl.length ≤ 300 := by rw [← hbl, Crc.burst_length]; exact l3
    have HWL := Lib.hid hwl
    have HBL := Lib.hid hbl
    have HSB := Lib.hid (show (bl == bl) = true by simp)
    clear hwl hbl c0
    have hB := Below.refl w.heap.size w
    go_enter Tryd.func4, Tryd.ntmps4
    go_wp2_with fail
    refine (lent_any x l cx _ hx hn (by omega)).mono ?_
    rintro e w1 ⟨g1, c1, rfl, ho, hc1, hb⟩
    have yl := ho.bts
    have hc2 := ho.le_cap.2
    clear ho
    have hq := thru (Below.refl _ w) hb
    replace hB := thru hB hq
    clear hb hq 
    go_wp2_with fail
    refine (reads_any x l cx _ (hx.later hB) hn (by omega) hcx).mono ?_
    rintro e w2 ⟨rfl, hb⟩
    have hq := thru (Below.refl _ w1) hb
    replace hB := thru hB hq
    replace yl := yl.later hq
    clear hb hq 
    go_wp2_with fail
    refine (append_any x l cx _ (hx.later hB) (by omega)).mono ?_
    rintro e w3 ⟨x3, c3, rfl, ho, hb⟩
    rw [HWL.out] at ho ⊢
    have y3 := ho.bts
    have cap3 := ho.le_cap
    have n3 := ho.none_cap
    clear ho
    have hq := thru (Below.refl _ w2) hb
    replace hB := thru hB hq
    replace yl := yl.later hq
    clear hb hq 
    go_wp2_with fail
    refine (reads_any x3 wl c3 _ y3 n3 (by omega) cap3).mono ?_
    rintro e w4 ⟨rfl, hb⟩
    have hq := thru (Below.refl _ w3) hb
    replace hB := thru hB hq
    replace yl := yl.later hq
    replace y3 := y3.later hq
    clear hb hq 
    go_wp2_with fail
    refine (burst_any (some ⟨g1, 0, none⟩) l c1 at_ m _ yl.left (fun h => by cases h) (by omega) hat (hd.later hB)).mono ?_
    rintro e w5 ⟨x5, c5, rfl, ho, hb⟩
    rw [HBL.out] at ho ⊢
    have y5 := ho.bts
    clear ho
    have hq := thru (Below.refl _ w4) hb
    replace hB := thru hB hq
    replace yl := yl.later hq
    replace y3 := y3.later hq
    clear hb hq 
    go_wp2_with fail
    refine (refburst_any x l cx at_ m _ (hx.later hB) (by omega) hat).mono ?_
    rintro e w6 ⟨x6, c6, rfl, ho, hb⟩
    rw [HBL.out] at ho ⊢
    have y6 := ho.bts
    clear ho
    have hq := thru (Below.refl _ w5) hb
    replace hB := thru hB hq
    replace yl := yl.later hq
    replace y3 := y3.later hq
    replace y5 := y5.later hq
    clear hb hq 
    go_wp2_with fail
    refine (sameb_any x5 bl c5 x6 bl c6 _ y5 y6 (by omega) (by omega)).mono ?_
    rintro e w7 ⟨rfl, hb⟩
    rw [HSB.out]
    have hq := thru (Below.refl _ w6) hb
    replace hB := thru hB hq
    replace yl := yl.later hq
    replace y3 := y3.later hq
    replace y5 := y5.later hq
    replace y6 := y6.later hq
    clear hb hq 
    go_wp2_with fail
    refine (kept_any g1 c1 l x cx _ yl hc1 hc2 (hx.later hB) (by omega)).mono ?_
    rintro e w8 ⟨rfl, hb⟩
    have hq := thru (Below.refl _ w7) hb
    replace hB := thru hB hq
    replace yl := yl.later hq
    replace y3 := y3.later hq
    replace y5 := y5.later hq
    replace y6 := y6.later hq
    clear hb hq 
    go_wp2_with fail
    refine (awake_any _ (hd.later hB)).mono ?_
    rintro e w9 ⟨rfl, hb⟩
    have hq := thru (Below.refl _ w8) hb
    replace hB := thru hB hq
    replace yl := yl.later hq
    replace y3 := y3.later hq
    replace y5 := y5.later hq
    replace y6 := y6.later hq
    clear hb hq 
    go_wp2_with fail
    go_ret
    exact ⟨rfl, hB⟩

end Go.Proofs.YtjnjjnkanbnliaaDoor
