/- WALKS of the laws of the frame layer: FrameBack. -/
import Derived.Test.YtjnjjnkanbnliaaDoorLawC17
namespace Go.Proofs.YtjnjjnkanbnliaaDoor
open Go.RowKit

set_option maxHeartbeats 2000000 in
theorem back_110 (v n s : Int) (x : Option Addr) (l : List UInt8) (cx : Nat) (v' n' s' : Int) (y : Option Addr) (m : List UInt8) (cy : Nat) (z : Option Addr) (t : List UInt8) (cz : Nat) (w : World) (hd : DbAt w) (hx : Bts w x l) (hn : x = none → cx = 0) (hy : Bts w y m) (hm : y = none → cy = 0) (hz : Bts w z t) (hcz : t.length ≤ cz ∧ cz ≤ 9223372036854775807) (l3 : l.length ≤ 300) (m3 : m.length ≤ 300) (t3 : t.length ≤ 300)
    (p : List UInt8) (q : List UInt8) (ho1 : bytesV v n s l = some p) (ho2 : bytesV v' n' s' m = some q) (hob : readV t = none) : Calls Tryd.prog 7 #[.agg #[.int .i64 v, .int .i64 n, .int .i64 s, .slice x l.length cx], .agg #[.int .i64 v', .int .i64 n', .int .i64 s', .slice y m.length cy], .slice z t.length cz] w (YesOf w) := by
  have y0 : decide (300 < (l.length : Int)) = false := decide_eq_false (by omega)
  have y1 : decide (300 < (m.length : Int)) = false := decide_eq_false (by omega)
  have y2' : decide (300 < (t.length : Int)) = false := decide_eq_false (by omega)
  have HO1 := Lib.hid ho1
  have HO2 := Lib.hid ho2
  have HRB := Lib.hid hob
  obtain ⟨k, hk⟩ : ∃ k, codeV t = k := ⟨_, rfl⟩
  have HCB := Lib.hid hk
  have HK := Lib.hid (show (k != 0) = true by rw [← hk]; exact codeV_ne t)
  clear hk
  have HTT := Lib.hid (show (t == t) = true by simp)
  have hv1 := bytesV_inv ho1
  have HQ1 := Lib.hid hv1.1
  have hpl : p.length = l.length + 8 := by rw [hv1.2.1]; exact whole_length _ _ _ _
  have hr1 := readV_bytes ho1
  have hs1 : sameF ((u8i v).toNat : Int) ((u8i n).toNat : Int) ((u8i s).toNat : Int) l v n s l = true := by rw [← hv1.2.2.1, ← hv1.2.2.2.1, ← hv1.2.2.2.2]; unfold sameF; simp
  clear hv1
  obtain ⟨a1, ha1⟩ : ∃ a, u8i v = a := ⟨_, rfl⟩
  obtain ⟨b1, hb1⟩ : ∃ a, u8i n = a := ⟨_, rfl⟩
  obtain ⟨d1, hd1⟩ : ∃ a, u8i s = a := ⟨_, rfl⟩
  rw [ha1, hb1, hd1] at hr1 hs1
  have HRP := Lib.hid hr1
  have HSR := Lib.hid hs1
  have HZ := Lib.hid (show wrap64 ((l.length : Int) + 8) = (p.length : Int) by unfold wrap64; omega)
  have hp4 : p.length ≤ 400 := by omega
  clear ha1 hb1 hd1 hr1 hs1 hpl
  have hql : q.length ≤ 400 := by rw [(bytesV_inv ho2).2.1, whole_length]; omega
  obtain ⟨sb, hsb⟩ : ∃ z, sameF v n s l v' n' s' m = z := ⟨_, rfl⟩
  have HSS := Lib.hid hsb
  have HSB := Lib.hid (show (p == q) = sb by rw [same_bytesV ho1 ho2, hsb])
  clear hsb
  clear ho1 ho2 hob
  have hB := Below.refl w.heap.size w
  go_enter Tryd.func7, Tryd.ntmps7
  go_wp2_with fail
  refine (awake_any _ (hd.later (al (al (Below.refl _ w) _) _))).mono ?_
  rintro e w1 ⟨rfl, hb⟩
  have hq := thru (al (al (Below.refl _ w) _) _) hb
  have g1_0 := later (a := ⟨w.heap.size, 0, none⟩) (v := .int .i64 v) hb (by go_simp)
  have g1_1 := later (a := ⟨w.heap.size, 1, none⟩) (v := .int .i64 n) hb (by go_simp)
  have g1_2 := later (a := ⟨w.heap.size, 2, none⟩) (v := .int .i64 s) hb (by go_simp)
  have g1_3 := later (a := ⟨w.heap.size, 3, none⟩) (v := .slice x l.length cx) hb (by go_simp)
  have g1_4 := later (a := ⟨w.heap.size + 1, 0, none⟩) (v := .int .i64 v') hb (by go_simp)
  have g1_5 := later (a := ⟨w.heap.size + 1, 1, none⟩) (v := .int .i64 n') hb (by go_simp)
  have g1_6 := later (a := ⟨w.heap.size + 1, 2, none⟩) (v := .int .i64 s') hb (by go_simp)
  have g1_7 := later (a := ⟨w.heap.size + 1, 3, none⟩) (v := .slice y m.length cy) hb (by go_simp)
  have z1_0 : w.heap.size < w1.heap.size := (by have := hb.size; first | omega | (simp at this; omega))
  have z1_1 : w.heap.size + 1 < w1.heap.size := (by have := hb.size; first | omega | (simp at this; omega))
  replace hB := thru hB hq
  clear hb hq 
  go_wp2_with fail
  refine (bytes_all v n s x l cx _ (hx.later hB) hn).mono ?_
  rw [HO1.out]
  rintro e w2 ⟨x2, c2, rfl, ho, hb⟩
  have y2 := ho.bts
  have cap2 := ho.le_cap
  clear ho
  have hq := thru (Below.refl _ w1) hb
  have g2_0 := later hq g1_0
  have g2_1 := later hq g1_1
  have g2_2 := later hq g1_2
  have g2_3 := later hq g1_3
  have g2_4 := later hq g1_4
  have g2_5 := later hq g1_5
  have g2_6 := later hq g1_6
  have g2_7 := later hq g1_7
  have z2_0 : w.heap.size < w2.heap.size := Nat.lt_of_lt_of_le z1_0 hq.size
  have z2_1 : w.heap.size + 1 < w2.heap.size := Nat.lt_of_lt_of_le z1_1 hq.size
  replace hB := thru hB hq
  clear hb hq g1_0 g1_1 g1_2 g1_3 g1_4 g1_5 g1_6 g1_7 z1_0 z1_1
  go_wp2_with fail
  refine (bytes_all v' n' s' y m cy _ (hy.later hB) hm).mono ?_
  rw [HO2.out]
  rintro e w3 ⟨x3, c3, rfl, ho, hb⟩
  have y3 := ho.bts
  clear ho
  have hq := thru (Below.refl _ w2) hb
  have g3_0 := later hq g2_0
  have g3_1 := later hq g2_1
  have g3_2 := later hq g2_2
  have g3_3 := later hq g2_3
  have g3_4 := later hq g2_4
  have g3_5 := later hq g2_5
  have g3_6 := later hq g2_6
  have g3_7 := later hq g2_7
  have z3_0 : w.heap.size < w3.heap.size := Nat.lt_of_lt_of_le z2_0 hq.size
  have z3_1 : w.heap.size + 1 < w3.heap.size := Nat.lt_of_lt_of_le z2_1 hq.size
  replace hB := thru hB hq
  replace y2 := y2.later hq
  clear hb hq g2_0 g2_1 g2_2 g2_3 g2_4 g2_5 g2_6 g2_7 z2_0 z2_1
  go_wp2_with fail
  refine wp_region_sched (fun W => W.cell? ⟨w.heap.size, 0, none⟩ = some (.int .i64 v) ∧ W.cell? ⟨w.heap.size, 1, none⟩ = some (.int .i64 n) ∧ W.cell? ⟨w.heap.size, 2, none⟩ = some (.int .i64 s) ∧ W.cell? ⟨w.heap.size, 3, none⟩ = some (.slice x l.length cx) ∧ W.cell? ⟨w.heap.size + 1, 0, none⟩ = some (.int .i64 v') ∧ W.cell? ⟨w.heap.size + 1, 1, none⟩ = some (.int .i64 n') ∧ W.cell? ⟨w.heap.size + 1, 2, none⟩ = some (.int .i64 s') ∧ W.cell? ⟨w.heap.size + 1, 3, none⟩ = some (.slice y m.length cy) ∧ w.heap.size < W.heap.size ∧ w.heap.size + 1 < W.heap.size ∧ Bts W x2 p ∧ Bts W x3 q ∧ Below w.heap.size w W) (.one [0, 1, 2] 3 (.one [4, 5, 6, 7, 8, 9, 10, 11, 12, 13, 14, 16, 17] 15 (.one [] 18 (.done [19, 20, 21])))) (by kernel_rfl) (by kernel_rfl) (fun _ _ _ _ _ h => h) ⟨(by go_simp), (by go_simp), (by go_simp), (by go_simp), (by go_simp), (by go_simp), (by go_simp), (by go_simp), (by simp <;> omega), (by simp <;> omega), y2, y3, hB.drew⟩ ?_
  clear hB g3_0 g3_1 g3_2 g3_3 g3_4 g3_5 g3_6 g3_7 z3_0 z3_1 y2 y3
  rintro W ⟨g4_0, g4_1, g4_2, g4_3, g4_4, g4_5, g4_6, g4_7, z4_0, z4_1, y2, y3, hB⟩
  rw [wpSched]
  simp only [pick, List.map_cons, List.map_nil, Array.getD_eq_getD_getElem?, List.getElem?_toArray, List.getElem?_cons_succ, List.getElem?_cons_zero, Option.getD_some]
  have kg4_0 := plusW_cell g4_0
  have kg4_1 := plusW_cell g4_1
  have kg4_2 := plusW_cell g4_2
  have kg4_3 := plusW_cell g4_3
  repeat (first | go_big_quiet_step (fail) | quiet_step (fail))
  refine wpQuiet_nil ?_
  clear kg4_0 kg4_1 kg4_2 kg4_3
  refine heavy_want (by rfl) (fun K' hK' => ?_)
  go_simp
  refine (valid_any v n s x l.length cx _).mono ?_
  rintro e V1 ⟨rfl, hb⟩
  refine hK' _ _ hb ?_
  clear hK' K'
  rw [HQ1.out]
  have hq := thru (Below.refl _ W) hb
  clear hb
  have g5_0 := later hq g4_0
  have g5_1 := later hq g4_1
  have g5_2 := later hq g4_2
  have g5_3 := later hq g4_3
  have g5_4 := later hq g4_4
  have g5_5 := later hq g4_5
  have g5_6 := later hq g4_6
  have g5_7 := later hq g4_7
  have z5_0 : w.heap.size < V1.heap.size := Nat.lt_of_lt_of_le z4_0 hq.size
  have z5_1 : w.heap.size + 1 < V1.heap.size := Nat.lt_of_lt_of_le z4_1 hq.size
  replace hB := thru hB hq
  replace y2 := y2.later hq
  replace y3 := y3.later hq
  clear hq g4_0 g4_1 g4_2 g4_3 g4_4 g4_5 g4_6 g4_7 z4_0 z4_1
  try simp only [Act.put, List.setIfInBounds_toArray, List.set_cons_zero, List.set_cons_succ]
  rw [wpSched]
  simp only [pick, List.map_cons, List.map_nil, Array.getD_eq_getD_getElem?, List.getElem?_toArray, List.getElem?_cons_succ, List.getElem?_cons_zero, Option.getD_some]
  have kg5_0 := plusW_cell g5_0
  have kg5_1 := plusW_cell g5_1
  have kg5_2 := plusW_cell g5_2
  have kg5_3 := plusW_cell g5_3
  have kg5_4 := plusW_cell g5_4
  have kg5_5 := plusW_cell g5_5
  have kg5_6 := plusW_cell g5_6
  have kg5_7 := plusW_cell g5_7
  repeat (first | go_big_quiet_step (fail) | quiet_step (fail))
  refine wpQuiet_nil ?_
  clear kg5_0 kg5_1 kg5_2 kg5_3 kg5_4 kg5_5 kg5_6 kg5_7
  refine heavy_want (by rfl) (fun K' hK' => ?_)
  go_simp
  refine (sameb_any x2 p c2 x3 q c3 _ y2 y3 (by omega) (by omega)).mono ?_
  rintro e V2 ⟨rfl, hb⟩
  refine hK' _ _ hb ?_
  clear hK' K'
  rw [HSB.out]
  have hq := thru (Below.refl _ V1) hb
  clear hb
  have g6_0 := later hq g5_0
  have g6_1 := later hq g5_1
  have g6_2 := later hq g5_2
  have g6_3 := later hq g5_3
  have g6_4 := later hq g5_4
  have g6_5 := later hq g5_5
  have g6_6 := later hq g5_6
  have g6_7 := later hq g5_7
  have z6_0 : w.heap.size < V2.heap.size := Nat.lt_of_lt_of_le z5_0 hq.size
  have z6_1 : w.heap.size + 1 < V2.heap.size := Nat.lt_of_lt_of_le z5_1 hq.size
  replace hB := thru hB hq
  replace y2 := y2.later hq
  replace y3 := y3.later hq
  clear hq g5_0 g5_1 g5_2 g5_3 g5_4 g5_5 g5_6 g5_7 z5_0 z5_1
  try simp only [Act.put, List.setIfInBounds_toArray, List.set_cons_zero, List.set_cons_succ]
  rw [wpSched]
  simp only [pick, List.map_nil, Array.getD_eq_getD_getElem?, List.getElem?_toArray, List.getElem?_cons_succ, List.getElem?_cons_zero, Option.getD_some]
  refine wpQuiet_nil ?_
  refine heavy_want (by rfl) (fun K' hK' => ?_)
  go_simp
  refine (same17_any v n s x l cx v' n' s' y m cy _ (hx.later hB) (hy.later hB)).mono ?_
  rintro e V3 ⟨rfl, hb⟩
  refine hK' _ _ hb ?_
  clear hK' K'
  rw [HSS.out]
  have hq := thru (Below.refl _ V2) hb
  clear hb
  have g7_0 := later hq g6_0
  have g7_1 := later hq g6_1
  have g7_2 := later hq g6_2
  have g7_3 := later hq g6_3
  have g7_4 := later hq g6_4
  have g7_5 := later hq g6_5
  have g7_6 := later hq g6_6
  have g7_7 := later hq g6_7
  have z7_0 : w.heap.size < V3.heap.size := Nat.lt_of_lt_of_le z6_0 hq.size
  have z7_1 : w.heap.size + 1 < V3.heap.size := Nat.lt_of_lt_of_le z6_1 hq.size
  replace hB := thru hB hq
  replace y2 := y2.later hq
  replace y3 := y3.later hq
  clear hq g6_0 g6_1 g6_2 g6_3 g6_4 g6_5 g6_6 g6_7 z6_0 z6_1
  try simp only [Act.put, List.setIfInBounds_toArray, List.set_cons_zero, List.set_cons_succ]
  rw [wpSched]
  simp only [pick, List.map_cons, List.map_nil, Array.getD_eq_getD_getElem?, List.getElem?_toArray, List.getElem?_cons_succ, List.getElem?_cons_zero, Option.getD_some]
  repeat (first | go_big_quiet_step (fail) | quiet_step (fail))
  refine wpQuiet_nil ?_
  go_wp2_with fail
  refine (readf_all x2 p c2 _ y2 (by omega) cap2).mono ?_
  rw [HRP.out]
  rintro e w8 ⟨⟨x8, c8, rfl, ho⟩, hb⟩
  have y8 := ho.bts
  clear ho
  have hq := thru (Below.refl _ V3) hb
  have g8_0 := later hq g7_0
  have g8_1 := later hq g7_1
  have g8_2 := later hq g7_2
  have g8_3 := later hq g7_3
  have g8_4 := later hq g7_4
  have g8_5 := later hq g7_5
  have g8_6 := later hq g7_6
  have g8_7 := later hq g7_7
  have z8_0 : w.heap.size < w8.heap.size := Nat.lt_of_lt_of_le z7_0 hq.size
  have z8_1 : w.heap.size + 1 < w8.heap.size := Nat.lt_of_lt_of_le z7_1 hq.size
  replace hB := thru hB hq
  replace y2 := y2.later hq
  clear hb hq g7_0 g7_1 g7_2 g7_3 g7_4 g7_5 g7_6 g7_7 z7_0 z7_1
  go_wp2_with fail
  refine (same17_any _ _ _ x8 l c8 v n s x l cx _ (y8.later (al (Below.refl _ w8) _)) (hx.later (al hB _))).mono ?_
  rintro e w9 ⟨rfl, hb⟩
  rw [HSR.out]
  have hq := thru (al (Below.refl _ w8) _) hb
  have g9_0 := later hq g8_0
  have g9_1 := later hq g8_1
  have g9_2 := later hq g8_2
  have g9_3 := later hq g8_3
  have g9_4 := later hq g8_4
  have g9_5 := later hq g8_5
  have g9_6 := later hq g8_6
  have g9_7 := later hq g8_7
  have g9_8 := later (a := ⟨w8.heap.size, 0, none⟩) (v := .int .i64 (a1.toNat : Int)) hb (by go_simp)
  have g9_9 := later (a := ⟨w8.heap.size, 1, none⟩) (v := .int .i64 (b1.toNat : Int)) hb (by go_simp)
  have g9_10 := later (a := ⟨w8.heap.size, 2, none⟩) (v := .int .i64 (d1.toNat : Int)) hb (by go_simp)
  have g9_11 := later (a := ⟨w8.heap.size, 3, none⟩) (v := .slice x8 l.length c8) hb (by go_simp)
  have z9_0 : w.heap.size < w9.heap.size := Nat.lt_of_lt_of_le z8_0 hq.size
  have z9_1 : w.heap.size + 1 < w9.heap.size := Nat.lt_of_lt_of_le z8_1 hq.size
  have z9_2 : w8.heap.size < w9.heap.size := (by have := hb.size; first | omega | (simp at this; omega))
  replace hB := thru hB hq
  replace y2 := y2.later hq
  replace y8 := y8.later hq
  clear hb hq g8_0 g8_1 g8_2 g8_3 g8_4 g8_5 g8_6 g8_7 z8_0 z8_1
  go_wp2_with fail
  refine (toB (size_any (l.length : Int) _)).mono ?_
  rintro e wa ⟨rfl, hb⟩
  rw [HZ.out]
  have hq := thru (Below.refl _ w9) hb
  have g10_0 := later hq g9_0
  have g10_1 := later hq g9_1
  have g10_2 := later hq g9_2
  have g10_3 := later hq g9_3
  have g10_4 := later hq g9_4
  have g10_5 := later hq g9_5
  have g10_6 := later hq g9_6
  have g10_7 := later hq g9_7
  have g10_8 := later hq g9_8
  have g10_9 := later hq g9_9
  have g10_10 := later hq g9_10
  have g10_11 := later hq g9_11
  have z10_0 : w.heap.size < wa.heap.size := Nat.lt_of_lt_of_le z9_0 hq.size
  have z10_1 : w.heap.size + 1 < wa.heap.size := Nat.lt_of_lt_of_le z9_1 hq.size
  have z10_2 : w8.heap.size < wa.heap.size := Nat.lt_of_lt_of_le z9_2 hq.size
  replace hB := thru hB hq
  replace y2 := y2.later hq
  replace y8 := y8.later hq
  clear hb hq g9_0 g9_1 g9_2 g9_3 g9_4 g9_5 g9_6 g9_7 g9_8 g9_9 g9_10 g9_11 z9_0 z9_1 z9_2
  go_wp2_with fail
  refine (readf_all z t cz _ (hz.later hB) (by omega) hcz).mono ?_
  rw [HRB.out, HCB.out]
  rintro e wb ⟨rfl, hb⟩
  have hk0 := HK.out
  have hq := thru (Below.refl _ wa) hb
  have g11_0 := later hq g10_0
  have g11_1 := later hq g10_1
  have g11_2 := later hq g10_2
  have g11_3 := later hq g10_3
  have g11_4 := later hq g10_4
  have g11_5 := later hq g10_5
  have g11_6 := later hq g10_6
  have g11_7 := later hq g10_7
  have g11_8 := later hq g10_8
  have g11_9 := later hq g10_9
  have g11_10 := later hq g10_10
  have g11_11 := later hq g10_11
  have z11_0 : w.heap.size < wb.heap.size := Nat.lt_of_lt_of_le z10_0 hq.size
  have z11_1 : w.heap.size + 1 < wb.heap.size := Nat.lt_of_lt_of_le z10_1 hq.size
  have z11_2 : w8.heap.size < wb.heap.size := Nat.lt_of_lt_of_le z10_2 hq.size
  replace hB := thru hB hq
  clear hb hq g10_0 g10_1 g10_2 g10_3 g10_4 g10_5 g10_6 g10_7 g10_8 g10_9 g10_10 g10_11 z10_0 z10_1 z10_2
  go_wp2_with fail
  go_ret
  exact ⟨rfl, al hB _⟩
set_option maxHeartbeats 2000000 in
theorem back_111 (v n s : Int) (x : Option Addr) (l : List UInt8) (cx : Nat) (v' n' s' : Int) (y : Option Addr) (m : List UInt8) (cy : Nat) (z : Option Addr) (t : List UInt8) (cz : Nat) (w : World) (hd : DbAt w) (hx : Bts w x l) (hn : x = none → cx = 0) (hy : Bts w y m) (hm : y = none → cy = 0) (hz : Bts w z t) (hcz : t.length ≤ cz ∧ cz ≤ 9223372036854775807) (l3 : l.length ≤ 300) (m3 : m.length ≤ 300) (t3 : t.length ≤ 300)
    (p : List UInt8) (q : List UInt8) (a b d : UInt8) (r : List UInt8) (ho1 : bytesV v n s l = some p) (ho2 : bytesV v' n' s' m = some q) (hob : readV t = some (a, b, d, r)) : Calls Tryd.prog 7 #[.agg #[.int .i64 v, .int .i64 n, .int .i64 s, .slice x l.length cx], .agg #[.int .i64 v', .int .i64 n', .int .i64 s', .slice y m.length cy], .slice z t.length cz] w (YesOf w) := by
  have y0 : decide (300 < (l.length : Int)) = false := decide_eq_false (by omega)
  have y1 : decide (300 < (m.length : Int)) = false := decide_eq_false (by omega)
  have y2' : decide (300 < (t.length : Int)) = false := decide_eq_false (by omega)
  have HO1 := Lib.hid ho1
  have HO2 := Lib.hid ho2
  have HRB := Lib.hid hob
  obtain ⟨k, hk⟩ : ∃ k, codeV t = k := ⟨_, rfl⟩
  have HCB := Lib.hid hk
  have HK := Lib.hid (show (k != 0) = true by rw [← hk]; exact codeV_ne t)
  clear hk
  have HTT := Lib.hid (show (t == t) = true by simp)
  have hv1 := bytesV_inv ho1
  have HQ1 := Lib.hid hv1.1
  have hpl : p.length = l.length + 8 := by rw [hv1.2.1]; exact whole_length _ _ _ _
  have hr1 := readV_bytes ho1
  have hs1 : sameF ((u8i v).toNat : Int) ((u8i n).toNat : Int) ((u8i s).toNat : Int) l v n s l = true := by rw [← hv1.2.2.1, ← hv1.2.2.2.1, ← hv1.2.2.2.2]; unfold sameF; simp
  clear hv1
  obtain ⟨a1, ha1⟩ : ∃ a, u8i v = a := ⟨_, rfl⟩
  obtain ⟨b1, hb1⟩ : ∃ a, u8i n = a := ⟨_, rfl⟩
  obtain ⟨d1, hd1⟩ : ∃ a, u8i s = a := ⟨_, rfl⟩
  rw [ha1, hb1, hd1] at hr1 hs1
  have HRP := Lib.hid hr1
  have HSR := Lib.hid hs1
  have HZ := Lib.hid (show wrap64 ((l.length : Int) + 8) = (p.length : Int) by unfold wrap64; omega)
  have hp4 : p.length ≤ 400 := by omega
  clear ha1 hb1 hd1 hr1 hs1 hpl
  have hql : q.length ≤ 400 := by rw [(bytesV_inv ho2).2.1, whole_length]; omega
  obtain ⟨hti, hvb⟩ := readV_inv hob
  have HQB := Lib.hid hvb
  have HBB := Lib.hid (show bytesV (a.toNat : Int) (b.toNat : Int) (d.toNat : Int) r = some t by rw [bytesV_ok hvb, hti])
  clear hti hvb
  obtain ⟨sb, hsb⟩ : ∃ z, sameF v n s l v' n' s' m = z := ⟨_, rfl⟩
  have HSS := Lib.hid hsb
  have HSB := Lib.hid (show (p == q) = sb by rw [same_bytesV ho1 ho2, hsb])
  clear hsb
  clear ho1 ho2 hob
  have hB := Below.refl w.heap.size w
  go_enter Tryd.func7, Tryd.ntmps7
  go_wp2_with fail
  refine (awake_any _ (hd.later (al (al (Below.refl _ w) _) _))).mono ?_
  rintro e w1 ⟨rfl, hb⟩
  have hq := thru (al (al (Below.refl _ w) _) _) hb
  have g1_0 := later (a := ⟨w.heap.size, 0, none⟩) (v := .int .i64 v) hb (by go_simp)
  have g1_1 := later (a := ⟨w.heap.size, 1, none⟩) (v := .int .i64 n) hb (by go_simp)
  have g1_2 := later (a := ⟨w.heap.size, 2, none⟩) (v := .int .i64 s) hb (by go_simp)
  have g1_3 := later (a := ⟨w.heap.size, 3, none⟩) (v := .slice x l.length cx) hb (by go_simp)
  have g1_4 := later (a := ⟨w.heap.size + 1, 0, none⟩) (v := .int .i64 v') hb (by go_simp)
  have g1_5 := later (a := ⟨w.heap.size + 1, 1, none⟩) (v := .int .i64 n') hb (by go_simp)
  have g1_6 := later (a := ⟨w.heap.size + 1, 2, none⟩) (v := .int .i64 s') hb (by go_simp)
  have g1_7 := later (a := ⟨w.heap.size + 1, 3, none⟩) (v := .slice y m.length cy) hb (by go_simp)
  have z1_0 : w.heap.size < w1.heap.size := (by have := hb.size; first | omega | (simp at this; omega))
  have z1_1 : w.heap.size + 1 < w1.heap.size := (by have := hb.size; first | omega | (simp at this; omega))
  replace hB := thru hB hq
  clear hb hq 
  go_wp2_with fail
  refine (bytes_all v n s x l cx _ (hx.later hB) hn).mono ?_
  rw [HO1.out]
  rintro e w2 ⟨x2, c2, rfl, ho, hb⟩
  have y2 := ho.bts
  have cap2 := ho.le_cap
  clear ho
  have hq := thru (Below.refl _ w1) hb
  have g2_0 := later hq g1_0
  have g2_1 := later hq g1_1
  have g2_2 := later hq g1_2
  have g2_3 := later hq g1_3
  have g2_4 := later hq g1_4
  have g2_5 := later hq g1_5
  have g2_6 := later hq g1_6
  have g2_7 := later hq g1_7
  have z2_0 : w.heap.size < w2.heap.size := Nat.lt_of_lt_of_le z1_0 hq.size
  have z2_1 : w.heap.size + 1 < w2.heap.size := Nat.lt_of_lt_of_le z1_1 hq.size
  replace hB := thru hB hq
  clear hb hq g1_0 g1_1 g1_2 g1_3 g1_4 g1_5 g1_6 g1_7 z1_0 z1_1
  go_wp2_with fail
  refine (bytes_all v' n' s' y m cy _ (hy.later hB) hm).mono ?_
  rw [HO2.out]
  rintro e w3 ⟨x3, c3, rfl, ho, hb⟩
  have y3 := ho.bts
  clear ho
  have hq := thru (Below.refl _ w2) hb
  have g3_0 := later hq g2_0
  have g3_1 := later hq g2_1
  have g3_2 := later hq g2_2
  have g3_3 := later hq g2_3
  have g3_4 := later hq g2_4
  have g3_5 := later hq g2_5
  have g3_6 := later hq g2_6
  have g3_7 := later hq g2_7
  have z3_0 : w.heap.size < w3.heap.size := Nat.lt_of_lt_of_le z2_0 hq.size
  have z3_1 : w.heap.size + 1 < w3.heap.size := Nat.lt_of_lt_of_le z2_1 hq.size
  replace hB := thru hB hq
  replace y2 := y2.later hq
  clear hb hq g2_0 g2_1 g2_2 g2_3 g2_4 g2_5 g2_6 g2_7 z2_0 z2_1
  go_wp2_with fail
  refine wp_region_sched (fun W => W.cell? ⟨w.heap.size, 0, none⟩ = some (.int .i64 v) ∧ W.cell? ⟨w.heap.size, 1, none⟩ = some (.int .i64 n) ∧ W.cell? ⟨w.heap.size, 2, none⟩ = some (.int .i64 s) ∧ W.cell? ⟨w.heap.size, 3, none⟩ = some (.slice x l.length cx) ∧ W.cell? ⟨w.heap.size + 1, 0, none⟩ = some (.int .i64 v') ∧ W.cell? ⟨w.heap.size + 1, 1, none⟩ = some (.int .i64 n') ∧ W.cell? ⟨w.heap.size + 1, 2, none⟩ = some (.int .i64 s') ∧ W.cell? ⟨w.heap.size + 1, 3, none⟩ = some (.slice y m.length cy) ∧ w.heap.size < W.heap.size ∧ w.heap.size + 1 < W.heap.size ∧ Bts W x2 p ∧ Bts W x3 q ∧ Below w.heap.size w W) (.one [0, 1, 2] 3 (.one [4, 5, 6, 7, 8, 9, 10, 11, 12, 13, 14, 16, 17] 15 (.one [] 18 (.done [19, 20, 21])))) (by kernel_rfl) (by kernel_rfl) (fun _ _ _ _ _ h => h) ⟨(by go_simp), (by go_simp), (by go_simp), (by go_simp), (by go_simp), (by go_simp), (by go_simp), (by go_simp), (by simp <;> omega), (by simp <;> omega), y2, y3, hB.drew⟩ ?_
  clear hB g3_0 g3_1 g3_2 g3_3 g3_4 g3_5 g3_6 g3_7 z3_0 z3_1 y2 y3
  rintro W ⟨g4_0, g4_1, g4_2, g4_3, g4_4, g4_5, g4_6, g4_7, z4_0, z4_1, y2, y3, hB⟩
  rw [wpSched]
  simp only [pick, List.map_cons, List.map_nil, Array.getD_eq_getD_getElem?, List.getElem?_toArray, List.getElem?_cons_succ, List.getElem?_cons_zero, Option.getD_some]
  have kg4_0 := plusW_cell g4_0
  have kg4_1 := plusW_cell g4_1
  have kg4_2 := plusW_cell g4_2
  have kg4_3 := plusW_cell g4_3
  repeat (first | go_big_quiet_step (fail) | quiet_step (fail))
  refine wpQuiet_nil ?_
  clear kg4_0 kg4_1 kg4_2 kg4_3
  refine heavy_want (by rfl) (fun K' hK' => ?_)
  go_simp
  refine (valid_any v n s x l.length cx _).mono ?_
  rintro e V1 ⟨rfl, hb⟩
  refine hK' _ _ hb ?_
  clear hK' K'
  rw [HQ1.out]
  have hq := thru (Below.refl _ W) hb
  clear hb
  have g5_0 := later hq g4_0
  have g5_1 := later hq g4_1
  have g5_2 := later hq g4_2
  have g5_3 := later hq g4_3
  have g5_4 := later hq g4_4
  have g5_5 := later hq g4_5
  have g5_6 := later hq g4_6
  have g5_7 := later hq g4_7
  have z5_0 : w.heap.size < V1.heap.size := Nat.lt_of_lt_of_le z4_0 hq.size
  have z5_1 : w.heap.size + 1 < V1.heap.size := Nat.lt_of_lt_of_le z4_1 hq.size
  replace hB := thru hB hq
  replace y2 := y2.later hq
  replace y3 := y3.later hq
  clear hq g4_0 g4_1 g4_2 g4_3 g4_4 g4_5 g4_6 g4_7 z4_0 z4_1
  try simp only [Act.put, List.setIfInBounds_toArray, List.set_cons_zero, List.set_cons_succ]
  rw [wpSched]
  simp only [pick, List.map_cons, List.map_nil, Array.getD_eq_getD_getElem?, List.getElem?_toArray, List.getElem?_cons_succ, List.getElem?_cons_zero, Option.getD_some]
  have kg5_0 := plusW_cell g5_0
  have kg5_1 := plusW_cell g5_1
  have kg5_2 := plusW_cell g5_2
  have kg5_3 := plusW_cell g5_3
  have kg5_4 := plusW_cell g5_4
  have kg5_5 := plusW_cell g5_5
  have kg5_6 := plusW_cell g5_6
  have kg5_7 := plusW_cell g5_7
  repeat (first | go_big_quiet_step (fail) | quiet_step (fail))
  refine wpQuiet_nil ?_
  clear kg5_0 kg5_1 kg5_2 kg5_3 kg5_4 kg5_5 kg5_6 kg5_7
  refine heavy_want (by rfl) (fun K' hK' => ?_)
  go_simp
  refine (sameb_any x2 p c2 x3 q c3 _ y2 y3 (by omega) (by omega)).mono ?_
  rintro e V2 ⟨rfl, hb⟩
  refine hK' _ _ hb ?_
  clear hK' K'
  rw [HSB.out]
  have hq := thru (Below.refl _ V1) hb
  clear hb
  have g6_0 := later hq g5_0
  have g6_1 := later hq g5_1
  have g6_2 := later hq g5_2
  have g6_3 := later hq g5_3
  have g6_4 := later hq g5_4
  have g6_5 := later hq g5_5
  have g6_6 := later hq g5_6
  have g6_7 := later hq g5_7
  have z6_0 : w.heap.size < V2.heap.size := Nat.lt_of_lt_of_le z5_0 hq.size
  have z6_1 : w.heap.size + 1 < V2.heap.size := Nat.lt_of_lt_of_le z5_1 hq.size
  replace hB := thru hB hq
  replace y2 := y2.later hq
  replace y3 := y3.later hq
  clear hq g5_0 g5_1 g5_2 g5_3 g5_4 g5_5 g5_6 g5_7 z5_0 z5_1
  try simp only [Act.put, List.setIfInBounds_toArray, List.set_cons_zero, List.set_cons_succ]
  rw [wpSched]
  simp only [pick, List.map_nil, Array.getD_eq_getD_getElem?, List.getElem?_toArray, List.getElem?_cons_succ, List.getElem?_cons_zero, Option.getD_some]
  refine wpQuiet_nil ?_
  refine heavy_want (by rfl) (fun K' hK' => ?_)
  go_simp
  refine (same17_any v n s x l cx v' n' s' y m cy _ (hx.later hB) (hy.later hB)).mono ?_
  rintro e V3 ⟨rfl, hb⟩
  refine hK' _ _ hb ?_
  clear hK' K'
  rw [HSS.out]
  have hq := thru (Below.refl _ V2) hb
  clear hb
  have g7_0 := later hq g6_0
  have g7_1 := later hq g6_1
  have g7_2 := later hq g6_2
  have g7_3 := later hq g6_3
  have g7_4 := later hq g6_4
  have g7_5 := later hq g6_5
  have g7_6 := later hq g6_6
  have g7_7 := later hq g6_7
  have z7_0 : w.heap.size < V3.heap.size := Nat.lt_of_lt_of_le z6_0 hq.size
  have z7_1 : w.heap.size + 1 < V3.heap.size := Nat.lt_of_lt_of_le z6_1 hq.size
  replace hB := thru hB hq
  replace y2 := y2.later hq
  replace y3 := y3.later hq
  clear hq g6_0 g6_1 g6_2 g6_3 g6_4 g6_5 g6_6 g6_7 z6_0 z6_1
  try simp only [Act.put, List.setIfInBounds_toArray, List.set_cons_zero, List.set_cons_succ]
  rw [wpSched]
  simp only [pick, List.map_cons, List.map_nil, Array.getD_eq_getD_getElem?, List.getElem?_toArray, List.getElem?_cons_succ, List.getElem?_cons_zero, Option.getD_some]
  repeat (first | go_big_quiet_step (fail) | quiet_step (fail))
  refine wpQuiet_nil ?_
  go_wp2_with fail
  refine (readf_all x2 p c2 _ y2 (by omega) cap2).mono ?_
  rw [HRP.out]
  rintro e w8 ⟨⟨x8, c8, rfl, ho⟩, hb⟩
  have y8 := ho.bts
  clear ho
  have hq := thru (Below.refl _ V3) hb
  have g8_0 := later hq g7_0
  have g8_1 := later hq g7_1
  have g8_2 := later hq g7_2
  have g8_3 := later hq g7_3
  have g8_4 := later hq g7_4
  have g8_5 := later hq g7_5
  have g8_6 := later hq g7_6
  have g8_7 := later hq g7_7
  have z8_0 : w.heap.size < w8.heap.size := Nat.lt_of_lt_of_le z7_0 hq.size
  have z8_1 : w.heap.size + 1 < w8.heap.size := Nat.lt_of_lt_of_le z7_1 hq.size
  replace hB := thru hB hq
  replace y2 := y2.later hq
  clear hb hq g7_0 g7_1 g7_2 g7_3 g7_4 g7_5 g7_6 g7_7 z7_0 z7_1
  go_wp2_with fail
  refine (same17_any _ _ _ x8 l c8 v n s x l cx _ (y8.later (al (Below.refl _ w8) _)) (hx.later (al hB _))).mono ?_
  rintro e w9 ⟨rfl, hb⟩
  rw [HSR.out]
  have hq := thru (al (Below.refl _ w8) _) hb
  have g9_0 := later hq g8_0
  have g9_1 := later hq g8_1
  have g9_2 := later hq g8_2
  have g9_3 := later hq g8_3
  have g9_4 := later hq g8_4
  have g9_5 := later hq g8_5
  have g9_6 := later hq g8_6
  have g9_7 := later hq g8_7
  have g9_8 := later (a := ⟨w8.heap.size, 0, none⟩) (v := .int .i64 (a1.toNat : Int)) hb (by go_simp)
  have g9_9 := later (a := ⟨w8.heap.size, 1, none⟩) (v := .int .i64 (b1.toNat : Int)) hb (by go_simp)
  have g9_10 := later (a := ⟨w8.heap.size, 2, none⟩) (v := .int .i64 (d1.toNat : Int)) hb (by go_simp)
  have g9_11 := later (a := ⟨w8.heap.size, 3, none⟩) (v := .slice x8 l.length c8) hb (by go_simp)
  have z9_0 : w.heap.size < w9.heap.size := Nat.lt_of_lt_of_le z8_0 hq.size
  have z9_1 : w.heap.size + 1 < w9.heap.size := Nat.lt_of_lt_of_le z8_1 hq.size
  have z9_2 : w8.heap.size < w9.heap.size := (by have := hb.size; first | omega | (simp at this; omega))
  replace hB := thru hB hq
  replace y2 := y2.later hq
  replace y8 := y8.later hq
  clear hb hq g8_0 g8_1 g8_2 g8_3 g8_4 g8_5 g8_6 g8_7 z8_0 z8_1
  go_wp2_with fail
  refine (toB (size_any (l.length : Int) _)).mono ?_
  rintro e wa ⟨rfl, hb⟩
  rw [HZ.out]
  have hq := thru (Below.refl _ w9) hb
  have g10_0 := later hq g9_0
  have g10_1 := later hq g9_1
  have g10_2 := later hq g9_2
  have g10_3 := later hq g9_3
  have g10_4 := later hq g9_4
  have g10_5 := later hq g9_5
  have g10_6 := later hq g9_6
  have g10_7 := later hq g9_7
  have g10_8 := later hq g9_8
  have g10_9 := later hq g9_9
  have g10_10 := later hq g9_10
  have g10_11 := later hq g9_11
  have z10_0 : w.heap.size < wa.heap.size := Nat.lt_of_lt_of_le z9_0 hq.size
  have z10_1 : w.heap.size + 1 < wa.heap.size := Nat.lt_of_lt_of_le z9_1 hq.size
  have z10_2 : w8.heap.size < wa.heap.size := Nat.lt_of_lt_of_le z9_2 hq.size
  replace hB := thru hB hq
  replace y2 := y2.later hq
  replace y8 := y8.later hq
  clear hb hq g9_0 g9_1 g9_2 g9_3 g9_4 g9_5 g9_6 g9_7 g9_8 g9_9 g9_10 g9_11 z9_0 z9_1 z9_2
  go_wp2_with fail
  refine (readf_all z t cz _ (hz.later hB) (by omega) hcz).mono ?_
  rw [HRB.out]
  rintro e wb ⟨⟨x9, c9, rfl, ho⟩, hb⟩
  have y9 := ho.bts
  have n9 := ho.none_cap
  clear ho
  have hq := thru (Below.refl _ wa) hb
  have g11_0 := later hq g10_0
  have g11_1 := later hq g10_1
  have g11_2 := later hq g10_2
  have g11_3 := later hq g10_3
  have g11_4 := later hq g10_4
  have g11_5 := later hq g10_5
  have g11_6 := later hq g10_6
  have g11_7 := later hq g10_7
  have g11_8 := later hq g10_8
  have g11_9 := later hq g10_9
  have g11_10 := later hq g10_10
  have g11_11 := later hq g10_11
  have z11_0 : w.heap.size < wb.heap.size := Nat.lt_of_lt_of_le z10_0 hq.size
  have z11_1 : w.heap.size + 1 < wb.heap.size := Nat.lt_of_lt_of_le z10_1 hq.size
  have z11_2 : w8.heap.size < wb.heap.size := Nat.lt_of_lt_of_le z10_2 hq.size
  replace hB := thru hB hq
  clear hb hq g10_0 g10_1 g10_2 g10_3 g10_4 g10_5 g10_6 g10_7 g10_8 g10_9 g10_10 g10_11 z10_0 z10_1 z10_2
  go_wp2_with fail
  refine (bytes_all (a.toNat : Int) (b.toNat : Int) (d.toNat : Int) x9 r c9 _ (y9.later (al (Below.refl _ wb) _)) n9).mono ?_
  rw [HBB.out]
  rintro e wc ⟨xa, ca, rfl, ho, hb⟩
  have ya := ho.bts
  clear ho
  have hq := thru (al (Below.refl _ wb) _) hb
  have g12_0 := later hq g11_0
  have g12_1 := later hq g11_1
  have g12_2 := later hq g11_2
  have g12_3 := later hq g11_3
  have g12_4 := later hq g11_4
  have g12_5 := later hq g11_5
  have g12_6 := later hq g11_6
  have g12_7 := later hq g11_7
  have g12_8 := later hq g11_8
  have g12_9 := later hq g11_9
  have g12_10 := later hq g11_10
  have g12_11 := later hq g11_11
  have g12_12 := later (a := ⟨wb.heap.size, 0, none⟩) (v := .int .i64 (a.toNat : Int)) hb (by go_simp)
  have g12_13 := later (a := ⟨wb.heap.size, 1, none⟩) (v := .int .i64 (b.toNat : Int)) hb (by go_simp)
  have g12_14 := later (a := ⟨wb.heap.size, 2, none⟩) (v := .int .i64 (d.toNat : Int)) hb (by go_simp)
  have g12_15 := later (a := ⟨wb.heap.size, 3, none⟩) (v := .slice x9 r.length c9) hb (by go_simp)
  have z12_0 : w.heap.size < wc.heap.size := Nat.lt_of_lt_of_le z11_0 hq.size
  have z12_1 : w.heap.size + 1 < wc.heap.size := Nat.lt_of_lt_of_le z11_1 hq.size
  have z12_2 : w8.heap.size < wc.heap.size := Nat.lt_of_lt_of_le z11_2 hq.size
  have z12_3 : wb.heap.size < wc.heap.size := (by have := hb.size; first | omega | (simp at this; omega))
  replace hB := thru hB hq
  replace y9 := y9.later hq
  clear hb hq g11_0 g11_1 g11_2 g11_3 g11_4 g11_5 g11_6 g11_7 g11_8 g11_9 g11_10 g11_11 z11_0 z11_1 z11_2
  go_wp2_with fail
  refine (valid_any (a.toNat : Int) (b.toNat : Int) (d.toNat : Int) x9 r.length c9 _).mono ?_
  rintro e wd ⟨rfl, hb⟩
  rw [HQB.out]
  have hq := thru (Below.refl _ wc) hb
  have g13_0 := later hq g12_0
  have g13_1 := later hq g12_1
  have g13_2 := later hq g12_2
  have g13_3 := later hq g12_3
  have g13_4 := later hq g12_4
  have g13_5 := later hq g12_5
  have g13_6 := later hq g12_6
  have g13_7 := later hq g12_7
  have g13_8 := later hq g12_8
  have g13_9 := later hq g12_9
  have g13_10 := later hq g12_10
  have g13_11 := later hq g12_11
  have g13_12 := later hq g12_12
  have g13_13 := later hq g12_13
  have g13_14 := later hq g12_14
  have g13_15 := later hq g12_15
  have z13_0 : w.heap.size < wd.heap.size := Nat.lt_of_lt_of_le z12_0 hq.size
  have z13_1 : w.heap.size + 1 < wd.heap.size := Nat.lt_of_lt_of_le z12_1 hq.size
  have z13_2 : w8.heap.size < wd.heap.size := Nat.lt_of_lt_of_le z12_2 hq.size
  have z13_3 : wb.heap.size < wd.heap.size := Nat.lt_of_lt_of_le z12_3 hq.size
  replace hB := thru hB hq
  replace y9 := y9.later hq
  replace ya := ya.later hq
  clear hb hq g12_0 g12_1 g12_2 g12_3 g12_4 g12_5 g12_6 g12_7 g12_8 g12_9 g12_10 g12_11 g12_12 g12_13 g12_14 g12_15 z12_0 z12_1 z12_2 z12_3
  go_wp2_with fail
  refine (sameb_any xa t ca z t cz _ ya (hz.later hB) (by omega) (by omega)).mono ?_
  rintro e we ⟨rfl, hb⟩
  rw [HTT.out]
  have hq := thru (Below.refl _ wd) hb
  have g14_0 := later hq g13_0
  have g14_1 := later hq g13_1
  have g14_2 := later hq g13_2
  have g14_3 := later hq g13_3
  have g14_4 := later hq g13_4
  have g14_5 := later hq g13_5
  have g14_6 := later hq g13_6
  have g14_7 := later hq g13_7
  have g14_8 := later hq g13_8
  have g14_9 := later hq g13_9
  have g14_10 := later hq g13_10
  have g14_11 := later hq g13_11
  have g14_12 := later hq g13_12
  have g14_13 := later hq g13_13
  have g14_14 := later hq g13_14
  have g14_15 := later hq g13_15
  have z14_0 : w.heap.size < we.heap.size := Nat.lt_of_lt_of_le z13_0 hq.size
  have z14_1 : w.heap.size + 1 < we.heap.size := Nat.lt_of_lt_of_le z13_1 hq.size
  have z14_2 : w8.heap.size < we.heap.size := Nat.lt_of_lt_of_le z13_2 hq.size
  have z14_3 : wb.heap.size < we.heap.size := Nat.lt_of_lt_of_le z13_3 hq.size
  replace hB := thru hB hq
  replace y9 := y9.later hq
  replace ya := ya.later hq
  clear hb hq g13_0 g13_1 g13_2 g13_3 g13_4 g13_5 g13_6 g13_7 g13_8 g13_9 g13_10 g13_11 g13_12 g13_13 g13_14 g13_15 z13_0 z13_1 z13_2 z13_3
  go_wp2_with fail
  go_ret
  exact ⟨rfl, hB⟩

end Go.Proofs.YtjnjjnkanbnliaaDoor
