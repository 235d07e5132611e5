/- WALKS of the laws of the frame layer: FrameBack, its first half. -/
import Derived.Test.YtjnjjnkanbnliaaDoorLawB17
namespace Go.Proofs.YtjnjjnkanbnliaaDoor
open Go.RowKit

theorem bytesV_inv {v n s : Int} {l p : List UInt8} (h : bytesV v n s l = some p) : vldF v n s l.length = true ∧ p = wholeF (u8i v) (u8i n) (u8i s) l ∧ v = ((u8i v).toNat : Int) ∧ n = ((u8i n).toNat : Int) ∧ s = ((u8i s).toNat : Int) := by
  unfold bytesV at h
  by_cases hv : vldF v n s l.length = true
  · rw [if_pos hv] at h
    obtain ⟨h1, h2, h3, _⟩ := (vldF_iff _ _ _ _).1 hv
    exact ⟨hv, (Option.some.inj h).symm, u8i_of (by omega), u8i_of (by omega), u8i_of (by omega)⟩
  · rw [if_neg hv] at h; cases h
theorem bytesV_none {v n s : Int} {l : List UInt8} (h : bytesV v n s l = none) : vldF v n s l.length = false := by
  unfold bytesV at h
  by_cases hv : vldF v n s l.length = true
  · rw [if_pos hv] at h; cases h
  · simpa using hv
theorem readV_bytes {v n s : Int} {l p : List UInt8} (h : bytesV v n s l = some p) : readV p = some (u8i v, u8i n, u8i s, l) := by
  obtain ⟨hv, rfl, e1, e2, e3⟩ := bytesV_inv h
  exact readV_whole (by rw [← e1, ← e2, ← e3]; exact hv)
theorem same_bytesV {v n s v' n' s' : Int} {l m p q : List UInt8} (h : bytesV v n s l = some p) (h' : bytesV v' n' s' m = some q) : (p == q) = sameF v n s l v' n' s' m := by
  have r1 := readV_bytes h
  have r2 := readV_bytes h'
  obtain ⟨_, hp, e1, e2, e3⟩ := bytesV_inv h
  obtain ⟨_, hq, e1', e2', e3'⟩ := bytesV_inv h'
  rw [Bool.eq_iff_iff]
  unfold sameF
  simp only [Bool.and_eq_true, beq_iff_eq]
  constructor
  · intro hpq
    rw [hpq, r2] at r1
    simp only [Option.some.injEq, Prod.mk.injEq] at r1
    obtain ⟨a1, a2, a3, a4⟩ := r1
    exact ⟨by rw [e1, e1', a1], by rw [e2, e2', a2], by rw [e3, e3', a3], a4.symm⟩
  · rintro ⟨rfl, rfl, rfl, rfl⟩
    rw [hp, hq]
theorem codeV_ne (l : List UInt8) : (codeV l != 0) = true := by unfold codeV; split <;> rfl

set_option maxHeartbeats 1000000 in
theorem back_long (v n s : Int) (x : Option Addr) (l : List UInt8) (cx : Nat) (v' n' s' : Int) (y : Option Addr) (m : List UInt8) (cy : Nat) (z : Option Addr) (t : List UInt8) (cz : Nat) (w : World) (hd : DbAt w) (_hx : Bts w x l) (_hn : x = none → cx = 0) (_hy : Bts w y m) (_hm : y = none → cy = 0) (_hz : Bts w z t) (_hcz : t.length ≤ cz ∧ cz ≤ 9223372036854775807)
    (hlong : 300 < l.length ∨ 300 < m.length ∨ 300 < t.length) (h63 : l.length ≤ 9223372036854775807 ∧ m.length ≤ 9223372036854775807) : Calls Tryd.prog 7 #[.agg #[.int .i64 v, .int .i64 n, .int .i64 s, .slice x l.length cx], .agg #[.int .i64 v', .int .i64 n', .int .i64 s', .slice y m.length cy], .slice z t.length cz] w (YesOf w) := by
  obtain ⟨h63a, h63b⟩ := h63
  by_cases c0 : 300 < (l.length : Int)
  · have y0 : decide (300 < (l.length : Int)) = true := decide_eq_true c0
    have hB := Below.refl w.heap.size w
    go_enter Tryd.func7, Tryd.ntmps7
    go_wp2_with fail
    refine (awake_any _ (hd.later (al (al (Below.refl _ w) _) _))).mono ?_
    rintro e w1 ⟨rfl, hb⟩
    have hq := thru (al (al (Below.refl _ w) _) _) hb
    have g1_0 := later (a := ⟨w.heap.size, 0, none⟩) (v := .int .i64 v) hb (by go_simp)
    have g1_1 := later (a := ⟨w.heap.size, 1, none⟩) (v := .int .i64 n) hb (by go_simp)
    have g1_2 := later (a := ⟨w.heap.size, 2, none⟩) (v := .int .i64 s) hb (by go_simp)
    have g1_3 := later (a := ⟨w.heap.size, 3, none⟩) (v := .slice x l.length cx) hb (by go_simp)
    have g1_4 := later (a := ⟨w.heap.size + 1, 0, none⟩) (v := .int .i64 v') hb (by go_simp)
    have g1_5 := later (a := ⟨w.heap.size + 1, 1, none⟩) (v := .int .i64 n') hb (by go_simp)
    have g1_6 := later (a := ⟨w.heap.size + 1, 2, none⟩) (v := .int .i64 s') hb (by go_simp)
    have g1_7 := later (a := ⟨w.heap.size + 1, 3, none⟩) (v := .slice y m.length cy) hb (by go_simp)
    have z1_0 : w.heap.size < w1.heap.size := (by have := hb.size; first | omega | (simp at this; omega))
    have z1_1 : w.heap.size + 1 < w1.heap.size := (by have := hb.size; first | omega | (simp at this; omega))
    replace hB := thru hB hq
    clear hb hq 
    go_wp2_with fail
    go_ret
    exact ⟨rfl, hB⟩
  · have y0 : decide (300 < (l.length : Int)) = false := decide_eq_false c0
    by_cases c1 : 300 < (m.length : Int)
    · have y1 : decide (300 < (m.length : Int)) = true := decide_eq_true c1
      have hB := Below.refl w.heap.size w
      go_enter Tryd.func7, Tryd.ntmps7
      go_wp2_with fail
      refine (awake_any _ (hd.later (al (al (Below.refl _ w) _) _))).mono ?_
      rintro e w1 ⟨rfl, hb⟩
      have hq := thru (al (al (Below.refl _ w) _) _) hb
      have g1_0 := later (a := ⟨w.heap.size, 0, none⟩) (v := .int .i64 v) hb (by go_simp)
      have g1_1 := later (a := ⟨w.heap.size, 1, none⟩) (v := .int .i64 n) hb (by go_simp)
      have g1_2 := later (a := ⟨w.heap.size, 2, none⟩) (v := .int .i64 s) hb (by go_simp)
      have g1_3 := later (a := ⟨w.heap.size, 3, none⟩) (v := .slice x l.length cx) hb (by go_simp)
      have g1_4 := later (a := ⟨w.heap.size + 1, 0, none⟩) (v := .int .i64 v') hb (by go_simp)
      have g1_5 := later (a := ⟨w.heap.size + 1, 1, none⟩) (v := .int .i64 n') hb (by go_simp)
      have g1_6 := later (a := ⟨w.heap.size + 1, 2, none⟩) (v := .int .i64 s') hb (by go_simp)
      have g1_7 := later (a := ⟨w.heap.size + 1, 3, none⟩) (v := .slice y m.length cy) hb (by go_simp)
      have z1_0 : w.heap.size < w1.heap.size := (by have := hb.size; first | omega | (simp at this; omega))
      have z1_1 : w.heap.size + 1 < w1.heap.size := (by have := hb.size; first | omega | (simp at this; omega))
      replace hB := thru hB hq
      clear hb hq 
      go_wp2_with fail
      go_ret
      exact ⟨rfl, hB⟩
    · have y1 : decide (300 < (m.length : Int)) = false := decide_eq_false c1
      have y2 : decide (300 < (t.length : Int)) = true := decide_eq_true (by omega)
      have hB := Below.refl w.heap.size w
      go_enter Tryd.func7, Tryd.ntmps7
      go_wp2_with fail
      refine (awake_any _ (hd.later (al (al (Below.refl _ w) _) _))).mono ?_
      rintro e w1 ⟨rfl, hb⟩
      have hq := thru (al (al (Below.refl _ w) _) _) hb
      have g1_0 := later (a := ⟨w.heap.size, 0, none⟩) (v := .int .i64 v) hb (by go_simp)
      have g1_1 := later (a := ⟨w.heap.size, 1, none⟩) (v := .int .i64 n) hb (by go_simp)
      have g1_2 := later (a := ⟨w.heap.size, 2, none⟩) (v := .int .i64 s) hb (by go_simp)
      have g1_3 := later (a := ⟨w.heap.size, 3, none⟩) (v := .slice x l.length cx) hb (by go_simp)
      have g1_4 := later (a := ⟨w.heap.size + 1, 0, none⟩) (v := .int .i64 v') hb (by go_simp)
      have g1_5 := later (a := ⟨w.heap.size + 1, 1, none⟩) (v := .int .i64 n') hb (by go_simp)
      have g1_6 := later (a := ⟨w.heap.size + 1, 2, none⟩) (v := .int .i64 s') hb (by go_simp)
      have g1_7 := later (a := ⟨w.heap.size + 1, 3, none⟩) (v := .slice y m.length cy) hb (by go_simp)
      have z1_0 : w.heap.size < w1.heap.size := (by have := hb.size; first | omega | (simp at this; omega))
      have z1_1 : w.heap.size + 1 < w1.heap.size := (by have := hb.size; first | omega | (simp at this; omega))
      replace hB := thru hB hq
      clear hb hq 
      go_wp2_with fail
      go_ret
      exact ⟨rfl, hB⟩
set_option maxHeartbeats 2000000 in
theorem back_000 (v n s : Int) (x : Option Addr) (l : List UInt8) (cx : Nat) (v' n' s' : Int) (y : Option Addr) (m : List UInt8) (cy : Nat) (z : Option Addr) (t : List UInt8) (cz : Nat) (w : World) (hd : DbAt w) (hx : Bts w x l) (hn : x = none → cx = 0) (hy : Bts w y m) (hm : y = none → cy = 0) (hz : Bts w z t) (hcz : t.length ≤ cz ∧ cz ≤ 9223372036854775807) (l3 : l.length ≤ 300) (m3 : m.length ≤ 300) (t3 : t.length ≤ 300)
    (ho1 : bytesV v n s l = none) (ho2 : bytesV v' n' s' m = none) (hob : readV t = none) : Calls Tryd.prog 7 #[.agg #[.int .i64 v, .int .i64 n, .int .i64 s, .slice x l.length cx], .agg #[.int .i64 v', .int .i64 n', .int .i64 s', .slice y m.length cy], .slice z t.length cz] w (YesOf w) := by
  have y0 : decide (300 < (l.length : Int)) = false := decide_eq_false (by omega)
  have y1 : decide (300 < (m.length : Int)) = false := decide_eq_false (by omega)
  have y2' : decide (300 < (t.length : Int)) = false := decide_eq_false (by omega)
  have HO1 := Lib.hid ho1
  have HO2 := Lib.hid ho2
  have HRB := Lib.hid hob
  obtain ⟨k, hk⟩ : ∃ k, codeV t = k := ⟨_, rfl⟩
  have HCB := Lib.hid hk
  have HK := Lib.hid (show (k != 0) = true by rw [← hk]; exact codeV_ne t)
  clear hk
  have HTT := Lib.hid (show (t == t) = true by simp)
  have HQ1 := Lib.hid (bytesV_none ho1)
  clear ho1 ho2 hob
  have hB := Below.refl w.heap.size w
  go_enter Tryd.func7, Tryd.ntmps7
  go_wp2_with fail
  refine (awake_any _ (hd.later (al (al (Below.refl _ w) _) _))).mono ?_
  rintro e w1 ⟨rfl, hb⟩
  have hq := thru (al (al (Below.refl _ w) _) _) hb
  have g1_0 := later (a := ⟨w.heap.size, 0, none⟩) (v := .int .i64 v) hb (by go_simp)
  have g1_1 := later (a := ⟨w.heap.size, 1, none⟩) (v := .int .i64 n) hb (by go_simp)
  have g1_2 := later (a := ⟨w.heap.size, 2, none⟩) (v := .int .i64 s) hb (by go_simp)
  have g1_3 := later (a := ⟨w.heap.size, 3, none⟩) (v := .slice x l.length cx) hb (by go_simp)
  have g1_4 := later (a := ⟨w.heap.size + 1, 0, none⟩) (v := .int .i64 v') hb (by go_simp)
  have g1_5 := later (a := ⟨w.heap.size + 1, 1, none⟩) (v := .int .i64 n') hb (by go_simp)
  have g1_6 := later (a := ⟨w.heap.size + 1, 2, none⟩) (v := .int .i64 s') hb (by go_simp)
  have g1_7 := later (a := ⟨w.heap.size + 1, 3, none⟩) (v := .slice y m.length cy) hb (by go_simp)
  have z1_0 : w.heap.size < w1.heap.size := (by have := hb.size; first | omega | (simp at this; omega))
  have z1_1 : w.heap.size + 1 < w1.heap.size := (by have := hb.size; first | omega | (simp at this; omega))
  replace hB := thru hB hq
  clear hb hq 
  go_wp2_with fail
  refine (bytes_all v n s x l cx _ (hx.later hB) hn).mono ?_
  rw [HO1.out]
  rintro e w2 ⟨rfl, hb⟩
  have hq := thru (Below.refl _ w1) hb
  have g2_0 := later hq g1_0
  have g2_1 := later hq g1_1
  have g2_2 := later hq g1_2
  have g2_3 := later hq g1_3
  have g2_4 := later hq g1_4
  have g2_5 := later hq g1_5
  have g2_6 := later hq g1_6
  have g2_7 := later hq g1_7
  have z2_0 : w.heap.size < w2.heap.size := Nat.lt_of_lt_of_le z1_0 hq.size
  have z2_1 : w.heap.size + 1 < w2.heap.size := Nat.lt_of_lt_of_le z1_1 hq.size
  replace hB := thru hB hq
  clear hb hq g1_0 g1_1 g1_2 g1_3 g1_4 g1_5 g1_6 g1_7 z1_0 z1_1
  go_wp2_with fail
  refine (bytes_all v' n' s' y m cy _ (hy.later hB) hm).mono ?_
  rw [HO2.out]
  rintro e w3 ⟨rfl, hb⟩
  have hq := thru (Below.refl _ w2) hb
  have g3_0 := later hq g2_0
  have g3_1 := later hq g2_1
  have g3_2 := later hq g2_2
  have g3_3 := later hq g2_3
  have g3_4 := later hq g2_4
  have g3_5 := later hq g2_5
  have g3_6 := later hq g2_6
  have g3_7 := later hq g2_7
  have z3_0 : w.heap.size < w3.heap.size := Nat.lt_of_lt_of_le z2_0 hq.size
  have z3_1 : w.heap.size + 1 < w3.heap.size := Nat.lt_of_lt_of_le z2_1 hq.size
  replace hB := thru hB hq
  clear hb hq g2_0 g2_1 g2_2 g2_3 g2_4 g2_5 g2_6 g2_7 z2_0 z2_1
  go_wp2_with fail
  refine wp_region_sched (fun W => W.cell? ⟨w.heap.size, 0, none⟩ = some (.int .i64 v) ∧ W.cell? ⟨w.heap.size, 1, none⟩ = some (.int .i64 n) ∧ W.cell? ⟨w.heap.size, 2, none⟩ = some (.int .i64 s) ∧ W.cell? ⟨w.heap.size, 3, none⟩ = some (.slice x l.length cx) ∧ W.cell? ⟨w.heap.size + 1, 0, none⟩ = some (.int .i64 v') ∧ W.cell? ⟨w.heap.size + 1, 1, none⟩ = some (.int .i64 n') ∧ W.cell? ⟨w.heap.size + 1, 2, none⟩ = some (.int .i64 s') ∧ W.cell? ⟨w.heap.size + 1, 3, none⟩ = some (.slice y m.length cy) ∧ w.heap.size < W.heap.size ∧ w.heap.size + 1 < W.heap.size ∧ Below w.heap.size w W) (.one [0, 1, 2] 3 (.one [4, 5, 6, 7, 8, 9, 10, 11, 12, 13, 14, 16, 17] 15 (.one [] 18 (.done [19, 20, 21])))) (by kernel_rfl) (by kernel_rfl) (fun _ _ _ _ _ h => h) ⟨(by go_simp), (by go_simp), (by go_simp), (by go_simp), (by go_simp), (by go_simp), (by go_simp), (by go_simp), (by simp <;> omega), (by simp <;> omega), hB.drew⟩ ?_
  clear hB g3_0 g3_1 g3_2 g3_3 g3_4 g3_5 g3_6 g3_7 z3_0 z3_1
  rintro W ⟨g4_0, g4_1, g4_2, g4_3, g4_4, g4_5, g4_6, g4_7, z4_0, z4_1, hB⟩
  rw [wpSched]
  simp only [pick, List.map_cons, List.map_nil, Array.getD_eq_getD_getElem?, List.getElem?_toArray, List.getElem?_cons_succ, List.getElem?_cons_zero, Option.getD_some]
  have kg4_0 := plusW_cell g4_0
  have kg4_1 := plusW_cell g4_1
  have kg4_2 := plusW_cell g4_2
  have kg4_3 := plusW_cell g4_3
  repeat (first | go_big_quiet_step (fail) | quiet_step (fail))
  refine wpQuiet_nil ?_
  clear kg4_0 kg4_1 kg4_2 kg4_3
  refine heavy_want (by rfl) (fun K' hK' => ?_)
  go_simp
  refine (valid_any v n s x l.length cx _).mono ?_
  rintro e V1 ⟨rfl, hb⟩
  refine hK' _ _ hb ?_
  clear hK' K'
  rw [HQ1.out]
  have hq := thru (Below.refl _ W) hb
  clear hb
  have g5_0 := later hq g4_0
  have g5_1 := later hq g4_1
  have g5_2 := later hq g4_2
  have g5_3 := later hq g4_3
  have g5_4 := later hq g4_4
  have g5_5 := later hq g4_5
  have g5_6 := later hq g4_6
  have g5_7 := later hq g4_7
  have z5_0 : w.heap.size < V1.heap.size := Nat.lt_of_lt_of_le z4_0 hq.size
  have z5_1 : w.heap.size + 1 < V1.heap.size := Nat.lt_of_lt_of_le z4_1 hq.size
  replace hB := thru hB hq
  clear hq g4_0 g4_1 g4_2 g4_3 g4_4 g4_5 g4_6 g4_7 z4_0 z4_1
  try simp only [Act.put, List.setIfInBounds_toArray, List.set_cons_zero, List.set_cons_succ]
  rw [wpSched]
  simp only [pick, List.map_cons, List.map_nil, Array.getD_eq_getD_getElem?, List.getElem?_toArray, List.getElem?_cons_succ, List.getElem?_cons_zero, Option.getD_some]
  have kg5_0 := plusW_cell g5_0
  have kg5_1 := plusW_cell g5_1
  have kg5_2 := plusW_cell g5_2
  have kg5_3 := plusW_cell g5_3
  have kg5_4 := plusW_cell g5_4
  have kg5_5 := plusW_cell g5_5
  have kg5_6 := plusW_cell g5_6
  have kg5_7 := plusW_cell g5_7
  repeat (first | go_big_quiet_step (fail) | quiet_step (fail))
  refine wpQuiet_nil ?_
  clear kg5_0 kg5_1 kg5_2 kg5_3 kg5_4 kg5_5 kg5_6 kg5_7
  refine heavy_skip (by rfl) ?_
  try simp only [Act.put, List.setIfInBounds_toArray, List.set_cons_zero, List.set_cons_succ]
  rw [wpSched]
  simp only [pick, List.map_nil, Array.getD_eq_getD_getElem?, List.getElem?_toArray, List.getElem?_cons_succ, List.getElem?_cons_zero, Option.getD_some]
  refine wpQuiet_nil ?_
  refine heavy_skip (by rfl) ?_
  try simp only [Act.put, List.setIfInBounds_toArray, List.set_cons_zero, List.set_cons_succ]
  rw [wpSched]
  simp only [pick, List.map_cons, List.map_nil, Array.getD_eq_getD_getElem?, List.getElem?_toArray, List.getElem?_cons_succ, List.getElem?_cons_zero, Option.getD_some]
  repeat (first | go_big_quiet_step (fail) | quiet_step (fail))
  refine wpQuiet_nil ?_
  go_wp2_with fail
  refine (readf_all z t cz _ (hz.later hB) (by omega) hcz).mono ?_
  rw [HRB.out, HCB.out]
  rintro e wb ⟨rfl, hb⟩
  have hk0 := HK.out
  have hq := thru (Below.refl _ V1) hb
  have g6_0 := later hq g5_0
  have g6_1 := later hq g5_1
  have g6_2 := later hq g5_2
  have g6_3 := later hq g5_3
  have g6_4 := later hq g5_4
  have g6_5 := later hq g5_5
  have g6_6 := later hq g5_6
  have g6_7 := later hq g5_7
  have z6_0 : w.heap.size < wb.heap.size := Nat.lt_of_lt_of_le z5_0 hq.size
  have z6_1 : w.heap.size + 1 < wb.heap.size := Nat.lt_of_lt_of_le z5_1 hq.size
  replace hB := thru hB hq
  clear hb hq g5_0 g5_1 g5_2 g5_3 g5_4 g5_5 g5_6 g5_7 z5_0 z5_1
  go_wp2_with fail
  go_ret
  exact ⟨rfl, al hB _⟩
set_option maxHeartbeats 2000000 in
theorem back_001 (v n s : Int) (x : Option Addr) (l : List UInt8) (cx : Nat) (v' n' s' : Int) (y : Option Addr) (m : List UInt8) (cy : Nat) (z : Option Addr) (t : List UInt8) (cz : Nat) (w : World) (hd : DbAt w) (hx : Bts w x l) (hn : x = none → cx = 0) (hy : Bts w y m) (hm : y = none → cy = 0) (hz : Bts w z t) (hcz : t.length ≤ cz ∧ cz ≤ 9223372036854775807) (l3 : l.length ≤ 300) (m3 : m.length ≤ 300) (t3 : t.length ≤ 300)
    (a b d : UInt8) (r : List UInt8) (ho1 : bytesV v n s l = none) (ho2 : bytesV v' n' s' m = none) (hob : readV t = some (a, b, d, r)) : Calls Tryd.prog 7 #[.agg #[.int .i64 v, .int .i64 n, .int .i64 s, .slice x l.length cx], .agg #[.int .i64 v', .int .i64 n', .int .i64 s', .slice y m.length cy], .slice z t.length cz] w (YesOf w) := by
  have y0 : decide (300 < (l.length : Int)) = false := decide_eq_false (by omega)
  have y1 : decide (300 < (m.length : Int)) = false := decide_eq_false (by omega)
  have y2' : decide (300 < (t.length : Int)) = false := decide_eq_false (by omega)
  have HO1 := Lib.hid ho1
  have HO2 := Lib.hid ho2
  have HRB := Lib.hid hob
  obtain ⟨k, hk⟩ : ∃ k, codeV t = k := ⟨_, rfl⟩
  have HCB := Lib.hid hk
  have HK := Lib.hid (show (k != 0) = true by rw [← hk]; exact codeV_ne t)
  clear hk
  have HTT := Lib.hid (show (t == t) = true by simp)
  have HQ1 := Lib.hid (bytesV_none ho1)
  obtain ⟨hti, hvb⟩ := readV_inv hob
  have HQB := Lib.hid hvb
  have HBB := Lib.hid (show bytesV (a.toNat : Int) (b.toNat : Int) (d.toNat : Int) r = some t by rw [bytesV_ok hvb, hti])
  clear hti hvb
  clear ho1 ho2 hob
  have hB := Below.refl w.heap.size w
  go_enter Tryd.func7, Tryd.ntmps7
  go_wp2_with fail
  refine (awake_any _ (hd.later (al (al (Below.refl _ w) _) _))).mono ?_
  rintro e w1 ⟨rfl, hb⟩
  have hq := thru (al (al (Below.refl _ w) _) _) hb
  have g1_0 := later (a := ⟨w.heap.size, 0, none⟩) (v := .int .i64 v) hb (by go_simp)
  have g1_1 := later (a := ⟨w.heap.size, 1, none⟩) (v := .int .i64 n) hb (by go_simp)
  have g1_2 := later (a := ⟨w.heap.size, 2, none⟩) (v := .int .i64 s) hb (by go_simp)
  have g1_3 := later (a := ⟨w.heap.size, 3, none⟩) (v := .slice x l.length cx) hb (by go_simp)
  have g1_4 := later (a := ⟨w.heap.size + 1, 0, none⟩) (v := .int .i64 v') hb (by go_simp)
  have g1_5 := later (a := ⟨w.heap.size + 1, 1, none⟩) (v := .int .i64 n') hb (by go_simp)
  have g1_6 := later (a := ⟨w.heap.size + 1, 2, none⟩) (v := .int .i64 s') hb (by go_simp)
  have g1_7 := later (a := ⟨w.heap.size + 1, 3, none⟩) (v := .slice y m.length cy) hb (by go_simp)
  have z1_0 : w.heap.size < w1.heap.size := (by have := hb.size; first | omega | (simp at this; omega))
  have z1_1 : w.heap.size + 1 < w1.heap.size := (by have := hb.size; first | omega | (simp at this; omega))
  replace hB := thru hB hq
  clear hb hq 
  go_wp2_with fail
  refine (bytes_all v n s x l cx _ (hx.later hB) hn).mono ?_
  rw [HO1.out]
  rintro e w2 ⟨rfl, hb⟩
  have hq := thru (Below.refl _ w1) hb
  have g2_0 := later hq g1_0
  have g2_1 := later hq g1_1
  have g2_2 := later hq g1_2
  have g2_3 := later hq g1_3
  have g2_4 := later hq g1_4
  have g2_5 := later hq g1_5
  have g2_6 := later hq g1_6
  have g2_7 := later hq g1_7
  have z2_0 : w.heap.size < w2.heap.size := Nat.lt_of_lt_of_le z1_0 hq.size
  have z2_1 : w.heap.size + 1 < w2.heap.size := Nat.lt_of_lt_of_le z1_1 hq.size
  replace hB := thru hB hq
  clear hb hq g1_0 g1_1 g1_2 g1_3 g1_4 g1_5 g1_6 g1_7 z1_0 z1_1
  go_wp2_with fail
  refine (bytes_all v' n' s' y m cy _ (hy.later hB) hm).mono ?_
  rw [HO2.out]
  rintro e w3 ⟨rfl, hb⟩
  have hq := thru (Below.refl _ w2) hb
  have g3_0 := later hq g2_0
  have g3_1 := later hq g2_1
  have g3_2 := later hq g2_2
  have g3_3 := later hq g2_3
  have g3_4 := later hq g2_4
  have g3_5 := later hq g2_5
  have g3_6 := later hq g2_6
  have g3_7 := later hq g2_7
  have z3_0 : w.heap.size < w3.heap.size := Nat.lt_of_lt_of_le z2_0 hq.size
  have z3_1 : w.heap.size + 1 < w3.heap.size := Nat.lt_of_lt_of_le z2_1 hq.size
  replace hB := thru hB hq
  clear hb hq g2_0 g2_1 g2_2 g2_3 g2_4 g2_5 g2_6 g2_7 z2_0 z2_1
  go_wp2_with fail
  refine wp_region_sched (fun W => W.cell? ⟨w.heap.size, 0, none⟩ = some (.int .i64 v) ∧ W.cell? ⟨w.heap.size, 1, none⟩ = some (.int .i64 n) ∧ W.cell? ⟨w.heap.size, 2, none⟩ = some (.int .i64 s) ∧ W.cell? ⟨w.heap.size, 3, none⟩ = some (.slice x l.length cx) ∧ W.cell? ⟨w.heap.size + 1, 0, none⟩ = some (.int .i64 v') ∧ W.cell? ⟨w.heap.size + 1, 1, none⟩ = some (.int .i64 n') ∧ W.cell? ⟨w.heap.size + 1, 2, none⟩ = some (.int .i64 s') ∧ W.cell? ⟨w.heap.size + 1, 3, none⟩ = some (.slice y m.length cy) ∧ w.heap.size < W.heap.size ∧ w.heap.size + 1 < W.heap.size ∧ Below w.heap.size w W) (.one [0, 1, 2] 3 (.one [4, 5, 6, 7, 8, 9, 10, 11, 12, 13, 14, 16, 17] 15 (.one [] 18 (.done [19, 20, 21])))) (by kernel_rfl) (by kernel_rfl) (fun _ _ _ _ _ h => h) ⟨(by go_simp), (by go_simp), (by go_simp), (by go_simp), (by go_simp), (by go_simp), (by go_simp), (by go_simp), (by simp <;> omega), (by simp <;> omega), hB.drew⟩ ?_
  clear hB g3_0 g3_1 g3_2 g3_3 g3_4 g3_5 g3_6 g3_7 z3_0 z3_1
  rintro W ⟨g4_0, g4_1, g4_2, g4_3, g4_4, g4_5, g4_6, g4_7, z4_0, z4_1, hB⟩
  rw [wpSched]
  simp only [pick, List.map_cons, List.map_nil, Array.getD_eq_getD_getElem?, List.getElem?_toArray, List.getElem?_cons_succ, List.getElem?_cons_zero, Option.getD_some]
  have kg4_0 := plusW_cell g4_0
  have kg4_1 := plusW_cell g4_1
  have kg4_2 := plusW_cell g4_2
  have kg4_3 := plusW_cell g4_3
  repeat (first | go_big_quiet_step (fail) | quiet_step (fail))
  refine wpQuiet_nil ?_
  clear kg4_0 kg4_1 kg4_2 kg4_3
  refine heavy_want (by rfl) (fun K' hK' => ?_)
  go_simp
  refine (valid_any v n s x l.length cx _).mono ?_
  rintro e V1 ⟨rfl, hb⟩
  refine hK' _ _ hb ?_
  clear hK' K'
  rw [HQ1.out]
  have hq := thru (Below.refl _ W) hb
  clear hb
  have g5_0 := later hq g4_0
  have g5_1 := later hq g4_1
  have g5_2 := later hq g4_2
  have g5_3 := later hq g4_3
  have g5_4 := later hq g4_4
  have g5_5 := later hq g4_5
  have g5_6 := later hq g4_6
  have g5_7 := later hq g4_7
  have z5_0 : w.heap.size < V1.heap.size := Nat.lt_of_lt_of_le z4_0 hq.size
  have z5_1 : w.heap.size + 1 < V1.heap.size := Nat.lt_of_lt_of_le z4_1 hq.size
  replace hB := thru hB hq
  clear hq g4_0 g4_1 g4_2 g4_3 g4_4 g4_5 g4_6 g4_7 z4_0 z4_1
  try simp only [Act.put, List.setIfInBounds_toArray, List.set_cons_zero, List.set_cons_succ]
  rw [wpSched]
  simp only [pick, List.map_cons, List.map_nil, Array.getD_eq_getD_getElem?, List.getElem?_toArray, List.getElem?_cons_succ, List.getElem?_cons_zero, Option.getD_some]
  have kg5_0 := plusW_cell g5_0
  have kg5_1 := plusW_cell g5_1
  have kg5_2 := plusW_cell g5_2
  have kg5_3 := plusW_cell g5_3
  have kg5_4 := plusW_cell g5_4
  have kg5_5 := plusW_cell g5_5
  have kg5_6 := plusW_cell g5_6
  have kg5_7 := plusW_cell g5_7
  repeat (first | go_big_quiet_step (fail) | quiet_step (fail))
  refine wpQuiet_nil ?_
  clear kg5_0 kg5_1 kg5_2 kg5_3 kg5_4 kg5_5 kg5_6 kg5_7
  refine heavy_skip (by rfl) ?_
  try simp only [Act.put, List.setIfInBounds_toArray, List.set_cons_zero, List.set_cons_succ]
  rw [wpSched]
  simp only [pick, List.map_nil, Array.getD_eq_getD_getElem?, List.getElem?_toArray, List.getElem?_cons_succ, List.getElem?_cons_zero, Option.getD_some]
  refine wpQuiet_nil ?_
  refine heavy_skip (by rfl) ?_
  try simp only [Act.put, List.setIfInBounds_toArray, List.set_cons_zero, List.set_cons_succ]
  rw [wpSched]
  simp only [pick, List.map_cons, List.map_nil, Array.getD_eq_getD_getElem?, List.getElem?_toArray, List.getElem?_cons_succ, List.getElem?_cons_zero, Option.getD_some]
  repeat (first | go_big_quiet_step (fail) | quiet_step (fail))
  refine wpQuiet_nil ?_
  go_wp2_with fail
  refine (readf_all z t cz _ (hz.later hB) (by omega) hcz).mono ?_
  rw [HRB.out]
  rintro e wb ⟨⟨x9, c9, rfl, ho⟩, hb⟩
  have y9 := ho.bts
  have n9 := ho.none_cap
  clear ho
  have hq := thru (Below.refl _ V1) hb
  have g6_0 := later hq g5_0
  have g6_1 := later hq g5_1
  have g6_2 := later hq g5_2
  have g6_3 := later hq g5_3
  have g6_4 := later hq g5_4
  have g6_5 := later hq g5_5
  have g6_6 := later hq g5_6
  have g6_7 := later hq g5_7
  have z6_0 : w.heap.size < wb.heap.size := Nat.lt_of_lt_of_le z5_0 hq.size
  have z6_1 : w.heap.size + 1 < wb.heap.size := Nat.lt_of_lt_of_le z5_1 hq.size
  replace hB := thru hB hq
  clear hb hq g5_0 g5_1 g5_2 g5_3 g5_4 g5_5 g5_6 g5_7 z5_0 z5_1
  go_wp2_with fail
  refine (bytes_all (a.toNat : Int) (b.toNat : Int) (d.toNat : Int) x9 r c9 _ (y9.later (al (Below.refl _ wb) _)) n9).mono ?_
  rw [HBB.out]
  rintro e wc ⟨xa, ca, rfl, ho, hb⟩
  have ya := ho.bts
  clear ho
  have hq := thru (al (Below.refl _ wb) _) hb
  have g7_0 := later hq g6_0
  have g7_1 := later hq g6_1
  have g7_2 := later hq g6_2
  have g7_3 := later hq g6_3
  have g7_4 := later hq g6_4
  have g7_5 := later hq g6_5
  have g7_6 := later hq g6_6
  have g7_7 := later hq g6_7
  have g7_8 := later (a := ⟨wb.heap.size, 0, none⟩) (v := .int .i64 (a.toNat : Int)) hb (by go_simp)
  have g7_9 := later (a := ⟨wb.heap.size, 1, none⟩) (v := .int .i64 (b.toNat : Int)) hb (by go_simp)
  have g7_10 := later (a := ⟨wb.heap.size, 2, none⟩) (v := .int .i64 (d.toNat : Int)) hb (by go_simp)
  have g7_11 := later (a := ⟨wb.heap.size, 3, none⟩) (v := .slice x9 r.length c9) hb (by go_simp)
  have z7_0 : w.heap.size < wc.heap.size := Nat.lt_of_lt_of_le z6_0 hq.size
  have z7_1 : w.heap.size + 1 < wc.heap.size := Nat.lt_of_lt_of_le z6_1 hq.size
  have z7_2 : wb.heap.size < wc.heap.size := (by have := hb.size; first | omega | (simp at this; omega))
  replace hB := thru hB hq
  replace y9 := y9.later hq
  clear hb hq g6_0 g6_1 g6_2 g6_3 g6_4 g6_5 g6_6 g6_7 z6_0 z6_1
  go_wp2_with fail
  refine (valid_any (a.toNat : Int) (b.toNat : Int) (d.toNat : Int) x9 r.length c9 _).mono ?_
  rintro e wd ⟨rfl, hb⟩
  rw [HQB.out]
  have hq := thru (Below.refl _ wc) hb
  have g8_0 := later hq g7_0
  have g8_1 := later hq g7_1
  have g8_2 := later hq g7_2
  have g8_3 := later hq g7_3
  have g8_4 := later hq g7_4
  have g8_5 := later hq g7_5
  have g8_6 := later hq g7_6
  have g8_7 := later hq g7_7
  have g8_8 := later hq g7_8
  have g8_9 := later hq g7_9
  have g8_10 := later hq g7_10
  have g8_11 := later hq g7_11
  have z8_0 : w.heap.size < wd.heap.size := Nat.lt_of_lt_of_le z7_0 hq.size
  have z8_1 : w.heap.size + 1 < wd.heap.size := Nat.lt_of_lt_of_le z7_1 hq.size
  have z8_2 : wb.heap.size < wd.heap.size := Nat.lt_of_lt_of_le z7_2 hq.size
  replace hB := thru hB hq
  replace y9 := y9.later hq
  replace ya := ya.later hq
  clear hb hq g7_0 g7_1 g7_2 g7_3 g7_4 g7_5 g7_6 g7_7 g7_8 g7_9 g7_10 g7_11 z7_0 z7_1 z7_2
  go_wp2_with fail
  refine (sameb_any xa t ca z t cz _ ya (hz.later hB) (by omega) (by omega)).mono ?_
  rintro e we ⟨rfl, hb⟩
  rw [HTT.out]
  have hq := thru (Below.refl _ wd) hb
  have g9_0 := later hq g8_0
  have g9_1 := later hq g8_1
  have g9_2 := later hq g8_2
  have g9_3 := later hq g8_3
  have g9_4 := later hq g8_4
  have g9_5 := later hq g8_5
  have g9_6 := later hq g8_6
  have g9_7 := later hq g8_7
  have g9_8 := later hq g8_8
  have g9_9 := later hq g8_9
  have g9_10 := later hq g8_10
  have g9_11 := later hq g8_11
  have z9_0 : w.heap.size < we.heap.size := Nat.lt_of_lt_of_le z8_0 hq.size
  have z9_1 : w.heap.size + 1 < we.heap.size := Nat.lt_of_lt_of_le z8_1 hq.size
  have z9_2 : wb.heap.size < we.heap.size := Nat.lt_of_lt_of_le z8_2 hq.size
  replace hB := thru hB hq
  replace y9 := y9.later hq
  replace ya := ya.later hq
  clear hb hq g8_0 g8_1 g8_2 g8_3 g8_4 g8_5 g8_6 g8_7 g8_8 g8_9 g8_10 g8_11 z8_0 z8_1 z8_2
  go_wp2_with fail
  go_ret
  exact ⟨rfl, hB⟩
set_option maxHeartbeats 2000000 in
theorem back_010 (v n s : Int) (x : Option Addr) (l : List UInt8) (cx : Nat) (v' n' s' : Int) (y : Option Addr) (m : List UInt8) (cy : Nat) (z : Option Addr) (t : List UInt8) (cz : Nat) (w : World) (hd : DbAt w) (hx : Bts w x l) (hn : x = none → cx = 0) (hy : Bts w y m) (hm : y = none → cy = 0) (hz : Bts w z t) (hcz : t.length ≤ cz ∧ cz ≤ 9223372036854775807) (l3 : l.length ≤ 300) (m3 : m.length ≤ 300) (t3 : t.length ≤ 300)
    (q : List UInt8) (ho1 : bytesV v n s l = none) (ho2 : bytesV v' n' s' m = some q) (hob : readV t = none) : Calls Tryd.prog 7 #[.agg #[.int .i64 v, .int .i64 n, .int .i64 s, .slice x l.length cx], .agg #[.int .i64 v', .int .i64 n', .int .i64 s', .slice y m.length cy], .slice z t.length cz] w (YesOf w) := by
  have y0 : decide (300 < (l.length : Int)) = false := decide_eq_false (by omega)
  have y1 : decide (300 < (m.length : Int)) = false := decide_eq_false (by omega)
  have y2' : decide (300 < (t.length : Int)) = false := decide_eq_false (by omega)
  have HO1 := Lib.hid ho1
  have HO2 := Lib.hid ho2
  have HRB := Lib.hid hob
  obtain ⟨k, hk⟩ : ∃ k, codeV t = k := ⟨_, rfl⟩
  have HCB := Lib.hid hk
  have HK := Lib.hid (show (k != 0) = true by rw [← hk]; exact codeV_ne t)
  clear hk
  have HTT := Lib.hid (show (t == t) = true by simp)
  have HQ1 := Lib.hid (bytesV_none ho1)
  have hql : q.length = m.length + 8 := by rw [(bytesV_inv ho2).2.1]; exact whole_length _ _ _ _
  clear ho1 ho2 hob
  have hB := Below.refl w.heap.size w
  go_enter Tryd.func7, Tryd.ntmps7
  go_wp2_with fail
  refine (awake_any _ (hd.later (al (al (Below.refl _ w) _) _))).mono ?_
  rintro e w1 ⟨rfl, hb⟩
  have hq := thru (al (al (Below.refl _ w) _) _) hb
  have g1_0 := later (a := ⟨w.heap.size, 0, none⟩) (v := .int .i64 v) hb (by go_simp)
  have g1_1 := later (a := ⟨w.heap.size, 1, none⟩) (v := .int .i64 n) hb (by go_simp)
  have g1_2 := later (a := ⟨w.heap.size, 2, none⟩) (v := .int .i64 s) hb (by go_simp)
  have g1_3 := later (a := ⟨w.heap.size, 3, none⟩) (v := .slice x l.length cx) hb (by go_simp)
  have g1_4 := later (a := ⟨w.heap.size + 1, 0, none⟩) (v := .int .i64 v') hb (by go_simp)
  have g1_5 := later (a := ⟨w.heap.size + 1, 1, none⟩) (v := .int .i64 n') hb (by go_simp)
  have g1_6 := later (a := ⟨w.heap.size + 1, 2, none⟩) (v := .int .i64 s') hb (by go_simp)
  have g1_7 := later (a := ⟨w.heap.size + 1, 3, none⟩) (v := .slice y m.length cy) hb (by go_simp)
  have z1_0 : w.heap.size < w1.heap.size := (by have := hb.size; first | omega | (simp at this; omega))
  have z1_1 : w.heap.size + 1 < w1.heap.size := (by have := hb.size; first | omega | (simp at this; omega))
  replace hB := thru hB hq
  clear hb hq 
  go_wp2_with fail
  refine (bytes_all v n s x l cx _ (hx.later hB) hn).mono ?_
  rw [HO1.out]
  rintro e w2 ⟨rfl, hb⟩
  have hq := thru (Below.refl _ w1) hb
  have g2_0 := later hq g1_0
  have g2_1 := later hq g1_1
  have g2_2 := later hq g1_2
  have g2_3 := later hq g1_3
  have g2_4 := later hq g1_4
  have g2_5 := later hq g1_5
  have g2_6 := later hq g1_6
  have g2_7 := later hq g1_7
  have z2_0 : w.heap.size < w2.heap.size := Nat.lt_of_lt_of_le z1_0 hq.size
  have z2_1 : w.heap.size + 1 < w2.heap.size := Nat.lt_of_lt_of_le z1_1 hq.size
  replace hB := thru hB hq
  clear hb hq g1_0 g1_1 g1_2 g1_3 g1_4 g1_5 g1_6 g1_7 z1_0 z1_1
  go_wp2_with fail
  refine (bytes_all v' n' s' y m cy _ (hy.later hB) hm).mono ?_
  rw [HO2.out]
  rintro e w3 ⟨x3, c3, rfl, ho, hb⟩
  have y3 := ho.bts
  clear ho
  have hq := thru (Below.refl _ w2) hb
  have g3_0 := later hq g2_0
  have g3_1 := later hq g2_1
  have g3_2 := later hq g2_2
  have g3_3 := later hq g2_3
  have g3_4 := later hq g2_4
  have g3_5 := later hq g2_5
  have g3_6 := later hq g2_6
  have g3_7 := later hq g2_7
  have z3_0 : w.heap.size < w3.heap.size := Nat.lt_of_lt_of_le z2_0 hq.size
  have z3_1 : w.heap.size + 1 < w3.heap.size := Nat.lt_of_lt_of_le z2_1 hq.size
  replace hB := thru hB hq
  clear hb hq g2_0 g2_1 g2_2 g2_3 g2_4 g2_5 g2_6 g2_7 z2_0 z2_1
  go_wp2_with fail
  refine wp_region_sched (fun W => W.cell? ⟨w.heap.size, 0, none⟩ = some (.int .i64 v) ∧ W.cell? ⟨w.heap.size, 1, none⟩ = some (.int .i64 n) ∧ W.cell? ⟨w.heap.size, 2, none⟩ = some (.int .i64 s) ∧ W.cell? ⟨w.heap.size, 3, none⟩ = some (.slice x l.length cx) ∧ W.cell? ⟨w.heap.size + 1, 0, none⟩ = some (.int .i64 v') ∧ W.cell? ⟨w.heap.size + 1, 1, none⟩ = some (.int .i64 n') ∧ W.cell? ⟨w.heap.size + 1, 2, none⟩ = some (.int .i64 s') ∧ W.cell? ⟨w.heap.size + 1, 3, none⟩ = some (.slice y m.length cy) ∧ w.heap.size < W.heap.size ∧ w.heap.size + 1 < W.heap.size ∧ Bts W x3 q ∧ Below w.heap.size w W) (.one [0, 1, 2] 3 (.one [4, 5, 6, 7, 8, 9, 10, 11, 12, 13, 14, 16, 17] 15 (.one [] 18 (.done [19, 20, 21])))) (by kernel_rfl) (by kernel_rfl) (fun _ _ _ _ _ h => h) ⟨(by go_simp), (by go_simp), (by go_simp), (by go_simp), (by go_simp), (by go_simp), (by go_simp), (by go_simp), (by simp <;> omega), (by simp <;> omega), y3, hB.drew⟩ ?_
  clear hB g3_0 g3_1 g3_2 g3_3 g3_4 g3_5 g3_6 g3_7 z3_0 z3_1 y3
  rintro W ⟨g4_0, g4_1, g4_2, g4_3, g4_4, g4_5, g4_6, g4_7, z4_0, z4_1, y3, hB⟩
  rw [wpSched]
  simp only [pick, List.map_cons, List.map_nil, Array.getD_eq_getD_getElem?, List.getElem?_toArray, List.getElem?_cons_succ, List.getElem?_cons_zero, Option.getD_some]
  have kg4_0 := plusW_cell g4_0
  have kg4_1 := plusW_cell g4_1
  have kg4_2 := plusW_cell g4_2
  have kg4_3 := plusW_cell g4_3
  repeat (first | go_big_quiet_step (fail) | quiet_step (fail))
  refine wpQuiet_nil ?_
  clear kg4_0 kg4_1 kg4_2 kg4_3
  refine heavy_want (by rfl) (fun K' hK' => ?_)
  go_simp
  refine (valid_any v n s x l.length cx _).mono ?_
  rintro e V1 ⟨rfl, hb⟩
  refine hK' _ _ hb ?_
  clear hK' K'
  rw [HQ1.out]
  have hq := thru (Below.refl _ W) hb
  clear hb
  have g5_0 := later hq g4_0
  have g5_1 := later hq g4_1
  have g5_2 := later hq g4_2
  have g5_3 := later hq g4_3
  have g5_4 := later hq g4_4
  have g5_5 := later hq g4_5
  have g5_6 := later hq g4_6
  have g5_7 := later hq g4_7
  have z5_0 : w.heap.size < V1.heap.size := Nat.lt_of_lt_of_le z4_0 hq.size
  have z5_1 : w.heap.size + 1 < V1.heap.size := Nat.lt_of_lt_of_le z4_1 hq.size
  replace hB := thru hB hq
  replace y3 := y3.later hq
  clear hq g4_0 g4_1 g4_2 g4_3 g4_4 g4_5 g4_6 g4_7 z4_0 z4_1
  try simp only [Act.put, List.setIfInBounds_toArray, List.set_cons_zero, List.set_cons_succ]
  rw [wpSched]
  simp only [pick, List.map_cons, List.map_nil, Array.getD_eq_getD_getElem?, List.getElem?_toArray, List.getElem?_cons_succ, List.getElem?_cons_zero, Option.getD_some]
  have kg5_0 := plusW_cell g5_0
  have kg5_1 := plusW_cell g5_1
  have kg5_2 := plusW_cell g5_2
  have kg5_3 := plusW_cell g5_3
  have kg5_4 := plusW_cell g5_4
  have kg5_5 := plusW_cell g5_5
  have kg5_6 := plusW_cell g5_6
  have kg5_7 := plusW_cell g5_7
  repeat (first | go_big_quiet_step (fail) | quiet_step (fail))
  refine wpQuiet_nil ?_
  clear kg5_0 kg5_1 kg5_2 kg5_3 kg5_4 kg5_5 kg5_6 kg5_7
  refine heavy_skip (by rfl) ?_
  try simp only [Act.put, List.setIfInBounds_toArray, List.set_cons_zero, List.set_cons_succ]
  rw [wpSched]
  simp only [pick, List.map_nil, Array.getD_eq_getD_getElem?, List.getElem?_toArray, List.getElem?_cons_succ, List.getElem?_cons_zero, Option.getD_some]
  refine wpQuiet_nil ?_
  refine heavy_skip (by rfl) ?_
  try simp only [Act.put, List.setIfInBounds_toArray, List.set_cons_zero, List.set_cons_succ]
  rw [wpSched]
  simp only [pick, List.map_cons, List.map_nil, Array.getD_eq_getD_getElem?, List.getElem?_toArray, List.getElem?_cons_succ, List.getElem?_cons_zero, Option.getD_some]
  repeat (first | go_big_quiet_step (fail) | quiet_step (fail))
  refine wpQuiet_nil ?_
  go_wp2_with fail
  refine (readf_all z t cz _ (hz.later hB) (by omega) hcz).mono ?_
  rw [HRB.out, HCB.out]
  rintro e wb ⟨rfl, hb⟩
  have hk0 := HK.out
  have hq := thru (Below.refl _ V1) hb
  have g6_0 := later hq g5_0
  have g6_1 := later hq g5_1
  have g6_2 := later hq g5_2
  have g6_3 := later hq g5_3
  have g6_4 := later hq g5_4
  have g6_5 := later hq g5_5
  have g6_6 := later hq g5_6
  have g6_7 := later hq g5_7
  have z6_0 : w.heap.size < wb.heap.size := Nat.lt_of_lt_of_le z5_0 hq.size
  have z6_1 : w.heap.size + 1 < wb.heap.size := Nat.lt_of_lt_of_le z5_1 hq.size
  replace hB := thru hB hq
  clear hb hq g5_0 g5_1 g5_2 g5_3 g5_4 g5_5 g5_6 g5_7 z5_0 z5_1
  go_wp2_with fail
  go_ret
  exact ⟨rfl, al hB _⟩
set_option maxHeartbeats 2000000 in
theorem back_011 (v n s : Int) (x : Option Addr) (l : List UInt8) (cx : Nat) (v' n' s' : Int) (y : Option Addr) (m : List UInt8) (cy : Nat) (z : Option Addr) (t : List UInt8) (cz : Nat) (w : World) (hd : DbAt w) (hx : Bts w x l) (hn : x = none → cx = 0) (hy : Bts w y m) (hm : y = none → cy = 0) (hz : Bts w z t) (hcz : t.length ≤ cz ∧ cz ≤ 9223372036854775807) (l3 : l.length ≤ 300) (m3 : m.length ≤ 300) (t3 : t.length ≤ 300)
    (q : List UInt8) (a b d : UInt8) (r : List UInt8) (ho1 : bytesV v n s l = none) (ho2 : bytesV v' n' s' m = some q) (hob : readV t = some (a, b, d, r)) : Calls Tryd.prog 7 #[.agg #[.int .i64 v, .int .i64 n, .int .i64 s, .slice x l.length cx], .agg #[.int .i64 v', .int .i64 n', .int .i64 s', .slice y m.length cy], .slice z t.length cz] w (YesOf w) := by
  have y0 : decide (300 < (l.length : Int)) = false := decide_eq_false (by omega)
  have y1 : decide (300 < (m.length : Int)) = false := decide_eq_false (by omega)
  have y2' : decide (300 < (t.length : Int)) = false := decide_eq_false (by omega)
  have HO1 := Lib.hid ho1
  have HO2 := Lib.hid ho2
  have HRB := Lib.hid hob
  obtain ⟨k, hk⟩ : ∃ k, codeV t = k := ⟨_, rfl⟩
  have HCB := Lib.hid hk
  have HK := Lib.hid (show (k != 0) = true by rw [← hk]; exact codeV_ne t)
  clear hk
  have HTT := Lib.hid (show (t == t) = true by simp)
  have HQ1 := Lib.hid (bytesV_none ho1)
  have hql : q.length = m.length + 8 := by rw [(bytesV_inv ho2).2.1]; exact whole_length _ _ _ _
  obtain ⟨hti, hvb⟩ := readV_inv hob
  have HQB := Lib.hid hvb
  have HBB := Lib.hid (show bytesV (a.toNat : Int) (b.toNat : Int) (d.toNat : Int) r = some t by rw [bytesV_ok hvb, hti])
  clear hti hvb
  clear ho1 ho2 hob
  have hB := Below.refl w.heap.size w
  go_enter Tryd.func7, Tryd.ntmps7
  go_wp2_with fail
  refine (awake_any _ (hd.later (al (al (Below.refl _ w) _) _))).mono ?_
  rintro e w1 ⟨rfl, hb⟩
  have hq := thru (al (al (Below.refl _ w) _) _) hb
  have g1_0 := later (a := ⟨w.heap.size, 0, none⟩) (v := .int .i64 v) hb (by go_simp)
  have g1_1 := later (a := ⟨w.heap.size, 1, none⟩) (v := .int .i64 n) hb (by go_simp)
  have g1_2 := later (a := ⟨w.heap.size, 2, none⟩) (v := .int .i64 s) hb (by go_simp)
  have g1_3 := later (a := ⟨w.heap.size, 3, none⟩) (v := .slice x l.length cx) hb (by go_simp)
  have g1_4 := later (a := ⟨w.heap.size + 1, 0, none⟩) (v := .int .i64 v') hb (by go_simp)
  have g1_5 := later (a := ⟨w.heap.size + 1, 1, none⟩) (v := .int .i64 n') hb (by go_simp)
  have g1_6 := later (a := ⟨w.heap.size + 1, 2, none⟩) (v := .int .i64 s') hb (by go_simp)
  have g1_7 := later (a := ⟨w.heap.size + 1, 3, none⟩) (v := .slice y m.length cy) hb (by go_simp)
  have z1_0 : w.heap.size < w1.heap.size := (by have := hb.size; first | omega | (simp at this; omega))
  have z1_1 : w.heap.size + 1 < w1.heap.size := (by have := hb.size; first | omega | (simp at this; omega))
  replace hB := thru hB hq
  clear hb hq 
  go_wp2_with fail
  refine (bytes_all v n s x l cx _ (hx.later hB) hn).mono ?_
  rw [HO1.out]
  rintro e w2 ⟨rfl, hb⟩
  have hq := thru (Below.refl _ w1) hb
  have g2_0 := later hq g1_0
  have g2_1 := later hq g1_1
  have g2_2 := later hq g1_2
  have g2_3 := later hq g1_3
  have g2_4 := later hq g1_4
  have g2_5 := later hq g1_5
  have g2_6 := later hq g1_6
  have g2_7 := later hq g1_7
  have z2_0 : w.heap.size < w2.heap.size := Nat.lt_of_lt_of_le z1_0 hq.size
  have z2_1 : w.heap.size + 1 < w2.heap.size := Nat.lt_of_lt_of_le z1_1 hq.size
  replace hB := thru hB hq
  clear hb hq g1_0 g1_1 g1_2 g1_3 g1_4 g1_5 g1_6 g1_7 z1_0 z1_1
  go_wp2_with fail
  refine (bytes_all v' n' s' y m cy _ (hy.later hB) hm).mono ?_
  rw [HO2.out]
  rintro e w3 ⟨x3, c3, rfl, ho, hb⟩
  have y3 := ho.bts
  clear ho
  have hq := thru (Below.refl _ w2) hb
  have g3_0 := later hq g2_0
  have g3_1 := later hq g2_1
  have g3_2 := later hq g2_2
  have g3_3 := later hq g2_3
  have g3_4 := later hq g2_4
  have g3_5 := later hq g2_5
  have g3_6 := later hq g2_6
  have g3_7 := later hq g2_7
  have z3_0 : w.heap.size < w3.heap.size := Nat.lt_of_lt_of_le z2_0 hq.size
  have z3_1 : w.heap.size + 1 < w3.heap.size := Nat.lt_of_lt_of_le z2_1 hq.size
  replace hB := thru hB hq
  clear hb hq g2_0 g2_1 g2_2 g2_3 g2_4 g2_5 g2_6 g2_7 z2_0 z2_1
  go_wp2_with fail
  refine wp_region_sched (fun W => W.cell? ⟨w.heap.size, 0, none⟩ = some (.int .i64 v) ∧ W.cell? ⟨w.heap.size, 1, none⟩ = some (.int .i64 n) ∧ W.cell? ⟨w.heap.size, 2, none⟩ = some (.int .i64 s) ∧ W.cell? ⟨w.heap.size, 3, none⟩ = some (.slice x l.length cx) ∧ W.cell? ⟨w.heap.size + 1, 0, none⟩ = some (.int .i64 v') ∧ W.cell? ⟨w.heap.size + 1, 1, none⟩ = some (.int .i64 n') ∧ W.cell? ⟨w.heap.size + 1, 2, none⟩ = some (.int .i64 s') ∧ W.cell? ⟨w.heap.size + 1, 3, none⟩ = some (.slice y m.length cy) ∧ w.heap.size < W.heap.size ∧ w.heap.size + 1 < W.heap.size ∧ Bts W x3 q ∧ Below w.heap.size w W) (.one [0, 1, 2] 3 (.one [4, 5, 6, 7, 8, 9, 10, 11, 12, 13, 14, 16, 17] 15 (.one [] 18 (.done [19, 20, 21])))) (by kernel_rfl) (by kernel_rfl) (fun _ _ _ _ _ h => h) ⟨(by go_simp), (by go_simp), (by go_simp), (by go_simp), (by go_simp), (by go_simp), (by go_simp), (by go_simp), (by simp <;> omega), (by simp <;> omega), y3, hB.drew⟩ ?_
  clear hB g3_0 g3_1 g3_2 g3_3 g3_4 g3_5 g3_6 g3_7 z3_0 z3_1 y3
  rintro W ⟨g4_0, g4_1, g4_2, g4_3, g4_4, g4_5, g4_6, g4_7, z4_0, z4_1, y3, hB⟩
  rw [wpSched]
  simp only [pick, List.map_cons, List.map_nil, Array.getD_eq_getD_getElem?, List.getElem?_toArray, List.getElem?_cons_succ, List.getElem?_cons_zero, Option.getD_some]
  have kg4_0 := plusW_cell g4_0
  have kg4_1 := plusW_cell g4_1
  have kg4_2 := plusW_cell g4_2
  have kg4_3 := plusW_cell g4_3
  repeat (first | go_big_quiet_step (fail) | quiet_step (fail))
  refine wpQuiet_nil ?_
  clear kg4_0 kg4_1 kg4_2 kg4_3
  refine heavy_want (by rfl) (fun K' hK' => ?_)
  go_simp
  refine (valid_any v n s x l.length cx _).mono ?_
  rintro e V1 ⟨rfl, hb⟩
  refine hK' _ _ hb ?_
  clear hK' K'
  rw [HQ1.out]
  have hq := thru (Below.refl _ W) hb
  clear hb
  have g5_0 := later hq g4_0
  have g5_1 := later hq g4_1
  have g5_2 := later hq g4_2
  have g5_3 := later hq g4_3
  have g5_4 := later hq g4_4
  have g5_5 := later hq g4_5
  have g5_6 := later hq g4_6
  have g5_7 := later hq g4_7
  have z5_0 : w.heap.size < V1.heap.size := Nat.lt_of_lt_of_le z4_0 hq.size
  have z5_1 : w.heap.size + 1 < V1.heap.size := Nat.lt_of_lt_of_le z4_1 hq.size
  replace hB := thru hB hq
  replace y3 := y3.later hq
  clear hq g4_0 g4_1 g4_2 g4_3 g4_4 g4_5 g4_6 g4_7 z4_0 z4_1
  try simp only [Act.put, List.setIfInBounds_toArray, List.set_cons_zero, List.set_cons_succ]
  rw [wpSched]
  simp only [pick, List.map_cons, List.map_nil, Array.getD_eq_getD_getElem?, List.getElem?_toArray, List.getElem?_cons_succ, List.getElem?_cons_zero, Option.getD_some]
  have kg5_0 := plusW_cell g5_0
  have kg5_1 := plusW_cell g5_1
  have kg5_2 := plusW_cell g5_2
  have kg5_3 := plusW_cell g5_3
  have kg5_4 := plusW_cell g5_4
  have kg5_5 := plusW_cell g5_5
  have kg5_6 := plusW_cell g5_6
  have kg5_7 := plusW_cell g5_7
  repeat (first | go_big_quiet_step (fail) | quiet_step (fail))
  refine wpQuiet_nil ?_
  clear kg5_0 kg5_1 kg5_2 kg5_3 kg5_4 kg5_5 kg5_6 kg5_7
  refine heavy_skip (by rfl) ?_
  try simp only [Act.put, List.setIfInBounds_toArray, List.set_cons_zero, List.set_cons_succ]
  rw [wpSched]
  simp only [pick, List.map_nil, Array.getD_eq_getD_getElem?, List.getElem?_toArray, List.getElem?_cons_succ, List.getElem?_cons_zero, Option.getD_some]
  refine wpQuiet_nil ?_
  refine heavy_skip (by rfl) ?_
  try simp only [Act.put, List.setIfInBounds_toArray, List.set_cons_zero, List.set_cons_succ]
  rw [wpSched]
  simp only [pick, List.map_cons, List.map_nil, Array.getD_eq_getD_getElem?, List.getElem?_toArray, List.getElem?_cons_succ, List.getElem?_cons_zero, Option.getD_some]
  repeat (first | go_big_quiet_step (fail) | quiet_step (fail))
  refine wpQuiet_nil ?_
  go_wp2_with fail
  refine (readf_all z t cz _ (hz.later hB) (by omega) hcz).mono ?_
  rw [HRB.out]
  rintro e wb ⟨⟨x9, c9, rfl, ho⟩, hb⟩
  have y9 := ho.bts
  have n9 := ho.none_cap
  clear ho
  have hq := thru (Below.refl _ V1) hb
  have g6_0 := later hq g5_0
  have g6_1 := later hq g5_1
  have g6_2 := later hq g5_2
  have g6_3 := later hq g5_3
  have g6_4 := later hq g5_4
  have g6_5 := later hq g5_5
  have g6_6 := later hq g5_6
  have g6_7 := later hq g5_7
  have z6_0 : w.heap.size < wb.heap.size := Nat.lt_of_lt_of_le z5_0 hq.size
  have z6_1 : w.heap.size + 1 < wb.heap.size := Nat.lt_of_lt_of_le z5_1 hq.size
  replace hB := thru hB hq
  clear hb hq g5_0 g5_1 g5_2 g5_3 g5_4 g5_5 g5_6 g5_7 z5_0 z5_1
  go_wp2_with fail
  refine (bytes_all (a.toNat : Int) (b.toNat : Int) (d.toNat : Int) x9 r c9 _ (y9.later (al (Below.refl _ wb) _)) n9).mono ?_
  rw [HBB.out]
  rintro e wc ⟨xa, ca, rfl, ho, hb⟩
  have ya := ho.bts
  clear ho
  have hq := thru (al (Below.refl _ wb) _) hb
  have g7_0 := later hq g6_0
  have g7_1 := later hq g6_1
  have g7_2 := later hq g6_2
  have g7_3 := later hq g6_3
  have g7_4 := later hq g6_4
  have g7_5 := later hq g6_5
  have g7_6 := later hq g6_6
  have g7_7 := later hq g6_7
  have g7_8 := later (a := ⟨wb.heap.size, 0, none⟩) (v := .int .i64 (a.toNat : Int)) hb (by go_simp)
  have g7_9 := later (a := ⟨wb.heap.size, 1, none⟩) (v := .int .i64 (b.toNat : Int)) hb (by go_simp)
  have g7_10 := later (a := ⟨wb.heap.size, 2, none⟩) (v := .int .i64 (d.toNat : Int)) hb (by go_simp)
  have g7_11 := later (a := ⟨wb.heap.size, 3, none⟩) (v := .slice x9 r.length c9) hb (by go_simp)
  have z7_0 : w.heap.size < wc.heap.size := Nat.lt_of_lt_of_le z6_0 hq.size
  have z7_1 : w.heap.size + 1 < wc.heap.size := Nat.lt_of_lt_of_le z6_1 hq.size
  have z7_2 : wb.heap.size < wc.heap.size := (by have := hb.size; first | omega | (simp at this; omega))
  replace hB := thru hB hq
  replace y9 := y9.later hq
  clear hb hq g6_0 g6_1 g6_2 g6_3 g6_4 g6_5 g6_6 g6_7 z6_0 z6_1
  go_wp2_with fail
  refine (valid_any (a.toNat : Int) (b.toNat : Int) (d.toNat : Int) x9 r.length c9 _).mono ?_
  rintro e wd ⟨rfl, hb⟩
  rw [HQB.out]
  have hq := thru (Below.refl _ wc) hb
  have g8_0 := later hq g7_0
  have g8_1 := later hq g7_1
  have g8_2 := later hq g7_2
  have g8_3 := later hq g7_3
  have g8_4 := later hq g7_4
  have g8_5 := later hq g7_5
  have g8_6 := later hq g7_6
  have g8_7 := later hq g7_7
  have g8_8 := later hq g7_8
  have g8_9 := later hq g7_9
  have g8_10 := later hq g7_10
  have g8_11 := later hq g7_11
  have z8_0 : w.heap.size < wd.heap.size := Nat.lt_of_lt_of_le z7_0 hq.size
  have z8_1 : w.heap.size + 1 < wd.heap.size := Nat.lt_of_lt_of_le z7_1 hq.size
  have z8_2 : wb.heap.size < wd.heap.size := Nat.lt_of_lt_of_le z7_2 hq.size
  replace hB := thru hB hq
  replace y9 := y9.later hq
  replace ya := ya.later hq
  clear hb hq g7_0 g7_1 g7_2 g7_3 g7_4 g7_5 g7_6 g7_7 g7_8 g7_9 g7_10 g7_11 z7_0 z7_1 z7_2
  go_wp2_with fail
  refine (sameb_any xa t ca z t cz _ ya (hz.later hB) (by omega) (by omega)).mono ?_
  rintro e we ⟨rfl, hb⟩
  rw [HTT.out]
  have hq := thru (Below.refl _ wd) hb
  have g9_0 := later hq g8_0
  have g9_1 := later hq g8_1
  have g9_2 := later hq g8_2
  have g9_3 := later hq g8_3
  have g9_4 := later hq g8_4
  have g9_5 := later hq g8_5
  have g9_6 := later hq g8_6
  have g9_7 := later hq g8_7
  have g9_8 := later hq g8_8
  have g9_9 := later hq g8_9
  have g9_10 := later hq g8_10
  have g9_11 := later hq g8_11
  have z9_0 : w.heap.size < we.heap.size := Nat.lt_of_lt_of_le z8_0 hq.size
  have z9_1 : w.heap.size + 1 < we.heap.size := Nat.lt_of_lt_of_le z8_1 hq.size
  have z9_2 : wb.heap.size < we.heap.size := Nat.lt_of_lt_of_le z8_2 hq.size
  replace hB := thru hB hq
  replace y9 := y9.later hq
  replace ya := ya.later hq
  clear hb hq g8_0 g8_1 g8_2 g8_3 g8_4 g8_5 g8_6 g8_7 g8_8 g8_9 g8_10 g8_11 z8_0 z8_1 z8_2
  go_wp2_with fail
  go_ret
  exact ⟨rfl, hB⟩

end Go.Proofs.YtjnjjnkanbnliaaDoor
