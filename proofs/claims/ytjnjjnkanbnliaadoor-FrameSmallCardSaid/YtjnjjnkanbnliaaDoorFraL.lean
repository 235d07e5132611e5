/- WALKS of the laws of the frame layer: writes. -/
import Derived.Test.YtjnjjnkanbnliaaDoorFraK
namespace Go.Proofs.YtjnjjnkanbnliaaDoor
open Go.RowKit

def u8i (v : Int) : UInt8 := UInt8.ofNat v.toNat
theorem u8i_of {v : Int} (h : 0 ≤ v ∧ v ≤ 255) : v = ((u8i v).toNat : Int) := by unfold u8i; rw [UInt8.toNat_ofNat']; omega
/-- What the bytes of a frame are, if it is valid. -/
def bytesV (v n s : Int) (l : List UInt8) : Option (List UInt8) := if vldF v n s l.length = true then some (wholeF (u8i v) (u8i n) (u8i s) l) else none
def BytesOf (o : Option (List UInt8)) (w : World) (e : Ending) (w' : World) : Prop := match o with
  | some wl => BytesYes wl w e w'
  | none => BytesNo w e w'
theorem whole_length (a b c : UInt8) (l : List UInt8) : (wholeF a b c l).length = l.length + 8 := by
  unfold wholeF bodyF; simp [Crc.trailer_length] <;> omega
theorem bytes_all (v n s : Int) (x : Option Addr) (l : List UInt8) (cx : Nat) (w : World) (hx : Bts w x l) (hn : x = none → cx = 0) :
    Calls Tryd.prog 24 #[.agg #[.int .i64 v, .int .i64 n, .int .i64 s, .slice x l.length cx]] w (BytesOf (bytesV v n s l) w) := by
  unfold bytesV
  by_cases hv : vldF v n s l.length = true
  · rw [if_pos hv]
    obtain ⟨h1, h2, h3, h4⟩ := (vldF_iff _ _ _ _).1 hv
    have e1 := u8i_of (show 0 ≤ v ∧ v ≤ 255 by omega)
    have e2 := u8i_of (show 0 ≤ n ∧ n ≤ 255 by omega)
    have e3 := u8i_of (show 0 ≤ s ∧ s ≤ 255 by omega)
    have := bytes_yes (u8i v) (u8i n) (u8i s) x l cx w hx hn (by rw [← e1, ← e2, ← e3]; exact hv)
    rw [← e1, ← e2, ← e3] at this
    exact this
  · rw [if_neg hv]
    exact bytes_no v n s x l.length cx w (eq_false_of_ne_true hv)
theorem refbytes_all (v n s : Int) (x : Option Addr) (l : List UInt8) (cx : Nat) (w : World) (hx : Bts w x l) (hn : x = none → cx = 0) :
    Calls Tryd.prog 29 #[.agg #[.int .i64 v, .int .i64 n, .int .i64 s, .slice x l.length cx]] w (BytesOf (bytesV v n s l) w) := by
  unfold bytesV
  by_cases hv : vldF v n s l.length = true
  · rw [if_pos hv]
    obtain ⟨h1, h2, h3, h4⟩ := (vldF_iff _ _ _ _).1 hv
    have e1 := u8i_of (show 0 ≤ v ∧ v ≤ 255 by omega)
    have e2 := u8i_of (show 0 ≤ n ∧ n ≤ 255 by omega)
    have e3 := u8i_of (show 0 ≤ s ∧ s ≤ 255 by omega)
    have := refbytes_yes (u8i v) (u8i n) (u8i s) x l cx w hx hn (by rw [← e1, ← e2, ← e3]; exact hv)
    rw [← e1, ← e2, ← e3] at this
    exact this
  · rw [if_neg hv]
    exact refbytes_no v n s x l.length cx w (eq_false_of_ne_true hv)

set_option maxHeartbeats 2000000 in
theorem writes_any (v n s : Int) (x : Option Addr) (l : List UInt8) (cx : Nat) (w : World) (hx : Bts w x l) (hn : x = none → cx = 0) (hl : l.length ≤ 300) :
    Calls Tryd.prog 12 #[.agg #[.int .i64 v, .int .i64 n, .int .i64 s, .slice x l.length cx]] w fun e w' => e = .returned (.bool true) ∧ Below w.heap.size w w' := by
  obtain ⟨o, ho⟩ : ∃ o, bytesV v n s l = o := ⟨_, rfl⟩
  obtain ⟨q, hq⟩ : ∃ q, vldF v n s l.length = q := ⟨_, rfl⟩
  have HQ := Lib.hid hq
  have HSF : Hid (sameF v n s l v n s l = true) := by show _ = _; unfold sameF; simp
  have hwn : ∀ wl, o = some wl → wl.length ≤ 1000 := fun wl e => by
    rw [e] at ho
    unfold bytesV at ho
    split at ho
    · simp only [Option.some.injEq] at ho; rw [← ho, whole_length]; omega
    · cases ho
  have HO := Lib.hid ho
  clear ho hq
  cases o with
  | some wl =>
    have hwl := hwn wl rfl
    have SW := Lib.hid (show (wl == wl) = true by simp)
    clear hwn
    cases q
    · skip
      have hB := Below.refl w.heap.size w
      go_enter Tryd.func12, Tryd.ntmps12
      go_wp2_with fail
      refine (lent_any x l cx _ (hx.later (al (al (Below.refl _ w) _) _)) hn (by omega)).mono ?_
      rintro e w1 ⟨g1, c1, rfl, ho, hc1, hb⟩
      have yl := ho.bts
      have hc2 := ho.le_cap.2
      have hgl := (ho.low g1 rfl).1
      simp at hgl
      clear ho
      have fz := (Below.frozen hb (p := ⟨w.heap.size + 1, 3, none⟩) (by simp)).trans (show _ = false by go_simp)
      have hq := thru (al (al (Below.refl _ w) _) _) hb
      have g1_0 := later (a := ⟨w.heap.size, 0, none⟩) (v := .int .i64 v) hb (by go_simp)
      have g1_1 := later (a := ⟨w.heap.size, 1, none⟩) (v := .int .i64 n) hb (by go_simp)
      have g1_2 := later (a := ⟨w.heap.size, 2, none⟩) (v := .int .i64 s) hb (by go_simp)
      have g1_3 := later (a := ⟨w.heap.size, 3, none⟩) (v := .slice x l.length cx) hb (by go_simp)
      have g1_4 := later (a := ⟨w.heap.size + 1, 0, none⟩) (v := .int .i64 v) hb (by go_simp)
      have g1_5 := later (a := ⟨w.heap.size + 1, 1, none⟩) (v := .int .i64 n) hb (by go_simp)
      have g1_6 := later (a := ⟨w.heap.size + 1, 2, none⟩) (v := .int .i64 s) hb (by go_simp)
      have g1_7 := later (a := ⟨w.heap.size + 1, 3, none⟩) (v := .slice x l.length cx) hb (by go_simp)
      have z1_0 : w.heap.size < w1.heap.size := (by have := hb.size; first | omega | (simp at this; omega))
      have z1_1 : w.heap.size + 1 < w1.heap.size := (by have := hb.size; first | omega | (simp at this; omega))
      replace hB := thru hB hq
      clear hb hq 
      go_wp2_with fail
      have hts := Turns.setCell (T := fun b => b = w.heap.size + 1) (p := ⟨w.heap.size + 1, 3, none⟩) (Turns.refl _ w1) (fun _ => rfl) (.slice (some ⟨g1, 0, none⟩) l.length c1)
      replace yl := yl.turn hts (fun a e => by cases e; simp; omega)
      clear hts
      refine (bytes_all v n s (some ⟨g1, 0, none⟩) l c1 _ yl.left (fun h => by cases h)).mono ?_
      rw [HO.out]
      rintro e w2 ⟨x2, c2, rfl, ho, hb⟩
      have y2 := ho.bts
      clear ho
      replace yl := yl.later hb
      have g2_0 := later (a := ⟨w.heap.size, 0, none⟩) (v := .int .i64 v) hb (by go_simp)
      have g2_1 := later (a := ⟨w.heap.size, 1, none⟩) (v := .int .i64 n) hb (by go_simp)
      have g2_2 := later (a := ⟨w.heap.size, 2, none⟩) (v := .int .i64 s) hb (by go_simp)
      have g2_3 := later (a := ⟨w.heap.size, 3, none⟩) (v := .slice x l.length cx) hb (by go_simp)
      have g2_4 := later (a := ⟨w.heap.size + 1, 0, none⟩) (v := .int .i64 v) hb (by go_simp)
      have g2_5 := later (a := ⟨w.heap.size + 1, 1, none⟩) (v := .int .i64 n) hb (by go_simp)
      have g2_6 := later (a := ⟨w.heap.size + 1, 2, none⟩) (v := .int .i64 s) hb (by go_simp)
      have g2_7 := later (a := ⟨w.heap.size + 1, 3, none⟩) (v := .slice (some ⟨g1, 0, none⟩) l.length c1) hb (by go_simp)
      have z2_0 : w.heap.size < w2.heap.size := (by have := hb.size; first | omega | (simp at this; omega))
      have z2_1 : w.heap.size + 1 < w2.heap.size := (by have := hb.size; first | omega | (simp at this; omega))
      replace hB := thru ((hB.setCell (p := ⟨w.heap.size + 1, 3, none⟩) (show w.heap.size ≤ w.heap.size + 1 by omega) (.slice (some ⟨g1, 0, none⟩) l.length c1))) hb
      clear hb g1_0 g1_1 g1_2 g1_3 g1_4 g1_5 g1_6 g1_7 z1_0 z1_1
      clear fz
      go_wp2_with fail
      refine (refbytes_all v n s x l cx _ (hx.later hB) hn).mono ?_
      rw [HO.out]
      rintro e w3 ⟨x3, c3, rfl, ho, hb⟩
      have y3 := ho.bts
      clear ho
      have hq := thru (Below.refl _ w2) hb
      have g3_0 := later hq g2_0
      have g3_1 := later hq g2_1
      have g3_2 := later hq g2_2
      have g3_3 := later hq g2_3
      have g3_4 := later hq g2_4
      have g3_5 := later hq g2_5
      have g3_6 := later hq g2_6
      have g3_7 := later hq g2_7
      have z3_0 : w.heap.size < w3.heap.size := Nat.lt_of_lt_of_le z2_0 hq.size
      have z3_1 : w.heap.size + 1 < w3.heap.size := Nat.lt_of_lt_of_le z2_1 hq.size
      replace hB := thru hB hq
      replace yl := yl.later hq
      replace y2 := y2.later hq
      clear hb hq g2_0 g2_1 g2_2 g2_3 g2_4 g2_5 g2_6 g2_7 z2_0 z2_1
      go_wp2_with fail
      refine wp_region_sched (fun W => W.cell? ⟨w.heap.size, 0, none⟩ = some (.int .i64 v) ∧ W.cell? ⟨w.heap.size, 1, none⟩ = some (.int .i64 n) ∧ W.cell? ⟨w.heap.size, 2, none⟩ = some (.int .i64 s) ∧ W.cell? ⟨w.heap.size, 3, none⟩ = some (.slice x l.length cx) ∧ W.cell? ⟨w.heap.size + 1, 0, none⟩ = some (.int .i64 v) ∧ W.cell? ⟨w.heap.size + 1, 1, none⟩ = some (.int .i64 n) ∧ W.cell? ⟨w.heap.size + 1, 2, none⟩ = some (.int .i64 s) ∧ W.cell? ⟨w.heap.size + 1, 3, none⟩ = some (.slice (some ⟨g1, 0, none⟩) l.length c1) ∧ w.heap.size < W.heap.size ∧ w.heap.size + 1 < W.heap.size ∧ Bts W (some ⟨g1, 0, none⟩) (l ++ marks 12) ∧ Bts W x2 wl ∧ Bts W x3 wl ∧ Below w.heap.size w W) (.one [0, 1, 2, 3, 4, 5] 6 (.one [7, 8, 9, 11] 10 (.one [] 12 (.one [13, 14, 15, 16, 17, 18, 19] 20 (.one [21, 22, 23, 24] 25 (.done [26, 27])))))) (by kernel_rfl) (by kernel_rfl) (fun _ _ _ _ _ h => h) ⟨(by go_simp), (by go_simp), (by go_simp), (by go_simp), (by go_simp), (by go_simp), (by go_simp), (by go_simp), (by simp <;> omega), (by simp <;> omega), yl, y2, y3, hB.drew⟩ ?_
      clear hB g3_0 g3_1 g3_2 g3_3 g3_4 g3_5 g3_6 g3_7 z3_0 z3_1 yl y2 y3
      rintro W ⟨g4_0, g4_1, g4_2, g4_3, g4_4, g4_5, g4_6, g4_7, z4_0, z4_1, yl, y2, y3, hB⟩
      rw [wpSched]
      simp only [pick, List.map_cons, List.map_nil, Array.getD_eq_getD_getElem?, List.getElem?_toArray, List.getElem?_cons_succ, List.getElem?_cons_zero, Option.getD_some]
      repeat (first | go_big_quiet_step (fail) | quiet_step (fail))
      refine wpQuiet_nil ?_
      refine heavy_want (by rfl) (fun K' hK' => ?_)
      go_simp
      refine (sameb_any x2 wl c2 x3 wl c3 _ y2 y3 (by omega) (by omega)).mono ?_
      rintro e V1 ⟨rfl, hb⟩
      refine hK' _ _ hb ?_
      clear hK' K'
      rw [SW.out]
      have hq := thru (Below.refl _ W) hb
      clear hb
      have g5_0 := later hq g4_0
      have g5_1 := later hq g4_1
      have g5_2 := later hq g4_2
      have g5_3 := later hq g4_3
      have g5_4 := later hq g4_4
      have g5_5 := later hq g4_5
      have g5_6 := later hq g4_6
      have g5_7 := later hq g4_7
      have z5_0 : w.heap.size < V1.heap.size := Nat.lt_of_lt_of_le z4_0 hq.size
      have z5_1 : w.heap.size + 1 < V1.heap.size := Nat.lt_of_lt_of_le z4_1 hq.size
      replace hB := thru hB hq
      replace yl := yl.later hq
      replace y2 := y2.later hq
      replace y3 := y3.later hq
      clear hq g4_0 g4_1 g4_2 g4_3 g4_4 g4_5 g4_6 g4_7 z4_0 z4_1
      try simp only [Act.put, List.setIfInBounds_toArray, List.set_cons_zero, List.set_cons_succ]
      rw [wpSched]
      simp only [pick, List.map_cons, List.map_nil, Array.getD_eq_getD_getElem?, List.getElem?_toArray, List.getElem?_cons_succ, List.getElem?_cons_zero, Option.getD_some]
      have kg5_0 := plusW_cell g5_0
      have kg5_1 := plusW_cell g5_1
      have kg5_2 := plusW_cell g5_2
      have kg5_3 := plusW_cell g5_3
      have kg5_4 := plusW_cell g5_4
      have kg5_5 := plusW_cell g5_5
      have kg5_6 := plusW_cell g5_6
      have kg5_7 := plusW_cell g5_7
      repeat (first | go_big_quiet_step (fail) | quiet_step (fail))
      refine wpQuiet_nil ?_
      clear kg5_0 kg5_1 kg5_2 kg5_3 kg5_4 kg5_5 kg5_6 kg5_7
      refine heavy_want (by rfl) (fun K' hK' => ?_)
      go_simp
      refine (valid_any v n s (some ⟨g1, 0, none⟩) l.length c1 _).mono ?_
      rintro e V2 ⟨rfl, hb⟩
      refine hK' _ _ hb ?_
      clear hK' K'
      rw [HQ.out]
      have hq := thru (Below.refl _ V1) hb
      clear hb
      have g6_0 := later hq g5_0
      have g6_1 := later hq g5_1
      have g6_2 := later hq g5_2
      have g6_3 := later hq g5_3
      have g6_4 := later hq g5_4
      have g6_5 := later hq g5_5
      have g6_6 := later hq g5_6
      have g6_7 := later hq g5_7
      have z6_0 : w.heap.size < V2.heap.size := Nat.lt_of_lt_of_le z5_0 hq.size
      have z6_1 : w.heap.size + 1 < V2.heap.size := Nat.lt_of_lt_of_le z5_1 hq.size
      replace hB := thru hB hq
      replace yl := yl.later hq
      replace y2 := y2.later hq
      replace y3 := y3.later hq
      clear hq g5_0 g5_1 g5_2 g5_3 g5_4 g5_5 g5_6 g5_7 z5_0 z5_1
      try simp only [Act.put, List.setIfInBounds_toArray, List.set_cons_zero, List.set_cons_succ]
      rw [wpSched]
      simp only [pick, List.map_nil, Array.getD_eq_getD_getElem?, List.getElem?_toArray, List.getElem?_cons_succ, List.getElem?_cons_zero, Option.getD_some]
      refine wpQuiet_nil ?_
      refine heavy_want (by rfl) (fun K' hK' => ?_)
      go_simp
      refine (refvalid_any v n s x l.length cx _).mono ?_
      rintro e V3 ⟨rfl, hb⟩
      refine hK' _ _ hb ?_
      clear hK' K'
      rw [HQ.out]
      have hq := thru (Below.refl _ V2) hb
      clear hb
      have g7_0 := later hq g6_0
      have g7_1 := later hq g6_1
      have g7_2 := later hq g6_2
      have g7_3 := later hq g6_3
      have g7_4 := later hq g6_4
      have g7_5 := later hq g6_5
      have g7_6 := later hq g6_6
      have g7_7 := later hq g6_7
      have z7_0 : w.heap.size < V3.heap.size := Nat.lt_of_lt_of_le z6_0 hq.size
      have z7_1 : w.heap.size + 1 < V3.heap.size := Nat.lt_of_lt_of_le z6_1 hq.size
      replace hB := thru hB hq
      replace yl := yl.later hq
      replace y2 := y2.later hq
      replace y3 := y3.later hq
      clear hq g6_0 g6_1 g6_2 g6_3 g6_4 g6_5 g6_6 g6_7 z6_0 z6_1
      try simp only [Act.put, List.setIfInBounds_toArray, List.set_cons_zero, List.set_cons_succ]
      rw [wpSched]
      simp only [pick, List.map_cons, List.map_nil, Array.getD_eq_getD_getElem?, List.getElem?_toArray, List.getElem?_cons_succ, List.getElem?_cons_zero, Option.getD_some]
      have kg7_0 := plusW_cell g7_0
      have kg7_1 := plusW_cell g7_1
      have kg7_2 := plusW_cell g7_2
      have kg7_3 := plusW_cell g7_3
      have kg7_4 := plusW_cell g7_4
      have kg7_5 := plusW_cell g7_5
      have kg7_6 := plusW_cell g7_6
      have kg7_7 := plusW_cell g7_7
      repeat (first | go_big_quiet_step (fail) | quiet_step (fail))
      refine wpQuiet_nil ?_
      clear kg7_0 kg7_1 kg7_2 kg7_3 kg7_4 kg7_5 kg7_6 kg7_7
      refine heavy_want (by rfl) (fun K' hK' => ?_)
      go_simp
      refine (kept_any g1 c1 l x cx _ yl hc1 hc2 (hx.later hB) (by omega)).mono ?_
      rintro e V4 ⟨rfl, hb⟩
      refine hK' _ _ hb ?_
      clear hK' K'
      have hq := thru (Below.refl _ V3) hb
      clear hb
      have g8_0 := later hq g7_0
      have g8_1 := later hq g7_1
      have g8_2 := later hq g7_2
      have g8_3 := later hq g7_3
      have g8_4 := later hq g7_4
      have g8_5 := later hq g7_5
      have g8_6 := later hq g7_6
      have g8_7 := later hq g7_7
      have z8_0 : w.heap.size < V4.heap.size := Nat.lt_of_lt_of_le z7_0 hq.size
      have z8_1 : w.heap.size + 1 < V4.heap.size := Nat.lt_of_lt_of_le z7_1 hq.size
      replace hB := thru hB hq
      replace yl := yl.later hq
      replace y2 := y2.later hq
      replace y3 := y3.later hq
      clear hq g7_0 g7_1 g7_2 g7_3 g7_4 g7_5 g7_6 g7_7 z7_0 z7_1
      try simp only [Act.put, List.setIfInBounds_toArray, List.set_cons_zero, List.set_cons_succ]
      rw [wpSched]
      simp only [pick, List.map_cons, List.map_nil, Array.getD_eq_getD_getElem?, List.getElem?_toArray, List.getElem?_cons_succ, List.getElem?_cons_zero, Option.getD_some]
      have kg8_0 := plusW_cell g8_0
      have kg8_1 := plusW_cell g8_1
      have kg8_2 := plusW_cell g8_2
      have kg8_3 := plusW_cell g8_3
      have kg8_4 := plusW_cell g8_4
      have kg8_5 := plusW_cell g8_5
      have kg8_6 := plusW_cell g8_6
      have kg8_7 := plusW_cell g8_7
      repeat (first | go_big_quiet_step (fail) | quiet_step (fail))
      refine wpQuiet_nil ?_
      clear kg8_0 kg8_1 kg8_2 kg8_3 kg8_4 kg8_5 kg8_6 kg8_7
      refine heavy_want (by rfl) (fun K' hK' => ?_)
      go_simp
      refine (same17_any v n s x l cx v n s x l cx _ (hx.later hB) (hx.later hB)).mono ?_
      rintro e V5 ⟨rfl, hb⟩
      refine hK' _ _ hb ?_
      clear hK' K'
      rw [HSF.out]
      have hq := thru (Below.refl _ V4) hb
      clear hb
      have g9_0 := later hq g8_0
      have g9_1 := later hq g8_1
      have g9_2 := later hq g8_2
      have g9_3 := later hq g8_3
      have g9_4 := later hq g8_4
      have g9_5 := later hq g8_5
      have g9_6 := later hq g8_6
      have g9_7 := later hq g8_7
      have z9_0 : w.heap.size < V5.heap.size := Nat.lt_of_lt_of_le z8_0 hq.size
      have z9_1 : w.heap.size + 1 < V5.heap.size := Nat.lt_of_lt_of_le z8_1 hq.size
      replace hB := thru hB hq
      replace yl := yl.later hq
      replace y2 := y2.later hq
      replace y3 := y3.later hq
      clear hq g8_0 g8_1 g8_2 g8_3 g8_4 g8_5 g8_6 g8_7 z8_0 z8_1
      try simp only [Act.put, List.setIfInBounds_toArray, List.set_cons_zero, List.set_cons_succ]
      rw [wpSched]
      simp only [pick, List.map_cons, List.map_nil, Array.getD_eq_getD_getElem?, List.getElem?_toArray, List.getElem?_cons_succ, List.getElem?_cons_zero, Option.getD_some]
      repeat (first | go_big_quiet_step (fail) | quiet_step (fail))
      refine wpQuiet_nil ?_
      go_wp2_with fail
      go_ret
      exact ⟨rfl, hB⟩
    · skip
      have hB := Below.refl w.heap.size w
      go_enter Tryd.func12, Tryd.ntmps12
      go_wp2_with fail
      refine (lent_any x l cx _ (hx.later (al (al (Below.refl _ w) _) _)) hn (by omega)).mono ?_
      rintro e w1 ⟨g1, c1, rfl, ho, hc1, hb⟩
      have yl := ho.bts
      have hc2 := ho.le_cap.2
      have hgl := (ho.low g1 rfl).1
      simp at hgl
      clear ho
      have fz := (Below.frozen hb (p := ⟨w.heap.size + 1, 3, none⟩) (by simp)).trans (show _ = false by go_simp)
      have hq := thru (al (al (Below.refl _ w) _) _) hb
      have g1_0 := later (a := ⟨w.heap.size, 0, none⟩) (v := .int .i64 v) hb (by go_simp)
      have g1_1 := later (a := ⟨w.heap.size, 1, none⟩) (v := .int .i64 n) hb (by go_simp)
      have g1_2 := later (a := ⟨w.heap.size, 2, none⟩) (v := .int .i64 s) hb (by go_simp)
      have g1_3 := later (a := ⟨w.heap.size, 3, none⟩) (v := .slice x l.length cx) hb (by go_simp)
      have g1_4 := later (a := ⟨w.heap.size + 1, 0, none⟩) (v := .int .i64 v) hb (by go_simp)
      have g1_5 := later (a := ⟨w.heap.size + 1, 1, none⟩) (v := .int .i64 n) hb (by go_simp)
      have g1_6 := later (a := ⟨w.heap.size + 1, 2, none⟩) (v := .int .i64 s) hb (by go_simp)
      have g1_7 := later (a := ⟨w.heap.size + 1, 3, none⟩) (v := .slice x l.length cx) hb (by go_simp)
      have z1_0 : w.heap.size < w1.heap.size := (by have := hb.size; first | omega | (simp at this; omega))
      have z1_1 : w.heap.size + 1 < w1.heap.size := (by have := hb.size; first | omega | (simp at this; omega))
      replace hB := thru hB hq
      clear hb hq 
      go_wp2_with fail
      have hts := Turns.setCell (T := fun b => b = w.heap.size + 1) (p := ⟨w.heap.size + 1, 3, none⟩) (Turns.refl _ w1) (fun _ => rfl) (.slice (some ⟨g1, 0, none⟩) l.length c1)
      replace yl := yl.turn hts (fun a e => by cases e; simp; omega)
      clear hts
      refine (bytes_all v n s (some ⟨g1, 0, none⟩) l c1 _ yl.left (fun h => by cases h)).mono ?_
      rw [HO.out]
      rintro e w2 ⟨x2, c2, rfl, ho, hb⟩
      have y2 := ho.bts
      clear ho
      replace yl := yl.later hb
      have g2_0 := later (a := ⟨w.heap.size, 0, none⟩) (v := .int .i64 v) hb (by go_simp)
      have g2_1 := later (a := ⟨w.heap.size, 1, none⟩) (v := .int .i64 n) hb (by go_simp)
      have g2_2 := later (a := ⟨w.heap.size, 2, none⟩) (v := .int .i64 s) hb (by go_simp)
      have g2_3 := later (a := ⟨w.heap.size, 3, none⟩) (v := .slice x l.length cx) hb (by go_simp)
      have g2_4 := later (a := ⟨w.heap.size + 1, 0, none⟩) (v := .int .i64 v) hb (by go_simp)
      have g2_5 := later (a := ⟨w.heap.size + 1, 1, none⟩) (v := .int .i64 n) hb (by go_simp)
      have g2_6 := later (a := ⟨w.heap.size + 1, 2, none⟩) (v := .int .i64 s) hb (by go_simp)
      have g2_7 := later (a := ⟨w.heap.size + 1, 3, none⟩) (v := .slice (some ⟨g1, 0, none⟩) l.length c1) hb (by go_simp)
      have z2_0 : w.heap.size < w2.heap.size := (by have := hb.size; first | omega | (simp at this; omega))
      have z2_1 : w.heap.size + 1 < w2.heap.size := (by have := hb.size; first | omega | (simp at this; omega))
      replace hB := thru ((hB.setCell (p := ⟨w.heap.size + 1, 3, none⟩) (show w.heap.size ≤ w.heap.size + 1 by omega) (.slice (some ⟨g1, 0, none⟩) l.length c1))) hb
      clear hb g1_0 g1_1 g1_2 g1_3 g1_4 g1_5 g1_6 g1_7 z1_0 z1_1
      clear fz
      go_wp2_with fail
      refine (refbytes_all v n s x l cx _ (hx.later hB) hn).mono ?_
      rw [HO.out]
      rintro e w3 ⟨x3, c3, rfl, ho, hb⟩
      have y3 := ho.bts
      clear ho
      have hq := thru (Below.refl _ w2) hb
      have g3_0 := later hq g2_0
      have g3_1 := later hq g2_1
      have g3_2 := later hq g2_2
      have g3_3 := later hq g2_3
      have g3_4 := later hq g2_4
      have g3_5 := later hq g2_5
      have g3_6 := later hq g2_6
      have g3_7 := later hq g2_7
      have z3_0 : w.heap.size < w3.heap.size := Nat.lt_of_lt_of_le z2_0 hq.size
      have z3_1 : w.heap.size + 1 < w3.heap.size := Nat.lt_of_lt_of_le z2_1 hq.size
      replace hB := thru hB hq
      replace yl := yl.later hq
      replace y2 := y2.later hq
      clear hb hq g2_0 g2_1 g2_2 g2_3 g2_4 g2_5 g2_6 g2_7 z2_0 z2_1
      go_wp2_with fail
      refine wp_region_sched (fun W => W.cell? ⟨w.heap.size, 0, none⟩ = some (.int .i64 v) ∧ W.cell? ⟨w.heap.size, 1, none⟩ = some (.int .i64 n) ∧ W.cell? ⟨w.heap.size, 2, none⟩ = some (.int .i64 s) ∧ W.cell? ⟨w.heap.size, 3, none⟩ = some (.slice x l.length cx) ∧ W.cell? ⟨w.heap.size + 1, 0, none⟩ = some (.int .i64 v) ∧ W.cell? ⟨w.heap.size + 1, 1, none⟩ = some (.int .i64 n) ∧ W.cell? ⟨w.heap.size + 1, 2, none⟩ = some (.int .i64 s) ∧ W.cell? ⟨w.heap.size + 1, 3, none⟩ = some (.slice (some ⟨g1, 0, none⟩) l.length c1) ∧ w.heap.size < W.heap.size ∧ w.heap.size + 1 < W.heap.size ∧ Bts W (some ⟨g1, 0, none⟩) (l ++ marks 12) ∧ Bts W x2 wl ∧ Bts W x3 wl ∧ Below w.heap.size w W) (.one [0, 1, 2, 3, 4, 5] 6 (.one [7, 8, 9, 11] 10 (.one [] 12 (.one [13, 14, 15, 16, 17, 18, 19] 20 (.one [21, 22, 23, 24] 25 (.done [26, 27])))))) (by kernel_rfl) (by kernel_rfl) (fun _ _ _ _ _ h => h) ⟨(by go_simp), (by go_simp), (by go_simp), (by go_simp), (by go_simp), (by go_simp), (by go_simp), (by go_simp), (by simp <;> omega), (by simp <;> omega), yl, y2, y3, hB.drew⟩ ?_
      clear hB g3_0 g3_1 g3_2 g3_3 g3_4 g3_5 g3_6 g3_7 z3_0 z3_1 yl y2 y3
      rintro W ⟨g4_0, g4_1, g4_2, g4_3, g4_4, g4_5, g4_6, g4_7, z4_0, z4_1, yl, y2, y3, hB⟩
      rw [wpSched]
      simp only [pick, List.map_cons, List.map_nil, Array.getD_eq_getD_getElem?, List.getElem?_toArray, List.getElem?_cons_succ, List.getElem?_cons_zero, Option.getD_some]
      repeat (first | go_big_quiet_step (fail) | quiet_step (fail))
      refine wpQuiet_nil ?_
      refine heavy_want (by rfl) (fun K' hK' => ?_)
      go_simp
      refine (sameb_any x2 wl c2 x3 wl c3 _ y2 y3 (by omega) (by omega)).mono ?_
      rintro e V1 ⟨rfl, hb⟩
      refine hK' _ _ hb ?_
      clear hK' K'
      rw [SW.out]
      have hq := thru (Below.refl _ W) hb
      clear hb
      have g5_0 := later hq g4_0
      have g5_1 := later hq g4_1
      have g5_2 := later hq g4_2
      have g5_3 := later hq g4_3
      have g5_4 := later hq g4_4
      have g5_5 := later hq g4_5
      have g5_6 := later hq g4_6
      have g5_7 := later hq g4_7
      have z5_0 : w.heap.size < V1.heap.size := Nat.lt_of_lt_of_le z4_0 hq.size
      have z5_1 : w.heap.size + 1 < V1.heap.size := Nat.lt_of_lt_of_le z4_1 hq.size
      replace hB := thru hB hq
      replace yl := yl.later hq
      replace y2 := y2.later hq
      replace y3 := y3.later hq
      clear hq g4_0 g4_1 g4_2 g4_3 g4_4 g4_5 g4_6 g4_7 z4_0 z4_1
      try simp only [Act.put, List.setIfInBounds_toArray, List.set_cons_zero, List.set_cons_succ]
      rw [wpSched]
      simp only [pick, List.map_cons, List.map_nil, Array.getD_eq_getD_getElem?, List.getElem?_toArray, List.getElem?_cons_succ, List.getElem?_cons_zero, Option.getD_some]
      have kg5_0 := plusW_cell g5_0
      have kg5_1 := plusW_cell g5_1
      have kg5_2 := plusW_cell g5_2
      have kg5_3 := plusW_cell g5_3
      have kg5_4 := plusW_cell g5_4
      have kg5_5 := plusW_cell g5_5
      have kg5_6 := plusW_cell g5_6
      have kg5_7 := plusW_cell g5_7
      repeat (first | go_big_quiet_step (fail) | quiet_step (fail))
      refine wpQuiet_nil ?_
      clear kg5_0 kg5_1 kg5_2 kg5_3 kg5_4 kg5_5 kg5_6 kg5_7
      refine heavy_want (by rfl) (fun K' hK' => ?_)
      go_simp
      refine (valid_any v n s (some ⟨g1, 0, none⟩) l.length c1 _).mono ?_
      rintro e V2 ⟨rfl, hb⟩
      refine hK' _ _ hb ?_
      clear hK' K'
      rw [HQ.out]
      have hq := thru (Below.refl _ V1) hb
      clear hb
      have g6_0 := later hq g5_0
      have g6_1 := later hq g5_1
      have g6_2 := later hq g5_2
      have g6_3 := later hq g5_3
      have g6_4 := later hq g5_4
      have g6_5 := later hq g5_5
      have g6_6 := later hq g5_6
      have g6_7 := later hq g5_7
      have z6_0 : w.heap.size < V2.heap.size := Nat.lt_of_lt_of_le z5_0 hq.size
      have z6_1 : w.heap.size + 1 < V2.heap.size := Nat.lt_of_lt_of_le z5_1 hq.size
      replace hB := thru hB hq
      replace yl := yl.later hq
      replace y2 := y2.later hq
      replace y3 := y3.later hq
      clear hq g5_0 g5_1 g5_2 g5_3 g5_4 g5_5 g5_6 g5_7 z5_0 z5_1
      try simp only [Act.put, List.setIfInBounds_toArray, List.set_cons_zero, List.set_cons_succ]
      rw [wpSched]
      simp only [pick, List.map_nil, Array.getD_eq_getD_getElem?, List.getElem?_toArray, List.getElem?_cons_succ, List.getElem?_cons_zero, Option.getD_some]
      refine wpQuiet_nil ?_
      refine heavy_want (by rfl) (fun K' hK' => ?_)
      go_simp
      refine (refvalid_any v n s x l.length cx _).mono ?_
      rintro e V3 ⟨rfl, hb⟩
      refine hK' _ _ hb ?_
      clear hK' K'
      rw [HQ.out]
      have hq := thru (Below.refl _ V2) hb
      clear hb
      have g7_0 := later hq g6_0
      have g7_1 := later hq g6_1
      have g7_2 := later hq g6_2
      have g7_3 := later hq g6_3
      have g7_4 := later hq g6_4
      have g7_5 := later hq g6_5
      have g7_6 := later hq g6_6
      have g7_7 := later hq g6_7
      have z7_0 : w.heap.size < V3.heap.size := Nat.lt_of_lt_of_le z6_0 hq.size
      have z7_1 : w.heap.size + 1 < V3.heap.size := Nat.lt_of_lt_of_le z6_1 hq.size
      replace hB := thru hB hq
      replace yl := yl.later hq
      replace y2 := y2.later hq
      replace y3 := y3.later hq
      clear hq g6_0 g6_1 g6_2 g6_3 g6_4 g6_5 g6_6 g6_7 z6_0 z6_1
      try simp only [Act.put, List.setIfInBounds_toArray, List.set_cons_zero, List.set_cons_succ]
      rw [wpSched]
      simp only [pick, List.map_cons, List.map_nil, Array.getD_eq_getD_getElem?, List.getElem?_toArray, List.getElem?_cons_succ, List.getElem?_cons_zero, Option.getD_some]
      have kg7_0 := plusW_cell g7_0
      have kg7_1 := plusW_cell g7_1
      have kg7_2 := plusW_cell g7_2
      have kg7_3 := plusW_cell g7_3
      have kg7_4 := plusW_cell g7_4
      have kg7_5 := plusW_cell g7_5
      have kg7_6 := plusW_cell g7_6
      have kg7_7 := plusW_cell g7_7
      repeat (first | go_big_quiet_step (fail) | quiet_step (fail))
      refine wpQuiet_nil ?_
      clear kg7_0 kg7_1 kg7_2 kg7_3 kg7_4 kg7_5 kg7_6 kg7_7
      refine heavy_want (by rfl) (fun K' hK' => ?_)
      go_simp
      refine (kept_any g1 c1 l x cx _ yl hc1 hc2 (hx.later hB) (by omega)).mono ?_
      rintro e V4 ⟨rfl, hb⟩
      refine hK' _ _ hb ?_
      clear hK' K'
      have hq := thru (Below.refl _ V3) hb
      clear hb
      have g8_0 := later hq g7_0
      have g8_1 := later hq g7_1
      have g8_2 := later hq g7_2
      have g8_3 := later hq g7_3
      have g8_4 := later hq g7_4
      have g8_5 := later hq g7_5
      have g8_6 := later hq g7_6
      have g8_7 := later hq g7_7
      have z8_0 : w.heap.size < V4.heap.size := Nat.lt_of_lt_of_le z7_0 hq.size
      have z8_1 : w.heap.size + 1 < V4.heap.size := Nat.lt_of_lt_of_le z7_1 hq.size
      replace hB := thru hB hq
      replace yl := yl.later hq
      replace y2 := y2.later hq
      replace y3 := y3.later hq
      clear hq g7_0 g7_1 g7_2 g7_3 g7_4 g7_5 g7_6 g7_7 z7_0 z7_1
      try simp only [Act.put, List.setIfInBounds_toArray, List.set_cons_zero, List.set_cons_succ]
      rw [wpSched]
      simp only [pick, List.map_cons, List.map_nil, Array.getD_eq_getD_getElem?, List.getElem?_toArray, List.getElem?_cons_succ, List.getElem?_cons_zero, Option.getD_some]
      have kg8_0 := plusW_cell g8_0
      have kg8_1 := plusW_cell g8_1
      have kg8_2 := plusW_cell g8_2
      have kg8_3 := plusW_cell g8_3
      have kg8_4 := plusW_cell g8_4
      have kg8_5 := plusW_cell g8_5
      have kg8_6 := plusW_cell g8_6
      have kg8_7 := plusW_cell g8_7
      repeat (first | go_big_quiet_step (fail) | quiet_step (fail))
      refine wpQuiet_nil ?_
      clear kg8_0 kg8_1 kg8_2 kg8_3 kg8_4 kg8_5 kg8_6 kg8_7
      refine heavy_want (by rfl) (fun K' hK' => ?_)
      go_simp
      refine (same17_any v n s x l cx v n s x l cx _ (hx.later hB) (hx.later hB)).mono ?_
      rintro e V5 ⟨rfl, hb⟩
      refine hK' _ _ hb ?_
      clear hK' K'
      rw [HSF.out]
      have hq := thru (Below.refl _ V4) hb
      clear hb
      have g9_0 := later hq g8_0
      have g9_1 := later hq g8_1
      have g9_2 := later hq g8_2
      have g9_3 := later hq g8_3
      have g9_4 := later hq g8_4
      have g9_5 := later hq g8_5
      have g9_6 := later hq g8_6
      have g9_7 := later hq g8_7
      have z9_0 : w.heap.size < V5.heap.size := Nat.lt_of_lt_of_le z8_0 hq.size
      have z9_1 : w.heap.size + 1 < V5.heap.size := Nat.lt_of_lt_of_le z8_1 hq.size
      replace hB := thru hB hq
      replace yl := yl.later hq
      replace y2 := y2.later hq
      replace y3 := y3.later hq
      clear hq g8_0 g8_1 g8_2 g8_3 g8_4 g8_5 g8_6 g8_7 z8_0 z8_1
      try simp only [Act.put, List.setIfInBounds_toArray, List.set_cons_zero, List.set_cons_succ]
      rw [wpSched]
      simp only [pick, List.map_cons, List.map_nil, Array.getD_eq_getD_getElem?, List.getElem?_toArray, List.getElem?_cons_succ, List.getElem?_cons_zero, Option.getD_some]
      repeat (first | go_big_quiet_step (fail) | quiet_step (fail))
      refine wpQuiet_nil ?_
      go_wp2_with fail
      go_ret
      exact ⟨rfl, hB⟩
  | none =>
    clear hwn
    cases q
    · skip
      have hB := Below.refl w.heap.size w
      go_enter Tryd.func12, Tryd.ntmps12
      go_wp2_with fail
      refine (lent_any x l cx _ (hx.later (al (al (Below.refl _ w) _) _)) hn (by omega)).mono ?_
      rintro e w1 ⟨g1, c1, rfl, ho, hc1, hb⟩
      have yl := ho.bts
      have hc2 := ho.le_cap.2
      have hgl := (ho.low g1 rfl).1
      simp at hgl
      clear ho
      have fz := (Below.frozen hb (p := ⟨w.heap.size + 1, 3, none⟩) (by simp)).trans (show _ = false by go_simp)
      have hq := thru (al (al (Below.refl _ w) _) _) hb
      have g1_0 := later (a := ⟨w.heap.size, 0, none⟩) (v := .int .i64 v) hb (by go_simp)
      have g1_1 := later (a := ⟨w.heap.size, 1, none⟩) (v := .int .i64 n) hb (by go_simp)
      have g1_2 := later (a := ⟨w.heap.size, 2, none⟩) (v := .int .i64 s) hb (by go_simp)
      have g1_3 := later (a := ⟨w.heap.size, 3, none⟩) (v := .slice x l.length cx) hb (by go_simp)
      have g1_4 := later (a := ⟨w.heap.size + 1, 0, none⟩) (v := .int .i64 v) hb (by go_simp)
      have g1_5 := later (a := ⟨w.heap.size + 1, 1, none⟩) (v := .int .i64 n) hb (by go_simp)
      have g1_6 := later (a := ⟨w.heap.size + 1, 2, none⟩) (v := .int .i64 s) hb (by go_simp)
      have g1_7 := later (a := ⟨w.heap.size + 1, 3, none⟩) (v := .slice x l.length cx) hb (by go_simp)
      have z1_0 : w.heap.size < w1.heap.size := (by have := hb.size; first | omega | (simp at this; omega))
      have z1_1 : w.heap.size + 1 < w1.heap.size := (by have := hb.size; first | omega | (simp at this; omega))
      replace hB := thru hB hq
      clear hb hq 
      go_wp2_with fail
      have hts := Turns.setCell (T := fun b => b = w.heap.size + 1) (p := ⟨w.heap.size + 1, 3, none⟩) (Turns.refl _ w1) (fun _ => rfl) (.slice (some ⟨g1, 0, none⟩) l.length c1)
      replace yl := yl.turn hts (fun a e => by cases e; simp; omega)
      clear hts
      refine (bytes_all v n s (some ⟨g1, 0, none⟩) l c1 _ yl.left (fun h => by cases h)).mono ?_
      rw [HO.out]
      rintro e w2 ⟨rfl, hb⟩
      replace yl := yl.later hb
      have g2_0 := later (a := ⟨w.heap.size, 0, none⟩) (v := .int .i64 v) hb (by go_simp)
      have g2_1 := later (a := ⟨w.heap.size, 1, none⟩) (v := .int .i64 n) hb (by go_simp)
      have g2_2 := later (a := ⟨w.heap.size, 2, none⟩) (v := .int .i64 s) hb (by go_simp)
      have g2_3 := later (a := ⟨w.heap.size, 3, none⟩) (v := .slice x l.length cx) hb (by go_simp)
      have g2_4 := later (a := ⟨w.heap.size + 1, 0, none⟩) (v := .int .i64 v) hb (by go_simp)
      have g2_5 := later (a := ⟨w.heap.size + 1, 1, none⟩) (v := .int .i64 n) hb (by go_simp)
      have g2_6 := later (a := ⟨w.heap.size + 1, 2, none⟩) (v := .int .i64 s) hb (by go_simp)
      have g2_7 := later (a := ⟨w.heap.size + 1, 3, none⟩) (v := .slice (some ⟨g1, 0, none⟩) l.length c1) hb (by go_simp)
      have z2_0 : w.heap.size < w2.heap.size := (by have := hb.size; first | omega | (simp at this; omega))
      have z2_1 : w.heap.size + 1 < w2.heap.size := (by have := hb.size; first | omega | (simp at this; omega))
      replace hB := thru ((hB.setCell (p := ⟨w.heap.size + 1, 3, none⟩) (show w.heap.size ≤ w.heap.size + 1 by omega) (.slice (some ⟨g1, 0, none⟩) l.length c1))) hb
      clear hb g1_0 g1_1 g1_2 g1_3 g1_4 g1_5 g1_6 g1_7 z1_0 z1_1
      clear fz
      go_wp2_with fail
      refine (refbytes_all v n s x l cx _ (hx.later hB) hn).mono ?_
      rw [HO.out]
      rintro e w3 ⟨rfl, hb⟩
      have hq := thru (Below.refl _ w2) hb
      have g3_0 := later hq g2_0
      have g3_1 := later hq g2_1
      have g3_2 := later hq g2_2
      have g3_3 := later hq g2_3
      have g3_4 := later hq g2_4
      have g3_5 := later hq g2_5
      have g3_6 := later hq g2_6
      have g3_7 := later hq g2_7
      have z3_0 : w.heap.size < w3.heap.size := Nat.lt_of_lt_of_le z2_0 hq.size
      have z3_1 : w.heap.size + 1 < w3.heap.size := Nat.lt_of_lt_of_le z2_1 hq.size
      replace hB := thru hB hq
      replace yl := yl.later hq
      clear hb hq g2_0 g2_1 g2_2 g2_3 g2_4 g2_5 g2_6 g2_7 z2_0 z2_1
      go_wp2_with fail
      refine wp_region_sched (fun W => W.cell? ⟨w.heap.size, 0, none⟩ = some (.int .i64 v) ∧ W.cell? ⟨w.heap.size, 1, none⟩ = some (.int .i64 n) ∧ W.cell? ⟨w.heap.size, 2, none⟩ = some (.int .i64 s) ∧ W.cell? ⟨w.heap.size, 3, none⟩ = some (.slice x l.length cx) ∧ W.cell? ⟨w.heap.size + 1, 0, none⟩ = some (.int .i64 v) ∧ W.cell? ⟨w.heap.size + 1, 1, none⟩ = some (.int .i64 n) ∧ W.cell? ⟨w.heap.size + 1, 2, none⟩ = some (.int .i64 s) ∧ W.cell? ⟨w.heap.size + 1, 3, none⟩ = some (.slice (some ⟨g1, 0, none⟩) l.length c1) ∧ w.heap.size < W.heap.size ∧ w.heap.size + 1 < W.heap.size ∧ Bts W (some ⟨g1, 0, none⟩) (l ++ marks 12) ∧ Below w.heap.size w W) (.one [0, 1, 2, 3, 4, 5] 6 (.one [7, 8, 9, 11] 10 (.one [] 12 (.one [13, 14, 15, 16, 17, 18, 19] 20 (.one [21, 22, 23, 24] 25 (.done [26, 27])))))) (by kernel_rfl) (by kernel_rfl) (fun _ _ _ _ _ h => h) ⟨(by go_simp), (by go_simp), (by go_simp), (by go_simp), (by go_simp), (by go_simp), (by go_simp), (by go_simp), (by simp <;> omega), (by simp <;> omega), yl, hB.drew⟩ ?_
      clear hB g3_0 g3_1 g3_2 g3_3 g3_4 g3_5 g3_6 g3_7 z3_0 z3_1 yl
      rintro W ⟨g4_0, g4_1, g4_2, g4_3, g4_4, g4_5, g4_6, g4_7, z4_0, z4_1, yl, hB⟩
      rw [wpSched]
      simp only [pick, List.map_cons, List.map_nil, Array.getD_eq_getD_getElem?, List.getElem?_toArray, List.getElem?_cons_succ, List.getElem?_cons_zero, Option.getD_some]
      repeat (first | go_big_quiet_step (fail) | quiet_step (fail))
      refine wpQuiet_nil ?_
      refine heavy_want (by rfl) (fun K' hK' => ?_)
      go_simp
      refine (sameb_any none [] 0 none [] 0 _ (Bts.nil _ _) (Bts.nil _ _) (by simp) (by simp)).mono ?_
      rintro e V1 ⟨rfl, hb⟩
      refine hK' _ _ hb ?_
      clear hK' K'
      rw [show (([] : List UInt8) == []) = true from rfl]
      have hq := thru (Below.refl _ W) hb
      clear hb
      have g5_0 := later hq g4_0
      have g5_1 := later hq g4_1
      have g5_2 := later hq g4_2
      have g5_3 := later hq g4_3
      have g5_4 := later hq g4_4
      have g5_5 := later hq g4_5
      have g5_6 := later hq g4_6
      have g5_7 := later hq g4_7
      have z5_0 : w.heap.size < V1.heap.size := Nat.lt_of_lt_of_le z4_0 hq.size
      have z5_1 : w.heap.size + 1 < V1.heap.size := Nat.lt_of_lt_of_le z4_1 hq.size
      replace hB := thru hB hq
      replace yl := yl.later hq
      clear hq g4_0 g4_1 g4_2 g4_3 g4_4 g4_5 g4_6 g4_7 z4_0 z4_1
      try simp only [Act.put, List.setIfInBounds_toArray, List.set_cons_zero, List.set_cons_succ]
      rw [wpSched]
      simp only [pick, List.map_cons, List.map_nil, Array.getD_eq_getD_getElem?, List.getElem?_toArray, List.getElem?_cons_succ, List.getElem?_cons_zero, Option.getD_some]
      have kg5_0 := plusW_cell g5_0
      have kg5_1 := plusW_cell g5_1
      have kg5_2 := plusW_cell g5_2
      have kg5_3 := plusW_cell g5_3
      have kg5_4 := plusW_cell g5_4
      have kg5_5 := plusW_cell g5_5
      have kg5_6 := plusW_cell g5_6
      have kg5_7 := plusW_cell g5_7
      repeat (first | go_big_quiet_step (fail) | quiet_step (fail))
      refine wpQuiet_nil ?_
      clear kg5_0 kg5_1 kg5_2 kg5_3 kg5_4 kg5_5 kg5_6 kg5_7
      refine heavy_want (by rfl) (fun K' hK' => ?_)
      go_simp
      refine (valid_any v n s (some ⟨g1, 0, none⟩) l.length c1 _).mono ?_
      rintro e V2 ⟨rfl, hb⟩
      refine hK' _ _ hb ?_
      clear hK' K'
      rw [HQ.out]
      have hq := thru (Below.refl _ V1) hb
      clear hb
      have g6_0 := later hq g5_0
      have g6_1 := later hq g5_1
      have g6_2 := later hq g5_2
      have g6_3 := later hq g5_3
      have g6_4 := later hq g5_4
      have g6_5 := later hq g5_5
      have g6_6 := later hq g5_6
      have g6_7 := later hq g5_7
      have z6_0 : w.heap.size < V2.heap.size := Nat.lt_of_lt_of_le z5_0 hq.size
      have z6_1 : w.heap.size + 1 < V2.heap.size := Nat.lt_of_lt_of_le z5_1 hq.size
      replace hB := thru hB hq
      replace yl := yl.later hq
      clear hq g5_0 g5_1 g5_2 g5_3 g5_4 g5_5 g5_6 g5_7 z5_0 z5_1
      try simp only [Act.put, List.setIfInBounds_toArray, List.set_cons_zero, List.set_cons_succ]
      rw [wpSched]
      simp only [pick, List.map_nil, Array.getD_eq_getD_getElem?, List.getElem?_toArray, List.getElem?_cons_succ, List.getElem?_cons_zero, Option.getD_some]
      refine wpQuiet_nil ?_
      refine heavy_want (by rfl) (fun K' hK' => ?_)
      go_simp
      refine (refvalid_any v n s x l.length cx _).mono ?_
      rintro e V3 ⟨rfl, hb⟩
      refine hK' _ _ hb ?_
      clear hK' K'
      rw [HQ.out]
      have hq := thru (Below.refl _ V2) hb
      clear hb
      have g7_0 := later hq g6_0
      have g7_1 := later hq g6_1
      have g7_2 := later hq g6_2
      have g7_3 := later hq g6_3
      have g7_4 := later hq g6_4
      have g7_5 := later hq g6_5
      have g7_6 := later hq g6_6
      have g7_7 := later hq g6_7
      have z7_0 : w.heap.size < V3.heap.size := Nat.lt_of_lt_of_le z6_0 hq.size
      have z7_1 : w.heap.size + 1 < V3.heap.size := Nat.lt_of_lt_of_le z6_1 hq.size
      replace hB := thru hB hq
      replace yl := yl.later hq
      clear hq g6_0 g6_1 g6_2 g6_3 g6_4 g6_5 g6_6 g6_7 z6_0 z6_1
      try simp only [Act.put, List.setIfInBounds_toArray, List.set_cons_zero, List.set_cons_succ]
      rw [wpSched]
      simp only [pick, List.map_cons, List.map_nil, Array.getD_eq_getD_getElem?, List.getElem?_toArray, List.getElem?_cons_succ, List.getElem?_cons_zero, Option.getD_some]
      have kg7_0 := plusW_cell g7_0
      have kg7_1 := plusW_cell g7_1
      have kg7_2 := plusW_cell g7_2
      have kg7_3 := plusW_cell g7_3
      have kg7_4 := plusW_cell g7_4
      have kg7_5 := plusW_cell g7_5
      have kg7_6 := plusW_cell g7_6
      have kg7_7 := plusW_cell g7_7
      repeat (first | go_big_quiet_step (fail) | quiet_step (fail))
      refine wpQuiet_nil ?_
      clear kg7_0 kg7_1 kg7_2 kg7_3 kg7_4 kg7_5 kg7_6 kg7_7
      refine heavy_want (by rfl) (fun K' hK' => ?_)
      go_simp
      refine (kept_any g1 c1 l x cx _ yl hc1 hc2 (hx.later hB) (by omega)).mono ?_
      rintro e V4 ⟨rfl, hb⟩
      refine hK' _ _ hb ?_
      clear hK' K'
      have hq := thru (Below.refl _ V3) hb
      clear hb
      have g8_0 := later hq g7_0
      have g8_1 := later hq g7_1
      have g8_2 := later hq g7_2
      have g8_3 := later hq g7_3
      have g8_4 := later hq g7_4
      have g8_5 := later hq g7_5
      have g8_6 := later hq g7_6
      have g8_7 := later hq g7_7
      have z8_0 : w.heap.size < V4.heap.size := Nat.lt_of_lt_of_le z7_0 hq.size
      have z8_1 : w.heap.size + 1 < V4.heap.size := Nat.lt_of_lt_of_le z7_1 hq.size
      replace hB := thru hB hq
      replace yl := yl.later hq
      clear hq g7_0 g7_1 g7_2 g7_3 g7_4 g7_5 g7_6 g7_7 z7_0 z7_1
      try simp only [Act.put, List.setIfInBounds_toArray, List.set_cons_zero, List.set_cons_succ]
      rw [wpSched]
      simp only [pick, List.map_cons, List.map_nil, Array.getD_eq_getD_getElem?, List.getElem?_toArray, List.getElem?_cons_succ, List.getElem?_cons_zero, Option.getD_some]
      have kg8_0 := plusW_cell g8_0
      have kg8_1 := plusW_cell g8_1
      have kg8_2 := plusW_cell g8_2
      have kg8_3 := plusW_cell g8_3
      have kg8_4 := plusW_cell g8_4
      have kg8_5 := plusW_cell g8_5
      have kg8_6 := plusW_cell g8_6
      have kg8_7 := plusW_cell g8_7
      repeat (first | go_big_quiet_step (fail) | quiet_step (fail))
      refine wpQuiet_nil ?_
      clear kg8_0 kg8_1 kg8_2 kg8_3 kg8_4 kg8_5 kg8_6 kg8_7
      refine heavy_want (by rfl) (fun K' hK' => ?_)
      go_simp
      refine (same17_any v n s x l cx v n s x l cx _ (hx.later hB) (hx.later hB)).mono ?_
      rintro e V5 ⟨rfl, hb⟩
      refine hK' _ _ hb ?_
      clear hK' K'
      rw [HSF.out]
      have hq := thru (Below.refl _ V4) hb
      clear hb
      have g9_0 := later hq g8_0
      have g9_1 := later hq g8_1
      have g9_2 := later hq g8_2
      have g9_3 := later hq g8_3
      have g9_4 := later hq g8_4
      have g9_5 := later hq g8_5
      have g9_6 := later hq g8_6
      have g9_7 := later hq g8_7
      have z9_0 : w.heap.size < V5.heap.size := Nat.lt_of_lt_of_le z8_0 hq.size
      have z9_1 : w.heap.size + 1 < V5.heap.size := Nat.lt_of_lt_of_le z8_1 hq.size
      replace hB := thru hB hq
      replace yl := yl.later hq
      clear hq g8_0 g8_1 g8_2 g8_3 g8_4 g8_5 g8_6 g8_7 z8_0 z8_1
      try simp only [Act.put, List.setIfInBounds_toArray, List.set_cons_zero, List.set_cons_succ]
      rw [wpSched]
      simp only [pick, List.map_cons, List.map_nil, Array.getD_eq_getD_getElem?, List.getElem?_toArray, List.getElem?_cons_succ, List.getElem?_cons_zero, Option.getD_some]
      repeat (first | go_big_quiet_step (fail) | quiet_step (fail))
      refine wpQuiet_nil ?_
      go_wp2_with fail
      go_ret
      exact ⟨rfl, hB⟩
    · skip
      have hB := Below.refl w.heap.size w
      go_enter Tryd.func12, Tryd.ntmps12
      go_wp2_with fail
      refine (lent_any x l cx _ (hx.later (al (al (Below.refl _ w) _) _)) hn (by omega)).mono ?_
      rintro e w1 ⟨g1, c1, rfl, ho, hc1, hb⟩
      have yl := ho.bts
      have hc2 := ho.le_cap.2
      have hgl := (ho.low g1 rfl).1
      simp at hgl
      clear ho
      have fz := (Below.frozen hb (p := ⟨w.heap.size + 1, 3, none⟩) (by simp)).trans (show _ = false by go_simp)
      have hq := thru (al (al (Below.refl _ w) _) _) hb
      have g1_0 := later (a := ⟨w.heap.size, 0, none⟩) (v := .int .i64 v) hb (by go_simp)
      have g1_1 := later (a := ⟨w.heap.size, 1, none⟩) (v := .int .i64 n) hb (by go_simp)
      have g1_2 := later (a := ⟨w.heap.size, 2, none⟩) (v := .int .i64 s) hb (by go_simp)
      have g1_3 := later (a := ⟨w.heap.size, 3, none⟩) (v := .slice x l.length cx) hb (by go_simp)
      have g1_4 := later (a := ⟨w.heap.size + 1, 0, none⟩) (v := .int .i64 v) hb (by go_simp)
      have g1_5 := later (a := ⟨w.heap.size + 1, 1, none⟩) (v := .int .i64 n) hb (by go_simp)
      have g1_6 := later (a := ⟨w.heap.size + 1, 2, none⟩) (v := .int .i64 s) hb (by go_simp)
      have g1_7 := later (a := ⟨w.heap.size + 1, 3, none⟩) (v := .slice x l.length cx) hb (by go_simp)
      have z1_0 : w.heap.size < w1.heap.size := (by have := hb.size; first | omega | (simp at this; omega))
      have z1_1 : w.heap.size + 1 < w1.heap.size := (by have := hb.size; first | omega | (simp at this; omega))
      replace hB := thru hB hq
      clear hb hq 
      go_wp2_with fail
      have hts := Turns.setCell (T := fun b => b = w.heap.size + 1) (p := ⟨w.heap.size + 1, 3, none⟩) (Turns.refl _ w1) (fun _ => rfl) (.slice (some ⟨g1, 0, none⟩) l.length c1)
      replace yl := yl.turn hts (fun a e => by cases e; simp; omega)
      clear hts
      refine (bytes_all v n s (some ⟨g1, 0, none⟩) l c1 _ yl.left (fun h => by cases h)).mono ?_
      rw [HO.out]
      rintro e w2 ⟨rfl, hb⟩
      replace yl := yl.later hb
      have g2_0 := later (a := ⟨w.heap.size, 0, none⟩) (v := .int .i64 v) hb (by go_simp)
      have g2_1 := later (a := ⟨w.heap.size, 1, none⟩) (v := .int .i64 n) hb (by go_simp)
      have g2_2 := later (a := ⟨w.heap.size, 2, none⟩) (v := .int .i64 s) hb (by go_simp)
      have g2_3 := later (a := ⟨w.heap.size, 3, none⟩) (v := .slice x l.length cx) hb (by go_simp)
      have g2_4 := later (a := ⟨w.heap.size + 1, 0, none⟩) (v := .int .i64 v) hb (by go_simp)
      have g2_5 := later (a := ⟨w.heap.size + 1, 1, none⟩) (v := .int .i64 n) hb (by go_simp)
      have g2_6 := later (a := ⟨w.heap.size + 1, 2, none⟩) (v := .int .i64 s) hb (by go_simp)
      have g2_7 := later (a := ⟨w.heap.size + 1, 3, none⟩) (v := .slice (some ⟨g1, 0, none⟩) l.length c1) hb (by go_simp)
      have z2_0 : w.heap.size < w2.heap.size := (by have := hb.size; first | omega | (simp at this; omega))
      have z2_1 : w.heap.size + 1 < w2.heap.size := (by have := hb.size; first | omega | (simp at this; omega))
      replace hB := thru ((hB.setCell (p := ⟨w.heap.size + 1, 3, none⟩) (show w.heap.size ≤ w.heap.size + 1 by omega) (.slice (some ⟨g1, 0, none⟩) l.length c1))) hb
      clear hb g1_0 g1_1 g1_2 g1_3 g1_4 g1_5 g1_6 g1_7 z1_0 z1_1
      clear fz
      go_wp2_with fail
      refine (refbytes_all v n s x l cx _ (hx.later hB) hn).mono ?_
      rw [HO.out]
      rintro e w3 ⟨rfl, hb⟩
      have hq := thru (Below.refl _ w2) hb
      have g3_0 := later hq g2_0
      have g3_1 := later hq g2_1
      have g3_2 := later hq g2_2
      have g3_3 := later hq g2_3
      have g3_4 := later hq g2_4
      have g3_5 := later hq g2_5
      have g3_6 := later hq g2_6
      have g3_7 := later hq g2_7
      have z3_0 : w.heap.size < w3.heap.size := Nat.lt_of_lt_of_le z2_0 hq.size
      have z3_1 : w.heap.size + 1 < w3.heap.size := Nat.lt_of_lt_of_le z2_1 hq.size
      replace hB := thru hB hq
      replace yl := yl.later hq
      clear hb hq g2_0 g2_1 g2_2 g2_3 g2_4 g2_5 g2_6 g2_7 z2_0 z2_1
      go_wp2_with fail
      refine wp_region_sched (fun W => W.cell? ⟨w.heap.size, 0, none⟩ = some (.int .i64 v) ∧ W.cell? ⟨w.heap.size, 1, none⟩ = some (.int .i64 n) ∧ W.cell? ⟨w.heap.size, 2, none⟩ = some (.int .i64 s) ∧ W.cell? ⟨w.heap.size, 3, none⟩ = some (.slice x l.length cx) ∧ W.cell? ⟨w.heap.size + 1, 0, none⟩ = some (.int .i64 v) ∧ W.cell? ⟨w.heap.size + 1, 1, none⟩ = some (.int .i64 n) ∧ W.cell? ⟨w.heap.size + 1, 2, none⟩ = some (.int .i64 s) ∧ W.cell? ⟨w.heap.size + 1, 3, none⟩ = some (.slice (some ⟨g1, 0, none⟩) l.length c1) ∧ w.heap.size < W.heap.size ∧ w.heap.size + 1 < W.heap.size ∧ Bts W (some ⟨g1, 0, none⟩) (l ++ marks 12) ∧ Below w.heap.size w W) (.one [0, 1, 2, 3, 4, 5] 6 (.one [7, 8, 9, 11] 10 (.one [] 12 (.one [13, 14, 15, 16, 17, 18, 19] 20 (.one [21, 22, 23, 24] 25 (.done [26, 27])))))) (by kernel_rfl) (by kernel_rfl) (fun _ _ _ _ _ h => h) ⟨(by go_simp), (by go_simp), (by go_simp), (by go_simp), (by go_simp), (by go_simp), (by go_simp), (by go_simp), (by simp <;> omega), (by simp <;> omega), yl, hB.drew⟩ ?_
      clear hB g3_0 g3_1 g3_2 g3_3 g3_4 g3_5 g3_6 g3_7 z3_0 z3_1 yl
      rintro W ⟨g4_0, g4_1, g4_2, g4_3, g4_4, g4_5, g4_6, g4_7, z4_0, z4_1, yl, hB⟩
      rw [wpSched]
      simp only [pick, List.map_cons, List.map_nil, Array.getD_eq_getD_getElem?, List.getElem?_toArray, List.getElem?_cons_succ, List.getElem?_cons_zero, Option.getD_some]
      repeat (first | go_big_quiet_step (fail) | quiet_step (fail))
      refine wpQuiet_nil ?_
      refine heavy_want (by rfl) (fun K' hK' => ?_)
      go_simp
      refine (sameb_any none [] 0 none [] 0 _ (Bts.nil _ _) (Bts.nil _ _) (by simp) (by simp)).mono ?_
      rintro e V1 ⟨rfl, hb⟩
      refine hK' _ _ hb ?_
      clear hK' K'
      rw [show (([] : List UInt8) == []) = true from rfl]
      have hq := thru (Below.refl _ W) hb
      clear hb
      have g5_0 := later hq g4_0
      have g5_1 := later hq g4_1
      have g5_2 := later hq g4_2
      have g5_3 := later hq g4_3
      have g5_4 := later hq g4_4
      have g5_5 := later hq g4_5
      have g5_6 := later hq g4_6
      have g5_7 := later hq g4_7
      have z5_0 : w.heap.size < V1.heap.size := Nat.lt_of_lt_of_le z4_0 hq.size
      have z5_1 : w.heap.size + 1 < V1.heap.size := Nat.lt_of_lt_of_le z4_1 hq.size
      replace hB := thru hB hq
      replace yl := yl.later hq
      clear hq g4_0 g4_1 g4_2 g4_3 g4_4 g4_5 g4_6 g4_7 z4_0 z4_1
      try simp only [Act.put, List.setIfInBounds_toArray, List.set_cons_zero, List.set_cons_succ]
      rw [wpSched]
      simp only [pick, List.map_cons, List.map_nil, Array.getD_eq_getD_getElem?, List.getElem?_toArray, List.getElem?_cons_succ, List.getElem?_cons_zero, Option.getD_some]
      have kg5_0 := plusW_cell g5_0
      have kg5_1 := plusW_cell g5_1
      have kg5_2 := plusW_cell g5_2
      have kg5_3 := plusW_cell g5_3
      have kg5_4 := plusW_cell g5_4
      have kg5_5 := plusW_cell g5_5
      have kg5_6 := plusW_cell g5_6
      have kg5_7 := plusW_cell g5_7
      repeat (first | go_big_quiet_step (fail) | quiet_step (fail))
      refine wpQuiet_nil ?_
      clear kg5_0 kg5_1 kg5_2 kg5_3 kg5_4 kg5_5 kg5_6 kg5_7
      refine heavy_want (by rfl) (fun K' hK' => ?_)
      go_simp
      refine (valid_any v n s (some ⟨g1, 0, none⟩) l.length c1 _).mono ?_
      rintro e V2 ⟨rfl, hb⟩
      refine hK' _ _ hb ?_
      clear hK' K'
      rw [HQ.out]
      have hq := thru (Below.refl _ V1) hb
      clear hb
      have g6_0 := later hq g5_0
      have g6_1 := later hq g5_1
      have g6_2 := later hq g5_2
      have g6_3 := later hq g5_3
      have g6_4 := later hq g5_4
      have g6_5 := later hq g5_5
      have g6_6 := later hq g5_6
      have g6_7 := later hq g5_7
      have z6_0 : w.heap.size < V2.heap.size := Nat.lt_of_lt_of_le z5_0 hq.size
      have z6_1 : w.heap.size + 1 < V2.heap.size := Nat.lt_of_lt_of_le z5_1 hq.size
      replace hB := thru hB hq
      replace yl := yl.later hq
      clear hq g5_0 g5_1 g5_2 g5_3 g5_4 g5_5 g5_6 g5_7 z5_0 z5_1
      try simp only [Act.put, List.setIfInBounds_toArray, List.set_cons_zero, List.set_cons_succ]
      rw [wpSched]
      simp only [pick, List.map_nil, Array.getD_eq_getD_getElem?, List.getElem?_toArray, List.getElem?_cons_succ, List.getElem?_cons_zero, Option.getD_some]
      refine wpQuiet_nil ?_
      refine heavy_want (by rfl) (fun K' hK' => ?_)
      go_simp
      refine (refvalid_any v n s x l.length cx _).mono ?_
      rintro e V3 ⟨rfl, hb⟩
      refine hK' _ _ hb ?_
      clear hK' K'
      rw [HQ.out]
      have hq := thru (Below.refl _ V2) hb
      clear hb
      have g7_0 := later hq g6_0
      have g7_1 := later hq g6_1
      have g7_2 := later hq g6_2
      have g7_3 := later hq g6_3
      have g7_4 := later hq g6_4
      have g7_5 := later hq g6_5
      have g7_6 := later hq g6_6
      have g7_7 := later hq g6_7
      have z7_0 : w.heap.size < V3.heap.size := Nat.lt_of_lt_of_le z6_0 hq.size
      have z7_1 : w.heap.size + 1 < V3.heap.size := Nat.lt_of_lt_of_le z6_1 hq.size
      replace hB := thru hB hq
      replace yl := yl.later hq
      clear hq g6_0 g6_1 g6_2 g6_3 g6_4 g6_5 g6_6 g6_7 z6_0 z6_1
      try simp only [Act.put, List.setIfInBounds_toArray, List.set_cons_zero, List.set_cons_succ]
      rw [wpSched]
      simp only [pick, List.map_cons, List.map_nil, Array.getD_eq_getD_getElem?, List.getElem?_toArray, List.getElem?_cons_succ, List.getElem?_cons_zero, Option.getD_some]
      have kg7_0 := plusW_cell g7_0
      have kg7_1 := plusW_cell g7_1
      have kg7_2 := plusW_cell g7_2
      have kg7_3 := plusW_cell g7_3
      have kg7_4 := plusW_cell g7_4
      have kg7_5 := plusW_cell g7_5
      have kg7_6 := plusW_cell g7_6
      have kg7_7 := plusW_cell g7_7
      repeat (first | go_big_quiet_step (fail) | quiet_step (fail))
      refine wpQuiet_nil ?_
      clear kg7_0 kg7_1 kg7_2 kg7_3 kg7_4 kg7_5 kg7_6 kg7_7
      refine heavy_want (by rfl) (fun K' hK' => ?_)
      go_simp
      refine (kept_any g1 c1 l x cx _ yl hc1 hc2 (hx.later hB) (by omega)).mono ?_
      rintro e V4 ⟨rfl, hb⟩
      refine hK' _ _ hb ?_
      clear hK' K'
      have hq := thru (Below.refl _ V3) hb
      clear hb
      have g8_0 := later hq g7_0
      have g8_1 := later hq g7_1
      have g8_2 := later hq g7_2
      have g8_3 := later hq g7_3
      have g8_4 := later hq g7_4
      have g8_5 := later hq g7_5
      have g8_6 := later hq g7_6
      have g8_7 := later hq g7_7
      have z8_0 : w.heap.size < V4.heap.size := Nat.lt_of_lt_of_le z7_0 hq.size
      have z8_1 : w.heap.size + 1 < V4.heap.size := Nat.lt_of_lt_of_le z7_1 hq.size
      replace hB := thru hB hq
      replace yl := yl.later hq
      clear hq g7_0 g7_1 g7_2 g7_3 g7_4 g7_5 g7_6 g7_7 z7_0 z7_1
      try simp only [Act.put, List.setIfInBounds_toArray, List.set_cons_zero, List.set_cons_succ]
      rw [wpSched]
      simp only [pick, List.map_cons, List.map_nil, Array.getD_eq_getD_getElem?, List.getElem?_toArray, List.getElem?_cons_succ, List.getElem?_cons_zero, Option.getD_some]
      have kg8_0 := plusW_cell g8_0
      have kg8_1 := plusW_cell g8_1
      have kg8_2 := plusW_cell g8_2
      have kg8_3 := plusW_cell g8_3
      have kg8_4 := plusW_cell g8_4
      have kg8_5 := plusW_cell g8_5
      have kg8_6 := plusW_cell g8_6
      have kg8_7 := plusW_cell g8_7
      repeat (first | go_big_quiet_step (fail) | quiet_step (fail))
      refine wpQuiet_nil ?_
      clear kg8_0 kg8_1 kg8_2 kg8_3 kg8_4 kg8_5 kg8_6 kg8_7
      refine heavy_want (by rfl) (fun K' hK' => ?_)
      go_simp
      refine (same17_any v n s x l cx v n s x l cx _ (hx.later hB) (hx.later hB)).mono ?_
      rintro e V5 ⟨rfl, hb⟩
      refine hK' _ _ hb ?_
      clear hK' K'
      rw [HSF.out]
      have hq := thru (Below.refl _ V4) hb
      clear hb
      have g9_0 := later hq g8_0
      have g9_1 := later hq g8_1
      have g9_2 := later hq g8_2
      have g9_3 := later hq g8_3
      have g9_4 := later hq g8_4
      have g9_5 := later hq g8_5
      have g9_6 := later hq g8_6
      have g9_7 := later hq g8_7
      have z9_0 : w.heap.size < V5.heap.size := Nat.lt_of_lt_of_le z8_0 hq.size
      have z9_1 : w.heap.size + 1 < V5.heap.size := Nat.lt_of_lt_of_le z8_1 hq.size
      replace hB := thru hB hq
      replace yl := yl.later hq
      clear hq g8_0 g8_1 g8_2 g8_3 g8_4 g8_5 g8_6 g8_7 z8_0 z8_1
      try simp only [Act.put, List.setIfInBounds_toArray, List.set_cons_zero, List.set_cons_succ]
      rw [wpSched]
      simp only [pick, List.map_cons, List.map_nil, Array.getD_eq_getD_getElem?, List.getElem?_toArray, List.getElem?_cons_succ, List.getElem?_cons_zero, Option.getD_some]
      repeat (first | go_big_quiet_step (fail) | quiet_step (fail))
      refine wpQuiet_nil ?_
      go_wp2_with fail
      go_ret
      exact ⟨rfl, hB⟩

end Go.Proofs.YtjnjjnkanbnliaaDoor
