/- WALKS of the laws of the frame layer: the examples. -/
import Derived.Test.YtjnjjnkanbnliaaDoorFraM
namespace Go.Proofs.YtjnjjnkanbnliaaDoor
open Go.RowKit

set_option maxRecDepth 100000 in
set_option maxHeartbeats 4000000 in
theorem awake_any (w : World) (hd : DbAt w) : Calls Tryd.prog 11 #[] w fun e w' => e = .returned (.bool true) ∧ Below w.heap.size w w' := by
  have E0 : Hid (bytesV 3 1 200 [7, 9] = some [3, 1, 200, 2, 7, 9, 89, 198, 214, 140]) := by show _ = _; decide +kernel
  have E1 : Hid (readV [3, 1, 200, 2, 7, 9, 89, 198, 214, 140] = some (3, 1, 200, [7, 9])) := by show _ = _; decide +kernel
  have E2 : Hid (readV [3, 1, 200, 2, 7, 9, 89, 198, 214, 115] = none) := by show _ = _; decide +kernel
  have K2 : Hid (codeV [3, 1, 200, 2, 7, 9, 89, 198, 214, 115] = 40) := by show _ = _; decide +kernel
  have E3 : Hid ([3, 2, 200, 1, 7] ++ Crc.trailer (Crc.sum [3, 2, 200, 1, 7]) = [3, 2, 200, 1, 7, 92, 38, 72, 51]) := by show _ = _; decide +kernel
  have E4 : Hid (readV [3, 2, 200, 1, 7, 92, 38, 72, 51] = none) := by show _ = _; decide +kernel
  have K4 : Hid (codeV [3, 2, 200, 1, 7, 92, 38, 72, 51] = 170) := by show _ = _; decide +kernel
  have E5 : Hid ([3, 1, 200, 2, 7] ++ Crc.trailer (Crc.sum [3, 1, 200, 2, 7]) = [3, 1, 200, 2, 7, 113, 218, 208, 10]) := by show _ = _; decide +kernel
  have E6 : Hid (readV [3, 1, 200, 2, 7, 113, 218, 208, 10] = none) := by show _ = _; decide +kernel
  have K6 : Hid (codeV [3, 1, 200, 2, 7, 113, 218, 208, 10] = 170) := by show _ = _; decide +kernel
  have E7 : Hid (Crc.burst 7#32 6 [0, 0] = [192, 1]) := by show _ = _; decide +kernel
  have E8 : Hid (Crc.burst 3#32 15 [0, 0] = [0, 128]) := by show _ = _; decide +kernel
  have hB := Below.refl w.heap.size w
  go_enter Tryd.func11, Tryd.ntmps11
  go_wp2_with fail
  refine (bytes_all 3 1 200 (some ⟨w.heap.size, 0, none⟩) [7, 9] 2 _ (Bts.later (bts_new w [7, 9] _ _) (al (Below.refl _ _) _)) (fun h => by cases h)).mono ?_
  rw [E0.out]
  rintro e w1 ⟨x1, c1, rfl, ho, hb⟩
  have y7 : Bts w1 (some ⟨w.heap.size, 0, none⟩) [7, 9] := Bts.later (Bts.later (bts_new w [7, 9] _ _) (al (Below.refl _ _) _)) hb
  obtain ⟨g1, rfl⟩ := ho.some_of (by decide)
  have HO := Lib.hid (ho.weaken (show w.heap.size ≤ _ by simp <;> omega))
  have hcap := ho.le_cap
  have hg1 := (ho.low g1 rfl).1
  simp at hg1
  clear ho
  have hq := thru (al (al (Below.refl _ w) _) _) hb
  have g1_0 := later (a := ⟨w.heap.size + 1, 0, none⟩) (v := .int .i64 3) hb (by go_simp)
  have g1_1 := later (a := ⟨w.heap.size + 1, 1, none⟩) (v := .int .i64 1) hb (by go_simp)
  have g1_2 := later (a := ⟨w.heap.size + 1, 2, none⟩) (v := .int .i64 200) hb (by go_simp)
  have g1_3 := later (a := ⟨w.heap.size + 1, 3, none⟩) (v := .slice (some ⟨w.heap.size, 0, none⟩) 2 2) hb (by go_simp)
  have z1_0 : w.heap.size < w1.heap.size := (by have := hb.size; first | omega | (simp at this; omega))
  have z1_1 : w.heap.size + 1 < w1.heap.size := (by have := hb.size; first | omega | (simp at this; omega))
  replace hB := thru hB hq
  clear hb hq 
  have hc10 : 10 ≤ c1 := hcap.1
  have hc63 : c1 ≤ 9223372036854775807 := hcap.2
  clear hcap
  have hl10 : ([3, 1, 200, 2, 7, 9, 89, 198, 214, 140] : List UInt8).length = 10 := rfl
  rw [hl10]
  clear hl10
  go_wp2_with fail
  refine (toB (size_any 2 _)).mono ?_
  rintro e w2 ⟨rfl, hb⟩
  rw [show wrap64 (2 + 8) = 10 from by first | rfl | (unfold wrap64; decide) | simp [wrap64]]
  replace HO := Lib.hid (HO.out.turn (Turns.of_below hb (Nat.le_refl _)) (fun _ _ h => h))
  have hq := thru (Below.refl _ w1) hb
  have g2_0 := later hq g1_0
  have g2_1 := later hq g1_1
  have g2_2 := later hq g1_2
  have g2_3 := later hq g1_3
  have z2_0 : w.heap.size < w2.heap.size := Nat.lt_of_lt_of_le z1_0 hq.size
  have z2_1 : w.heap.size + 1 < w2.heap.size := Nat.lt_of_lt_of_le z1_1 hq.size
  replace hB := thru hB hq
  replace y7 := y7.later hq
  clear hb hq g1_0 g1_1 g1_2 g1_3 z1_0 z1_1
  go_wp2_with fail
  have yb := HO.out.bts
  refine (sameb_any (some ⟨g1, 0, none⟩) [3, 1, 200, 2, 7, 9] _ _ [3, 1, 200, 2, 7, 9] 6 _ (Bts.left (l := [3, 1, 200, 2, 7, 9]) (m := [89, 198, 214, 140]) (yb.later (al (Below.refl _ _) _))) (bts_new w2 [3, 1, 200, 2, 7, 9] _ _) (by decide) (by decide)).mono ?_
  rintro e w3 ⟨rfl, hb⟩
  replace HO := Lib.hid (HO.out.turn (((Turns.refl (fun _ => False) w2).alloc _).trans (Turns.of_below hb (Nat.le_refl _))) (fun _ _ h => h))
  clear yb
  rw [show (([3, 1, 200, 2, 7, 9] : List UInt8) == [3, 1, 200, 2, 7, 9]) = true from rfl]
  have hq := thru (al (Below.refl _ w2) _) hb
  have g3_0 := later hq g2_0
  have g3_1 := later hq g2_1
  have g3_2 := later hq g2_2
  have g3_3 := later hq g2_3
  have z3_0 : w.heap.size < w3.heap.size := Nat.lt_of_lt_of_le z2_0 hq.size
  have z3_1 : w.heap.size + 1 < w3.heap.size := Nat.lt_of_lt_of_le z2_1 hq.size
  have z3_2 : w2.heap.size < w3.heap.size := (by have := hb.size; first | omega | (simp at this; omega))
  replace hB := thru hB hq
  replace y7 := y7.later hq
  clear hb hq g2_0 g2_1 g2_2 g2_3 z2_0 z2_1
  go_wp2_with fail
  refine (readf_all (some ⟨g1, 0, none⟩) [3, 1, 200, 2, 7, 9, 89, 198, 214, 140] c1 _ HO.out.bts (by decide) ⟨hc10, hc63⟩).mono ?_
  rw [E1.out]
  rintro e w4 ⟨⟨xg, cg, rfl, hog⟩, hb⟩
  have yg := hog.bts
  have hlg := fun b hb => (hog.low b hb).1
  have HLG := Lib.hid hlg
  clear hog hlg
  have hg13 : g1 < w3.heap.size := (HO.out.low g1 rfl).2
  replace HO := Lib.hid (HO.out.turn (Turns.of_below hb (Nat.le_refl _)) (fun _ _ h => h))
  have hq := thru (Below.refl _ w3) hb
  have g4_0 := later hq g3_0
  have g4_1 := later hq g3_1
  have g4_2 := later hq g3_2
  have g4_3 := later hq g3_3
  have z4_0 : w.heap.size < w4.heap.size := Nat.lt_of_lt_of_le z3_0 hq.size
  have z4_1 : w.heap.size + 1 < w4.heap.size := Nat.lt_of_lt_of_le z3_1 hq.size
  have z4_2 : w2.heap.size < w4.heap.size := Nat.lt_of_lt_of_le z3_2 hq.size
  replace hB := thru hB hq
  replace y7 := y7.later hq
  clear hb hq g3_0 g3_1 g3_2 g3_3 z3_0 z3_1 z3_2
  have hu3 : ((3 : UInt8).toNat : Int) = 3 := rfl
  have hu1 : ((1 : UInt8).toNat : Int) = 1 := rfl
  have hu200 : ((200 : UInt8).toNat : Int) = 200 := rfl
  have hl2 : ([7, 9] : List UInt8).length = 2 := rfl
  rw [hu3, hu1, hu200, hl2]
  clear hu3 hu1 hu200 hl2
  have hc9 := HO.out.cell 9 (by decide)
  have hc9b : w4.cell? ⟨g1, 9, none⟩ = some (.int .u8 140) := hc9
  have hf9 := HO.out.free 9
  clear hc9
  have hg14 : g1 < w4.heap.size := (HO.out.low g1 rfl).2
  go_wp2_with fail
  have ho9 := (HO.out.set 9 115).turn ((Turns.refl (fun _ => False) _).alloc (.cells #[.int .i64 3, .int .i64 1, .int .i64 200, .slice xg 2 cg] 24)) (fun _ _ h => h)
  have y7s := (y7.turn (Turns.setCell (T := fun b => b = g1) (p := ⟨g1, 9, none⟩) (Turns.refl _ _) (fun _ => rfl) (.int .u8 115)) (fun a e => by cases e; simp; omega)).later (al (Below.refl _ _) (.cells #[.int .i64 3, .int .i64 1, .int .i64 200, .slice xg 2 cg] 24))
  have ygs := (yg.turn (Turns.setCell (T := fun b => b = g1) (p := ⟨g1, 9, none⟩) (Turns.refl _ _) (fun _ => rfl) (.int .u8 115)) (fun a e => by subst e; have := HLG.out a.block (by cases a; rfl); omega)).later (al (Below.refl _ _) (.cells #[.int .i64 3, .int .i64 1, .int .i64 200, .slice xg 2 cg] 24))
  clear y7 yg
  refine (readf_all (some ⟨g1, 0, none⟩) [3, 1, 200, 2, 7, 9, 89, 198, 214, 115] c1 _ ho9.bts (by decide) ⟨hc10, hc63⟩).mono ?_
  rw [E2.out, K2.out]
  rintro e w5 ⟨rfl, hb⟩
  have y7 := y7s.later hb
  have yg := ygs.later hb
  clear y7s ygs ho9
  have g5_0 := later (a := ⟨w.heap.size + 1, 0, none⟩) (v := .int .i64 3) hb (by go_simp)
  have g5_1 := later (a := ⟨w.heap.size + 1, 1, none⟩) (v := .int .i64 1) hb (by go_simp)
  have g5_2 := later (a := ⟨w.heap.size + 1, 2, none⟩) (v := .int .i64 200) hb (by go_simp)
  have g5_3 := later (a := ⟨w.heap.size + 1, 3, none⟩) (v := .slice (some ⟨w.heap.size, 0, none⟩) 2 2) hb (by go_simp)
  have g5_4 := later (a := ⟨w4.heap.size, 0, none⟩) (v := .int .i64 3) hb (by go_simp)
  have g5_5 := later (a := ⟨w4.heap.size, 1, none⟩) (v := .int .i64 1) hb (by go_simp)
  have g5_6 := later (a := ⟨w4.heap.size, 2, none⟩) (v := .int .i64 200) hb (by go_simp)
  have g5_7 := later (a := ⟨w4.heap.size, 3, none⟩) (v := .slice xg 2 cg) hb (by go_simp)
  have z5_0 : w.heap.size < w5.heap.size := (by have := hb.size; first | omega | (simp at this; omega))
  have z5_1 : w.heap.size + 1 < w5.heap.size := (by have := hb.size; first | omega | (simp at this; omega))
  have z5_2 : w2.heap.size < w5.heap.size := (by have := hb.size; first | omega | (simp at this; omega))
  have z5_3 : w4.heap.size < w5.heap.size := (by have := hb.size; first | omega | (simp at this; omega))
  replace hB := thru ((al (hB.setCell (p := ⟨g1, 9, none⟩) (show w.heap.size ≤ g1 by omega) (.int .u8 115)) _)) hb
  clear hb g4_0 g4_1 g4_2 g4_3 z4_0 z4_1 z4_2
  clear HO hc9b hf9
  go_wp2_with fail
  refine (append_any _ [3, 2, 200, 1, 7] 5 _ (bts_new' (w5.heap.size + 1) _ [3, 2, 200, 1, 7] _ _ (by simp)) (by decide)).mono ?_
  rintro e w6 ⟨xa6, ca6, rfl, ho, hb⟩
  rw [E3.out] at ho ⊢
  have ya := ho.bts
  have cap6 := ho.le_cap
  clear ho
  have hq := thru (al (al (Below.refl _ w5) _) _) hb
  have g6_0 := later hq g5_0
  have g6_1 := later hq g5_1
  have g6_2 := later hq g5_2
  have g6_3 := later hq g5_3
  have g6_4 := later hq g5_4
  have g6_5 := later hq g5_5
  have g6_6 := later hq g5_6
  have g6_7 := later hq g5_7
  have z6_0 : w.heap.size < w6.heap.size := Nat.lt_of_lt_of_le z5_0 hq.size
  have z6_1 : w.heap.size + 1 < w6.heap.size := Nat.lt_of_lt_of_le z5_1 hq.size
  have z6_2 : w2.heap.size < w6.heap.size := Nat.lt_of_lt_of_le z5_2 hq.size
  have z6_3 : w4.heap.size < w6.heap.size := Nat.lt_of_lt_of_le z5_3 hq.size
  have z6_4 : w5.heap.size < w6.heap.size := (by have := hb.size; first | omega | (simp at this; omega))
  have z6_5 : w5.heap.size + 1 < w6.heap.size := (by have := hb.size; first | omega | (simp at this; omega))
  replace hB := thru hB hq
  replace y7 := y7.later hq
  replace yg := yg.later hq
  clear hb hq g5_0 g5_1 g5_2 g5_3 g5_4 g5_5 g5_6 g5_7 z5_0 z5_1 z5_2 z5_3
  have hl9 : ([3, 2, 200, 1, 7, 92, 38, 72, 51] : List UInt8).length = 9 := rfl
  rw [hl9]
  clear hl9
  go_wp2_with fail
  refine (readf_all xa6 [3, 2, 200, 1, 7, 92, 38, 72, 51] ca6 _ ya (by decide) cap6).mono ?_
  rw [E4.out, K4.out]
  rintro e w7 ⟨rfl, hb⟩
  clear ya
  have hq := thru (Below.refl _ w6) hb
  have g7_0 := later hq g6_0
  have g7_1 := later hq g6_1
  have g7_2 := later hq g6_2
  have g7_3 := later hq g6_3
  have g7_4 := later hq g6_4
  have g7_5 := later hq g6_5
  have g7_6 := later hq g6_6
  have g7_7 := later hq g6_7
  have z7_0 : w.heap.size < w7.heap.size := Nat.lt_of_lt_of_le z6_0 hq.size
  have z7_1 : w.heap.size + 1 < w7.heap.size := Nat.lt_of_lt_of_le z6_1 hq.size
  have z7_2 : w2.heap.size < w7.heap.size := Nat.lt_of_lt_of_le z6_2 hq.size
  have z7_3 : w4.heap.size < w7.heap.size := Nat.lt_of_lt_of_le z6_3 hq.size
  have z7_4 : w5.heap.size < w7.heap.size := Nat.lt_of_lt_of_le z6_4 hq.size
  have z7_5 : w5.heap.size + 1 < w7.heap.size := Nat.lt_of_lt_of_le z6_5 hq.size
  replace hB := thru hB hq
  replace y7 := y7.later hq
  replace yg := yg.later hq
  clear hb hq g6_0 g6_1 g6_2 g6_3 g6_4 g6_5 g6_6 g6_7 z6_0 z6_1 z6_2 z6_3 z6_4 z6_5
  go_wp2_with fail
  refine (append_any _ [3, 1, 200, 2, 7] 5 _ (bts_new' (w7.heap.size + 1) _ [3, 1, 200, 2, 7] _ _ (by simp)) (by decide)).mono ?_
  rintro e w8 ⟨xa8, ca8, rfl, ho, hb⟩
  rw [E5.out] at ho ⊢
  have ya := ho.bts
  have cap8 := ho.le_cap
  clear ho
  have hq := thru (al (al (Below.refl _ w7) _) _) hb
  have g8_0 := later hq g7_0
  have g8_1 := later hq g7_1
  have g8_2 := later hq g7_2
  have g8_3 := later hq g7_3
  have g8_4 := later hq g7_4
  have g8_5 := later hq g7_5
  have g8_6 := later hq g7_6
  have g8_7 := later hq g7_7
  have z8_0 : w.heap.size < w8.heap.size := Nat.lt_of_lt_of_le z7_0 hq.size
  have z8_1 : w.heap.size + 1 < w8.heap.size := Nat.lt_of_lt_of_le z7_1 hq.size
  have z8_2 : w2.heap.size < w8.heap.size := Nat.lt_of_lt_of_le z7_2 hq.size
  have z8_3 : w4.heap.size < w8.heap.size := Nat.lt_of_lt_of_le z7_3 hq.size
  have z8_4 : w5.heap.size < w8.heap.size := Nat.lt_of_lt_of_le z7_4 hq.size
  have z8_5 : w5.heap.size + 1 < w8.heap.size := Nat.lt_of_lt_of_le z7_5 hq.size
  have z8_6 : w7.heap.size < w8.heap.size := (by have := hb.size; first | omega | (simp at this; omega))
  have z8_7 : w7.heap.size + 1 < w8.heap.size := (by have := hb.size; first | omega | (simp at this; omega))
  replace hB := thru hB hq
  replace y7 := y7.later hq
  replace yg := yg.later hq
  clear hb hq g7_0 g7_1 g7_2 g7_3 g7_4 g7_5 g7_6 g7_7 z7_0 z7_1 z7_2 z7_3 z7_4 z7_5
  have hl9 : ([3, 1, 200, 2, 7, 113, 218, 208, 10] : List UInt8).length = 9 := rfl
  rw [hl9]
  clear hl9
  go_wp2_with fail
  refine (readf_all xa8 [3, 1, 200, 2, 7, 113, 218, 208, 10] ca8 _ ya (by decide) cap8).mono ?_
  rw [E6.out, K6.out]
  rintro e w9 ⟨rfl, hb⟩
  clear ya
  have hq := thru (Below.refl _ w8) hb
  have g9_0 := later hq g8_0
  have g9_1 := later hq g8_1
  have g9_2 := later hq g8_2
  have g9_3 := later hq g8_3
  have g9_4 := later hq g8_4
  have g9_5 := later hq g8_5
  have g9_6 := later hq g8_6
  have g9_7 := later hq g8_7
  have z9_0 : w.heap.size < w9.heap.size := Nat.lt_of_lt_of_le z8_0 hq.size
  have z9_1 : w.heap.size + 1 < w9.heap.size := Nat.lt_of_lt_of_le z8_1 hq.size
  have z9_2 : w2.heap.size < w9.heap.size := Nat.lt_of_lt_of_le z8_2 hq.size
  have z9_3 : w4.heap.size < w9.heap.size := Nat.lt_of_lt_of_le z8_3 hq.size
  have z9_4 : w5.heap.size < w9.heap.size := Nat.lt_of_lt_of_le z8_4 hq.size
  have z9_5 : w5.heap.size + 1 < w9.heap.size := Nat.lt_of_lt_of_le z8_5 hq.size
  have z9_6 : w7.heap.size < w9.heap.size := Nat.lt_of_lt_of_le z8_6 hq.size
  have z9_7 : w7.heap.size + 1 < w9.heap.size := Nat.lt_of_lt_of_le z8_7 hq.size
  replace hB := thru hB hq
  replace y7 := y7.later hq
  replace yg := yg.later hq
  clear hb hq g8_0 g8_1 g8_2 g8_3 g8_4 g8_5 g8_6 g8_7 z8_0 z8_1 z8_2 z8_3 z8_4 z8_5 z8_6 z8_7
  go_wp2_with fail
  refine (same17_any 3 1 200 (some ⟨w.heap.size, 0, none⟩) [7, 9] 2 3 1 200 xg [7, 9] cg _ (y7.later (al (Below.refl _ _) _)) (yg.later (al (Below.refl _ _) _))).mono ?_
  rintro e w10 ⟨rfl, hb⟩
  rw [show sameF 3 1 200 [7, 9] 3 1 200 [7, 9] = true from by decide]
  have hq := thru (al (Below.refl _ w9) _) hb
  have g10_0 := later hq g9_0
  have g10_1 := later hq g9_1
  have g10_2 := later hq g9_2
  have g10_3 := later hq g9_3
  have g10_4 := later hq g9_4
  have g10_5 := later hq g9_5
  have g10_6 := later hq g9_6
  have g10_7 := later hq g9_7
  have z10_0 : w.heap.size < w10.heap.size := Nat.lt_of_lt_of_le z9_0 hq.size
  have z10_1 : w.heap.size + 1 < w10.heap.size := Nat.lt_of_lt_of_le z9_1 hq.size
  have z10_2 : w2.heap.size < w10.heap.size := Nat.lt_of_lt_of_le z9_2 hq.size
  have z10_3 : w4.heap.size < w10.heap.size := Nat.lt_of_lt_of_le z9_3 hq.size
  have z10_4 : w5.heap.size < w10.heap.size := Nat.lt_of_lt_of_le z9_4 hq.size
  have z10_5 : w5.heap.size + 1 < w10.heap.size := Nat.lt_of_lt_of_le z9_5 hq.size
  have z10_6 : w7.heap.size < w10.heap.size := Nat.lt_of_lt_of_le z9_6 hq.size
  have z10_7 : w7.heap.size + 1 < w10.heap.size := Nat.lt_of_lt_of_le z9_7 hq.size
  have z10_8 : w9.heap.size < w10.heap.size := (by have := hb.size; first | omega | (simp at this; omega))
  replace hB := thru hB hq
  replace y7 := y7.later hq
  replace yg := yg.later hq
  clear hb hq g9_0 g9_1 g9_2 g9_3 g9_4 g9_5 g9_6 g9_7 z9_0 z9_1 z9_2 z9_3 z9_4 z9_5 z9_6 z9_7
  go_wp2_with fail
  rw [show (7 : Int) = n32 7#32 by decide]
  refine (burst_any _ [0, 0] 2 6 7#32 _ (bts_new w10 [0, 0] _ _) (fun h => by cases h) (by decide) (by decide) (hd.later (al hB _))).mono ?_
  rintro e w11 ⟨xr11, cr11, rfl, ho, hb⟩
  rw [E7.out] at ho ⊢
  have yr := ho.bts
  clear ho
  have hq := thru (al (Below.refl _ w10) _) hb
  have z11_0 : w.heap.size < w11.heap.size := Nat.lt_of_lt_of_le z10_0 hq.size
  have z11_1 : w.heap.size + 1 < w11.heap.size := Nat.lt_of_lt_of_le z10_1 hq.size
  have z11_2 : w2.heap.size < w11.heap.size := Nat.lt_of_lt_of_le z10_2 hq.size
  have z11_3 : w4.heap.size < w11.heap.size := Nat.lt_of_lt_of_le z10_3 hq.size
  have z11_4 : w5.heap.size < w11.heap.size := Nat.lt_of_lt_of_le z10_4 hq.size
  have z11_5 : w5.heap.size + 1 < w11.heap.size := Nat.lt_of_lt_of_le z10_5 hq.size
  have z11_6 : w7.heap.size < w11.heap.size := Nat.lt_of_lt_of_le z10_6 hq.size
  have z11_7 : w7.heap.size + 1 < w11.heap.size := Nat.lt_of_lt_of_le z10_7 hq.size
  have z11_8 : w9.heap.size < w11.heap.size := Nat.lt_of_lt_of_le z10_8 hq.size
  have z11_9 : w10.heap.size < w11.heap.size := (by have := hb.size; first | omega | (simp at this; omega))
  replace hB := thru hB hq
  replace y7 := y7.later hq
  replace yg := yg.later hq
  clear hb hq z10_0 z10_1 z10_2 z10_3 z10_4 z10_5 z10_6 z10_7 z10_8
  go_wp2_with fail
  refine (sameb_any xr11 [192, 1] cr11 _ [192, 1] 2 _ (yr.later (al (Below.refl _ _) _)) (bts_new w11 [192, 1] _ _) (by decide) (by decide)).mono ?_
  rintro e w12 ⟨rfl, hb⟩
  rw [show (([192, 1] : List UInt8) == [192, 1]) = true from rfl]
  clear yr
  have hq := thru (al (Below.refl _ w11) _) hb
  have z12_0 : w.heap.size < w12.heap.size := Nat.lt_of_lt_of_le z11_0 hq.size
  have z12_1 : w.heap.size + 1 < w12.heap.size := Nat.lt_of_lt_of_le z11_1 hq.size
  have z12_2 : w2.heap.size < w12.heap.size := Nat.lt_of_lt_of_le z11_2 hq.size
  have z12_3 : w4.heap.size < w12.heap.size := Nat.lt_of_lt_of_le z11_3 hq.size
  have z12_4 : w5.heap.size < w12.heap.size := Nat.lt_of_lt_of_le z11_4 hq.size
  have z12_5 : w5.heap.size + 1 < w12.heap.size := Nat.lt_of_lt_of_le z11_5 hq.size
  have z12_6 : w7.heap.size < w12.heap.size := Nat.lt_of_lt_of_le z11_6 hq.size
  have z12_7 : w7.heap.size + 1 < w12.heap.size := Nat.lt_of_lt_of_le z11_7 hq.size
  have z12_8 : w9.heap.size < w12.heap.size := Nat.lt_of_lt_of_le z11_8 hq.size
  have z12_9 : w10.heap.size < w12.heap.size := Nat.lt_of_lt_of_le z11_9 hq.size
  have z12_10 : w11.heap.size < w12.heap.size := (by have := hb.size; first | omega | (simp at this; omega))
  replace hB := thru hB hq
  replace y7 := y7.later hq
  replace yg := yg.later hq
  clear hb hq z11_0 z11_1 z11_2 z11_3 z11_4 z11_5 z11_6 z11_7 z11_8 z11_9
  go_wp2_with fail
  rw [show (3 : Int) = n32 3#32 by decide]
  refine (burst_any _ [0, 0] 2 15 3#32 _ (bts_new w12 [0, 0] _ _) (fun h => by cases h) (by decide) (by decide) (hd.later (al hB _))).mono ?_
  rintro e w13 ⟨xr13, cr13, rfl, ho, hb⟩
  rw [E8.out] at ho ⊢
  have yr := ho.bts
  clear ho
  have hq := thru (al (Below.refl _ w12) _) hb
  have z13_0 : w.heap.size < w13.heap.size := Nat.lt_of_lt_of_le z12_0 hq.size
  have z13_1 : w.heap.size + 1 < w13.heap.size := Nat.lt_of_lt_of_le z12_1 hq.size
  have z13_2 : w2.heap.size < w13.heap.size := Nat.lt_of_lt_of_le z12_2 hq.size
  have z13_3 : w4.heap.size < w13.heap.size := Nat.lt_of_lt_of_le z12_3 hq.size
  have z13_4 : w5.heap.size < w13.heap.size := Nat.lt_of_lt_of_le z12_4 hq.size
  have z13_5 : w5.heap.size + 1 < w13.heap.size := Nat.lt_of_lt_of_le z12_5 hq.size
  have z13_6 : w7.heap.size < w13.heap.size := Nat.lt_of_lt_of_le z12_6 hq.size
  have z13_7 : w7.heap.size + 1 < w13.heap.size := Nat.lt_of_lt_of_le z12_7 hq.size
  have z13_8 : w9.heap.size < w13.heap.size := Nat.lt_of_lt_of_le z12_8 hq.size
  have z13_9 : w10.heap.size < w13.heap.size := Nat.lt_of_lt_of_le z12_9 hq.size
  have z13_10 : w11.heap.size < w13.heap.size := Nat.lt_of_lt_of_le z12_10 hq.size
  have z13_11 : w12.heap.size < w13.heap.size := (by have := hb.size; first | omega | (simp at this; omega))
  replace hB := thru hB hq
  replace y7 := y7.later hq
  replace yg := yg.later hq
  clear hb hq z12_0 z12_1 z12_2 z12_3 z12_4 z12_5 z12_6 z12_7 z12_8 z12_9 z12_10
  go_wp2_with fail
  refine (sameb_any xr13 [0, 128] cr13 _ [0, 128] 2 _ (yr.later (al (Below.refl _ _) _)) (bts_new w13 [0, 128] _ _) (by decide) (by decide)).mono ?_
  rintro e w14 ⟨rfl, hb⟩
  rw [show (([0, 128] : List UInt8) == [0, 128]) = true from rfl]
  clear yr
  have hq := thru (al (Below.refl _ w13) _) hb
  have z14_0 : w.heap.size < w14.heap.size := Nat.lt_of_lt_of_le z13_0 hq.size
  have z14_1 : w.heap.size + 1 < w14.heap.size := Nat.lt_of_lt_of_le z13_1 hq.size
  have z14_2 : w2.heap.size < w14.heap.size := Nat.lt_of_lt_of_le z13_2 hq.size
  have z14_3 : w4.heap.size < w14.heap.size := Nat.lt_of_lt_of_le z13_3 hq.size
  have z14_4 : w5.heap.size < w14.heap.size := Nat.lt_of_lt_of_le z13_4 hq.size
  have z14_5 : w5.heap.size + 1 < w14.heap.size := Nat.lt_of_lt_of_le z13_5 hq.size
  have z14_6 : w7.heap.size < w14.heap.size := Nat.lt_of_lt_of_le z13_6 hq.size
  have z14_7 : w7.heap.size + 1 < w14.heap.size := Nat.lt_of_lt_of_le z13_7 hq.size
  have z14_8 : w9.heap.size < w14.heap.size := Nat.lt_of_lt_of_le z13_8 hq.size
  have z14_9 : w10.heap.size < w14.heap.size := Nat.lt_of_lt_of_le z13_9 hq.size
  have z14_10 : w11.heap.size < w14.heap.size := Nat.lt_of_lt_of_le z13_10 hq.size
  have z14_11 : w12.heap.size < w14.heap.size := Nat.lt_of_lt_of_le z13_11 hq.size
  have z14_12 : w13.heap.size < w14.heap.size := (by have := hb.size; first | omega | (simp at this; omega))
  replace hB := thru hB hq
  replace y7 := y7.later hq
  replace yg := yg.later hq
  clear hb hq z13_0 z13_1 z13_2 z13_3 z13_4 z13_5 z13_6 z13_7 z13_8 z13_9 z13_10 z13_11
  go_wp2_with fail
  go_ret
  exact ⟨rfl, hB⟩

end Go.Proofs.YtjnjjnkanbnliaaDoor
