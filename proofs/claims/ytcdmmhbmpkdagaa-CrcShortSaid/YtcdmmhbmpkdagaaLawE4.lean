/- WALKS of the laws of the crc layer: CrcShort. -/
import Derived.Test.YtcdmmhbmpkdagaaCrcI
namespace Go.Proofs.Ytcdmmhbmpkdagaa
open Go.RowKit

def FourOf (x : W32) (w : World) (e : Ending) (w' : World) : Prop := ∃ g, e = .returned (.slice (some ⟨g, 0, none⟩) 4 4) ∧ Bts w' (some ⟨g, 0, none⟩) (Crc.trailer x) ∧ Below w.heap.size w w'
theorem four_any (x : W32) (w : World) : Calls Try.prog 17 #[.int .u32 (n32 x)] w (FourOf x w) := by
  go_enter Try.func17, Try.ntmps17
  go_wp2_with fail
  go_ret
  exact ⟨_, rfl, bts_new w (Crc.trailer x) _ _, al (Below.refl _ w) _⟩

set_option maxHeartbeats 4000000 in
theorem short_law (a b c : UInt8) (x y : W32) (n : Int) (w : World) (hn : -9223372036854775808 ≤ n ∧ n ≤ 9223372036854775807) :
    Calls Try.prog 7 #[.int .u8 (a.toNat : Int), .int .u8 (b.toNat : Int), .int .u8 (c.toNat : Int), .int .u32 (n32 x), .int .u32 (n32 y), .int .i64 n] w (YesOf w) := by
  obtain ⟨X, hX⟩ : ∃ z, Crc.sum (Crc.trailer x) = z := ⟨_, rfl⟩
  obtain ⟨Y, hY⟩ : ∃ z, Crc.sum (Crc.trailer y) = z := ⟨_, rfl⟩
  obtain ⟨q, hq⟩ : ∃ q, (x == y) = q := ⟨_, rfl⟩
  have e1 : (X == Y) = q := by
    rw [← hq, Bool.eq_iff_iff]; simp only [beq_iff_eq]
    exact ⟨fun h => Crc.sum_four_inj (by rw [hX, hY]; exact h), fun h => by rw [← hX, ← hY, h]⟩
  have FX := Lib.hid hX
  have FY := Lib.hid hY
  clear hX hY
  have hB := Below.refl w.heap.size w
  go_enter Try.func7, Try.ntmps7
  go_wp2_with fail
  refine wp_loop_rounds 5 ?_
  rw [rounds_succ]
  go_wp2_with fail
  refine (check_short none 0 0 _ (by decide)).mono ?_
  rintro e w1 ⟨rfl, hb⟩
  have hq := thru (al (al (al (al (Below.refl _ w) _) _) _) _) hb
  have g1_0 := later (a := ⟨w.heap.size + 1 + 1 + 1, 0, none⟩) (v := .slice none 0 0) hb (by go_simp)
  have g1_1 := later (a := ⟨w.heap.size + 1 + 1 + 1, 1, none⟩) (v := .slice (some ⟨w.heap.size, 0, none⟩) 1 1) hb (by go_simp)
  have g1_2 := later (a := ⟨w.heap.size + 1 + 1 + 1, 2, none⟩) (v := .slice (some ⟨w.heap.size + 1, 0, none⟩) 2 2) hb (by go_simp)
  have g1_3 := later (a := ⟨w.heap.size + 1 + 1 + 1, 3, none⟩) (v := .slice (some ⟨w.heap.size + 1 + 1, 0, none⟩) 3 3) hb (by go_simp)
  have z1_0 : w.heap.size < w1.heap.size := (by have := hb.size; first | omega | (simp at this; omega))
  have z1_1 : w.heap.size + 1 < w1.heap.size := (by have := hb.size; first | omega | (simp at this; omega))
  have z1_2 : w.heap.size + 2 < w1.heap.size := (by have := hb.size; first | omega | (simp at this; omega))
  have z1_3 : w.heap.size + 1 + 1 + 1 < w1.heap.size := (by have := hb.size; first | omega | (simp at this; omega))
  replace hB := thru hB hq
  clear hb hq 
  go_wp2_with fail
  rw [rounds_succ]
  go_wp2_with fail
  refine (check_short (some ⟨w.heap.size, 0, none⟩) 1 1 _ (by decide)).mono ?_
  rintro e w2 ⟨rfl, hb⟩
  have hq := thru (Below.refl _ w1) hb
  have g2_0 := later hq g1_0
  have g2_1 := later hq g1_1
  have g2_2 := later hq g1_2
  have g2_3 := later hq g1_3
  have z2_0 : w.heap.size < w2.heap.size := Nat.lt_of_lt_of_le z1_0 hq.size
  have z2_1 : w.heap.size + 1 < w2.heap.size := Nat.lt_of_lt_of_le z1_1 hq.size
  have z2_2 : w.heap.size + 2 < w2.heap.size := Nat.lt_of_lt_of_le z1_2 hq.size
  have z2_3 : w.heap.size + 1 + 1 + 1 < w2.heap.size := Nat.lt_of_lt_of_le z1_3 hq.size
  replace hB := thru hB hq
  clear hb hq g1_0 g1_1 g1_2 g1_3 z1_0 z1_1 z1_2 z1_3
  go_wp2_with fail
  rw [rounds_succ]
  go_wp2_with fail
  refine (check_short (some ⟨w.heap.size + 1, 0, none⟩) 2 2 _ (by decide)).mono ?_
  rintro e w3 ⟨rfl, hb⟩
  have hq := thru (Below.refl _ w2) hb
  have g3_0 := later hq g2_0
  have g3_1 := later hq g2_1
  have g3_2 := later hq g2_2
  have g3_3 := later hq g2_3
  have z3_0 : w.heap.size < w3.heap.size := Nat.lt_of_lt_of_le z2_0 hq.size
  have z3_1 : w.heap.size + 1 < w3.heap.size := Nat.lt_of_lt_of_le z2_1 hq.size
  have z3_2 : w.heap.size + 2 < w3.heap.size := Nat.lt_of_lt_of_le z2_2 hq.size
  have z3_3 : w.heap.size + 1 + 1 + 1 < w3.heap.size := Nat.lt_of_lt_of_le z2_3 hq.size
  replace hB := thru hB hq
  clear hb hq g2_0 g2_1 g2_2 g2_3 z2_0 z2_1 z2_2 z2_3
  go_wp2_with fail
  rw [rounds_succ]
  go_wp2_with fail
  refine (check_short (some ⟨w.heap.size + 1 + 1, 0, none⟩) 3 3 _ (by decide)).mono ?_
  rintro e w4 ⟨rfl, hb⟩
  have hq := thru (Below.refl _ w3) hb
  have g4_0 := later hq g3_0
  have g4_1 := later hq g3_1
  have g4_2 := later hq g3_2
  have g4_3 := later hq g3_3
  have z4_0 : w.heap.size < w4.heap.size := Nat.lt_of_lt_of_le z3_0 hq.size
  have z4_1 : w.heap.size + 1 < w4.heap.size := Nat.lt_of_lt_of_le z3_1 hq.size
  have z4_2 : w.heap.size + 2 < w4.heap.size := Nat.lt_of_lt_of_le z3_2 hq.size
  have z4_3 : w.heap.size + 1 + 1 + 1 < w4.heap.size := Nat.lt_of_lt_of_le z3_3 hq.size
  replace hB := thru hB hq
  clear hb hq g3_0 g3_1 g3_2 g3_3 z3_0 z3_1 z3_2 z3_3
  go_wp2_with fail
  rw [rounds_succ]
  go_wp2_with fail
  refine (four_any x _).mono ?_
  rintro e w5 ⟨gw5, rfl, yy, hb⟩
  have hq := thru (Below.refl _ w4) hb
  replace hB := thru hB hq
  clear hb hq 
  go_wp2_with fail
  refine (sum_any _ (Crc.trailer x) 4 _ yy (by simp [Crc.trailer_length])).mono ?_
  rintro e w5b ⟨rfl, hb⟩
  rw [FX.out]
  clear yy
  have hq := thru (Below.refl _ w5) hb
  replace hB := thru hB hq
  clear hb hq 
  go_wp2_with fail
  refine (four_any y _).mono ?_
  rintro e w6 ⟨gw6, rfl, yy, hb⟩
  have hq := thru (Below.refl _ w5b) hb
  replace hB := thru hB hq
  clear hb hq 
  go_wp2_with fail
  refine (sum_any _ (Crc.trailer y) 4 _ yy (by simp [Crc.trailer_length])).mono ?_
  rintro e w6b ⟨rfl, hb⟩
  rw [FY.out]
  clear yy
  have hq := thru (Below.refl _ w6) hb
  replace hB := thru hB hq
  clear hb hq 
  rcases (by omega : n ≤ -1 ∨ (-1 < n ∧ n < 1048577) ∨ 1048577 ≤ n) with h1 | ⟨h1, h2⟩ | h1
  · go_wp2_with fail
    refine (combine_out x y _ _ (by omega)).mono ?_
    rintro e w7 ⟨rfl, hb⟩
    have hq := thru (Below.refl _ w6b) hb
    replace hB := thru hB hq
    clear hb hq 
    go_wp2_with fail
    refine (combine_out x y _ _ (by omega)).mono ?_
    rintro e w8 ⟨rfl, hb⟩
    have hq := thru (Below.refl _ w7) hb
    replace hB := thru hB hq
    clear hb hq 
    go_wp2_with fail
    refine (awake_any _).mono ?_
    rintro e w9 ⟨rfl, hb⟩
    have hq := thru (Below.refl _ w8) hb
    replace hB := thru hB hq
    clear hb hq 
    go_wp2_with fail
    go_ret
    exact ⟨rfl, hB⟩
  · go_wp2_with fail
    refine (combine_out x y _ _ (by omega)).mono ?_
    rintro e w7 ⟨rfl, hb⟩
    have hq := thru (Below.refl _ w6b) hb
    replace hB := thru hB hq
    clear hb hq 
    go_wp2_with fail
    refine (combine_out x y _ _ (by omega)).mono ?_
    rintro e w8 ⟨rfl, hb⟩
    have hq := thru (Below.refl _ w7) hb
    replace hB := thru hB hq
    clear hb hq 
    go_wp2_with fail
    refine (awake_any _).mono ?_
    rintro e w9 ⟨rfl, hb⟩
    have hq := thru (Below.refl _ w8) hb
    replace hB := thru hB hq
    clear hb hq 
    go_wp2_with fail
    go_ret
    exact ⟨rfl, hB⟩
  · go_wp2_with fail
    refine (combine_out x y _ _ (by omega)).mono ?_
    rintro e w7 ⟨rfl, hb⟩
    have hq := thru (Below.refl _ w6b) hb
    replace hB := thru hB hq
    clear hb hq 
    go_wp2_with fail
    refine (combine_out x y _ _ (by omega)).mono ?_
    rintro e w8 ⟨rfl, hb⟩
    have hq := thru (Below.refl _ w7) hb
    replace hB := thru hB hq
    clear hb hq 
    go_wp2_with fail
    refine (awake_any _).mono ?_
    rintro e w9 ⟨rfl, hb⟩
    have hq := thru (Below.refl _ w8) hb
    replace hB := thru hB hq
    clear hb hq 
    go_wp2_with fail
    go_ret
    exact ⟨rfl, hB⟩

end Go.Proofs.Ytcdmmhbmpkdagaa
