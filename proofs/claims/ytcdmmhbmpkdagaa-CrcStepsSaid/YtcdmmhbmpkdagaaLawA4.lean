/- WALKS of the laws of the crc layer: CrcSteps. -/
import Derived.Test.YtcdmmhbmpkdagaaCrcG
namespace Go.Proofs.Ytcdmmhbmpkdagaa
open Go.RowKit

set_option maxHeartbeats 4000000 in
theorem steps_law (xa : Option Addr) (la : List UInt8) (ca : Nat) (x y : W32) (a b : UInt8) (w : World) (ya : Bts w xa la) (h63 : la.length ≤ 9223372036854775807) :
    Calls Try.prog 8 #[.slice xa la.length ca, .int .u32 (n32 x), .int .u32 (n32 y), .int .u8 (a.toNat : Int), .int .u8 (b.toNat : Int)] w (YesOf w) := by
  by_cases c0 : 300 < (la.length : Int)
  · have y0_0 : decide (300 < (la.length : Int)) = true := decide_eq_true c0
    go_enter Try.func8, Try.ntmps8
    go_wp2_with fail
    refine (awake_any _).mono ?_
    rintro e w' ⟨rfl, hb⟩
    go_wp2_with fail
    go_ret
    exact ⟨rfl, hb⟩
  · have y0_0 : decide (300 < (la.length : Int)) = false := decide_eq_false c0
    have l3 : la.length ≤ 300 := by omega
    obtain ⟨X, hX⟩ : ∃ z, Crc.sumFrom x la = z := ⟨_, rfl⟩
    obtain ⟨Y, hY⟩ : ∃ z, Crc.sumFrom y la = z := ⟨_, rfl⟩
    obtain ⟨A, hA⟩ : ∃ z, Crc.sumFrom x [a] = z := ⟨_, rfl⟩
    obtain ⟨B, hBB⟩ : ∃ z, Crc.sumFrom x [b] = z := ⟨_, rfl⟩
    obtain ⟨q, hq⟩ : ∃ q, (x == y) = q := ⟨_, rfl⟩
    obtain ⟨q2, hq2⟩ : ∃ q, (a == b) = q := ⟨_, rfl⟩
    have e1 : (X == Y) = q := by
      rw [← hq, Bool.eq_iff_iff]; simp only [beq_iff_eq]
      exact ⟨fun h => Crc.sumFrom_inj la (by rw [hX, hY]; exact h), fun h => by rw [← hX, ← hY, h]⟩
    have e2 : (A == B) = q2 := by
      rw [← hq2, Bool.eq_iff_iff]; simp only [beq_iff_eq]
      exact ⟨fun h => Crc.sumFrom_byte_inj x (by rw [hA, hBB]; exact h), fun h => by rw [← hA, ← hBB, h]⟩
    have e3 : ((a.toNat : Int) == (b.toNat : Int)) = q2 := by
      rw [← hq2, Bool.eq_iff_iff]; simp only [beq_iff_eq]
      exact ⟨fun h => UInt8.toNat_inj.1 (by omega), fun h => by rw [h]⟩
    have FX := Lib.hid hX
    have FY := Lib.hid hY
    have FA := Lib.hid hA
    have FB := Lib.hid hBB
    have FN := Lib.hid (Crc.sumFrom_nil x)
    clear hX hY hA hBB hq2 c0
    cases q <;> cases q2 <;> (
      have hB := Below.refl w.heap.size w
      go_enter Try.func8, Try.ntmps8
      go_wp2_with fail
      refine (update_any x xa la ca _ ya (by omega)).mono ?_
      rintro e w1 ⟨rfl, hb⟩
      rw [FX.out]
      have hq := thru (Below.refl _ w) hb
      replace hB := thru hB hq
      replace ya := ya.later hq
      clear hb hq 
      go_wp2_with fail
      refine (update_any y xa la ca _ ya (by omega)).mono ?_
      rintro e w2 ⟨rfl, hb⟩
      rw [FY.out]
      have hq := thru (Below.refl _ w1) hb
      replace hB := thru hB hq
      replace ya := ya.later hq
      clear hb hq 
      go_wp2_with fail
      refine (update_any x _ [a] 1 _ (bts_one _ a _ _) (by simp)).mono ?_
      rintro e w3 ⟨rfl, hb⟩
      rw [FA.out]
      have hq := thru (al (Below.refl _ w2) _) hb
      have z3_0 : w2.heap.size < w3.heap.size := (by have := hb.size; first | omega | (simp at this; omega))
      replace hB := thru hB hq
      replace ya := ya.later hq
      clear hb hq 
      go_wp2_with fail
      refine (update_any x _ [b] 1 _ (bts_one _ b _ _) (by simp)).mono ?_
      rintro e w4 ⟨rfl, hb⟩
      rw [FB.out]
      have hq := thru (al (Below.refl _ w3) _) hb
      have z4_0 : w2.heap.size < w4.heap.size := Nat.lt_of_lt_of_le z3_0 hq.size
      have z4_1 : w3.heap.size < w4.heap.size := (by have := hb.size; first | omega | (simp at this; omega))
      replace hB := thru hB hq
      replace ya := ya.later hq
      clear hb hq z3_0
      go_wp2_with fail
      refine (update_any x none [] 0 _ (Bts.nil _ _) (by decide)).mono ?_
      rintro e w5 ⟨rfl, hb⟩
      rw [FN.out]
      have hq := thru (Below.refl _ w4) hb
      have z5_0 : w2.heap.size < w5.heap.size := Nat.lt_of_lt_of_le z4_0 hq.size
      have z5_1 : w3.heap.size < w5.heap.size := Nat.lt_of_lt_of_le z4_1 hq.size
      replace hB := thru hB hq
      replace ya := ya.later hq
      clear hb hq z4_0 z4_1
      go_wp2_with fail
      refine (awake_any _).mono ?_
      rintro e w6 ⟨rfl, hb⟩
      have hq := thru (Below.refl _ w5) hb
      have z6_0 : w2.heap.size < w6.heap.size := Nat.lt_of_lt_of_le z5_0 hq.size
      have z6_1 : w3.heap.size < w6.heap.size := Nat.lt_of_lt_of_le z5_1 hq.size
      replace hB := thru hB hq
      replace ya := ya.later hq
      clear hb hq z5_0 z5_1
      go_wp2_with fail
      go_ret
      exact ⟨rfl, hB⟩)

end Go.Proofs.Ytcdmmhbmpkdagaa
