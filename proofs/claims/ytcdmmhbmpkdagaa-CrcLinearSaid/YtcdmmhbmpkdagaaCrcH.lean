/- WALKS of the crc layer: Combine out of range; numbers and trailers. -/
import Derived.Test.YtcdmmhbmpkdagaaCrcG
namespace Go.Proofs.Ytcdmmhbmpkdagaa
open Go.RowKit

theorem combine_out (a b : W32) (n : Int) (w : World) (hn : n < 0 ∨ 1048576 < n) : Calls Try.prog 15 #[.int .u32 (n32 a), .int .u32 (n32 b), .int .i64 n] w fun e w' => e = .returned (.int .u32 0) ∧ Below w.heap.size w w' := by
  have hB := Below.refl w.heap.size w
  by_cases h0 : n < 0
  · have d0 : decide (n < 0) = true := decide_eq_true h0
    go_enter Try.func15, Try.ntmps15
    go_wp2_with fail
    go_ret
    exact ⟨rfl, al (al hB _) _⟩
  · have d0 : decide (n < 0) = false := decide_eq_false h0
    have d1 : decide (1048576 < n) = true := decide_eq_true (by omega)
    go_enter Try.func15, Try.ntmps15
    go_wp2_with fail
    go_ret
    exact ⟨rfl, al (al hB _) _⟩

theorem trailer_num4 (p q r s : UInt8) : Crc.trailer (num4 p q r s) = [p, q, r, s] := by
  unfold Crc.trailer num4 Crc.ofByte
  simp only [List.cons.injEq, and_true]
  refine ⟨?_, ?_, ?_, ?_⟩ <;> (apply UInt8.toBitVec_inj.1; apply BitVec.eq_of_getLsbD_eq; intro i hi; have h8 : ∀ (v : UInt8) j, 8 ≤ j → v.toBitVec.getLsbD j = false := fun v j hj => BitVec.getLsbD_of_ge _ _ hj; rcases (by omega : i = 0 ∨ i = 1 ∨ i = 2 ∨ i = 3 ∨ i = 4 ∨ i = 5 ∨ i = 6 ∨ i = 7) with rfl | rfl | rfl | rfl | rfl | rfl | rfl | rfl <;> simp )

end Go.Proofs.Ytcdmmhbmpkdagaa
