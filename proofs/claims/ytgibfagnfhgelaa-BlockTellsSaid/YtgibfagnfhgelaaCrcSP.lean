/- What other layers need of the crc layer's bytes: trailers, sums at a length, small facts on words and bytes. -/
import Derived.Test.YtgibfagnfhgelaaCrcP
import Derived.Test.YtgibfagnfhgelaaPureBurst
import Derived.Test.YtgibfagnfhgelaaTail
import Derived.Test.YtgibfagnfhgelaaFill
namespace Go.Proofs.Ytgibfagnfhgelaa
open Go.RowKit

theorem trailer_num4 (p q r s : UInt8) : Crc.trailer (num4 p q r s) = [p, q, r, s] := by
  unfold Crc.trailer num4 Crc.ofByte
  simp only [List.cons.injEq, and_true]
  refine ⟨?_, ?_, ?_, ?_⟩ <;> (apply UInt8.toBitVec_inj.1; apply BitVec.eq_of_getLsbD_eq; intro i hi; have h8 : ∀ (v : UInt8) j, 8 ≤ j → v.toBitVec.getLsbD j = false := fun v j hj => BitVec.getLsbD_of_ge _ _ hj; rcases (by omega : i = 0 ∨ i = 1 ∨ i = 2 ∨ i = 3 ∨ i = 4 ∨ i = 5 ∨ i = 6 ∨ i = 7) with rfl | rfl | rfl | rfl | rfl | rfl | rfl | rfl <;> simp )
theorem num4_of {p q r s : UInt8} {t : W32} (h : Crc.trailer t = [p, q, r, s]) : num4 p q r s = t := Crc.sum_four_inj (by rw [trailer_num4, h])
theorem wrap8u (n : Int) : IntKind.u8.wrap n = n % 256 := by simp [IntKind.wrap, IntKind.bits, IntKind.signed]
theorem shl8 (k : Nat) : IntKind.u8.wrap (2 ^ k) = ((Crc.mask8 k).toNat : Int) := by
  have h : (Crc.mask8 k).toNat = 2 ^ k % 256 := by
    show (1#8 <<< k).toNat = _
    rw [BitVec.toNat_shiftLeft, Nat.shiftLeft_eq]; simp
  rw [wrap8u, h, Int.natCast_emod, Int.natCast_pow]; rfl
theorem wrap64_of (n : Int) (h : -9223372036854775808 ≤ n ∧ n ≤ 9223372036854775807) : IntKind.i64.wrap n = n := by simp [IntKind.wrap, IntKind.bits, IntKind.signed]; omega
theorem OwnsB.le_cap {B : Nat} {w : World} {x : Option Addr} {cap : Nat} {l : List UInt8} (h : OwnsB B w x cap l) : l.length ≤ cap ∧ cap ≤ 9223372036854775807 := by
  rcases h.2 with ⟨hv, h0⟩ | ⟨g, c, cur, hv, _, _, h1, h2, _⟩
  · simp only [Value.slice.injEq] at hv; omega
  · simp only [Value.slice.injEq] at hv; unfold maxLen at h2; omega
theorem OwnsB.none_cap {B : Nat} {w : World} {x : Option Addr} {cap : Nat} {l : List UInt8} (h : OwnsB B w x cap l) : x = none → cap = 0 := by
  rintro rfl
  rcases h.2 with ⟨hv, _⟩ | ⟨g, c, cur, hv, _⟩
  · simp only [Value.slice.injEq] at hv; exact hv.2.2
  · simp at hv
@[go_sem] theorem shr32_16 (x : W32) : n32 x / (65536 : Int) = n32 (x >>> 16) := shr32 x 16
@[go_sem] theorem shr32_24 (x : W32) : n32 x / (16777216 : Int) = n32 (x >>> 24) := shr32 x 24
theorem bitsh (r : W32) (j : Nat) : bits .and .u32 (n32 (r >>> j)) 1 = if r.getLsbD j then 1 else 0 := by
  rw [and1]; simp
theorem bts_new' (g : Nat) (w : World) (l : List UInt8) (t : TypeId) (p : Nat × Nat) (hg : w.heap.size = g) : Bts (w.alloc (.cells (l.map encB).toArray t p)) (some ⟨g, 0, none⟩) l := by
  subst hg; exact bts_new w l t p
theorem str_eq (l m : List UInt8) : ((⟨l.toArray⟩ : ByteArray) == ⟨m.toArray⟩) = (l == m) := by
  show (l.toArray == m.toArray) = (l == m)
  rw [Bool.eq_iff_iff]
  simp

/-- What Check makes of some bytes. -/
def splitC (l : List UInt8) : Option (List UInt8) := if 4 ≤ l.length ∧ Crc.trailer (Crc.sum (l.take (l.length - 4))) = l.drop (l.length - 4) then some (l.take (l.length - 4)) else none
theorem splitC_some {l m : List UInt8} (h : splitC l = some m) : l = m ++ Crc.trailer (Crc.sum m) := by
  unfold splitC at h
  split at h
  · rename_i hc
    cases h
    rw [hc.2, List.take_append_drop]
  · cases h
theorem splitC_of (m : List UInt8) : splitC (m ++ Crc.trailer (Crc.sum m)) = some m := by
  have hl : (m ++ Crc.trailer (Crc.sum m)).length - 4 = m.length := by rw [List.length_append, Crc.trailer_length]; omega
  unfold splitC
  rw [hl, List.take_left, List.drop_left, if_pos ⟨by rw [List.length_append, Crc.trailer_length]; omega, rfl⟩]
end Go.Proofs.Ytgibfagnfhgelaa
