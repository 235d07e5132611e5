/- What other layers need of the crc layer's bytes: trailers, Check at a whole list, sums at a length, small facts on words and bytes. -/
import Derived.Test.YtjnjjnkanbnliaaDoorCrcC
import Derived.Test.YtjnjjnkanbnliaaDoorPureBurst
import Derived.Test.YtjnjjnkanbnliaaDoorTail
import Derived.Test.YtjnjjnkanbnliaaDoorFill
namespace Go.Proofs.YtjnjjnkanbnliaaDoor
open Go.RowKit

theorem trailer_num4 (p q r s : UInt8) : Crc.trailer (num4 p q r s) = [p, q, r, s] := by
  unfold Crc.trailer num4 Crc.ofByte
  simp only [List.cons.injEq, and_true]
  refine ⟨?_, ?_, ?_, ?_⟩ <;> (apply UInt8.toBitVec_inj.1; apply BitVec.eq_of_getLsbD_eq; intro i hi; have h8 : ∀ (v : UInt8) j, 8 ≤ j → v.toBitVec.getLsbD j = false := fun v j hj => BitVec.getLsbD_of_ge _ _ hj; rcases (by omega : i = 0 ∨ i = 1 ∨ i = 2 ∨ i = 3 ∨ i = 4 ∨ i = 5 ∨ i = 6 ∨ i = 7) with rfl | rfl | rfl | rfl | rfl | rfl | rfl | rfl <;> simp )
theorem num4_of {p q r s : UInt8} {t : W32} (h : Crc.trailer t = [p, q, r, s]) : num4 p q r s = t := Crc.sum_four_inj (by rw [trailer_num4, h])
theorem wrap8u (n : Int) : IntKind.u8.wrap n = n % 256 := by simp [IntKind.wrap, IntKind.bits, IntKind.signed]
theorem shl8 (k : Nat) : IntKind.u8.wrap (2 ^ k) = ((Crc.mask8 k).toNat : Int) := by
  have h : (Crc.mask8 k).toNat = 2 ^ k % 256 := by
    show (1#8 <<< k).toNat = _
    rw [BitVec.toNat_shiftLeft, Nat.shiftLeft_eq]; simp
  rw [wrap8u, h, Int.natCast_emod, Int.natCast_pow]; rfl
theorem wrap64_of (n : Int) (h : -9223372036854775808 ≤ n ∧ n ≤ 9223372036854775807) : IntKind.i64.wrap n = n := by simp [IntKind.wrap, IntKind.bits, IntKind.signed]; omega
theorem OwnsB.le_cap {B : Nat} {w : World} {x : Option Addr} {cap : Nat} {l : List UInt8} (h : OwnsB B w x cap l) : l.length ≤ cap ∧ cap ≤ 9223372036854775807 := by
  rcases h.2 with ⟨hv, h0⟩ | ⟨g, c, cur, hv, _, _, h1, h2, _⟩
  · simp only [Value.slice.injEq] at hv; omega
  · simp only [Value.slice.injEq] at hv; unfold maxLen at h2; omega
theorem OwnsB.none_cap {B : Nat} {w : World} {x : Option Addr} {cap : Nat} {l : List UInt8} (h : OwnsB B w x cap l) : x = none → cap = 0 := by
  rintro rfl
  rcases h.2 with ⟨hv, _⟩ | ⟨g, c, cur, hv, _⟩
  · simp only [Value.slice.injEq] at hv; exact hv.2.2
  · simp at hv
theorem check_yes' (g o : Nat) (l m : List UInt8) (p q r s : UInt8) (hl : l = m ++ [p, q, r, s]) (c : Nat) (w : World) (yd : Bts w (some ⟨g, o, none⟩) l) (hm : m.length ≤ 100000) (hc : l.length ≤ c ∧ c ≤ 9223372036854775807) (hs : num4 p q r s = Crc.sum m) :
    Calls Tryd.prog 39 #[.slice (some ⟨g, o, none⟩) l.length c] w (YesCheck m w) := by
  subst hl
  have hn : (m ++ [p, q, r, s]).length = m.length + 4 := by simp
  rw [hn] at hc ⊢
  exact check_yes g o m p q r s c w yd hm hc.1 hc.2 hs
theorem check_no' (g o : Nat) (l m : List UInt8) (p q r s : UInt8) (hl : l = m ++ [p, q, r, s]) (c : Nat) (w : World) (yd : Bts w (some ⟨g, o, none⟩) l) (hm : m.length ≤ 100000) (hc : l.length ≤ c ∧ c ≤ 9223372036854775807) (hs : (num4 p q r s != Crc.sum m) = true) :
    Calls Tryd.prog 39 #[.slice (some ⟨g, o, none⟩) l.length c] w (NoCheck w) := by
  subst hl
  have hn : (m ++ [p, q, r, s]).length = m.length + 4 := by simp
  rw [hn] at hc ⊢
  exact check_no g o m p q r s c w yd hm hc.1 hc.2 hs
@[go_sem] theorem shr32_16 (x : W32) : n32 x / (65536 : Int) = n32 (x >>> 16) := shr32 x 16
@[go_sem] theorem shr32_24 (x : W32) : n32 x / (16777216 : Int) = n32 (x >>> 24) := shr32 x 24
theorem bitsh (r : W32) (j : Nat) : bits .and .u32 (n32 (r >>> j)) 1 = if r.getLsbD j then 1 else 0 := by
  rw [and1]; simp
theorem bts_new' (g : Nat) (w : World) (l : List UInt8) (t : TypeId) (p : Nat × Nat) (hg : w.heap.size = g) : Bts (w.alloc (.cells (l.map encB).toArray t p)) (some ⟨g, 0, none⟩) l := by
  subst hg; exact bts_new w l t p
theorem str_eq (l m : List UInt8) : ((⟨l.toArray⟩ : ByteArray) == ⟨m.toArray⟩) = (l == m) := by
  show (l.toArray == m.toArray) = (l == m)
  rw [Bool.eq_iff_iff]
  simp

/-- What Check makes of some bytes. -/
def splitC (l : List UInt8) : Option (List UInt8) := if 4 ≤ l.length ∧ Crc.trailer (Crc.sum (l.take (l.length - 4))) = l.drop (l.length - 4) then some (l.take (l.length - 4)) else none
theorem splitC_some {l m : List UInt8} (h : splitC l = some m) : l = m ++ Crc.trailer (Crc.sum m) := by
  unfold splitC at h
  split at h
  · rename_i hc
    cases h
    rw [hc.2, List.take_append_drop]
  · cases h
theorem splitC_of (m : List UInt8) : splitC (m ++ Crc.trailer (Crc.sum m)) = some m := by
  have hl : (m ++ Crc.trailer (Crc.sum m)).length - 4 = m.length := by rw [List.length_append, Crc.trailer_length]; omega
  unfold splitC
  rw [hl, List.take_left, List.drop_left, if_pos ⟨by rw [List.length_append, Crc.trailer_length]; omega, rfl⟩]
def CheckOf (l : List UInt8) (w : World) (e : Ending) (w' : World) : Prop :=
  (∃ m, splitC l = some m ∧ YesCheck m w e w') ∨ (splitC l = none ∧ NoCheck w e w')
/-- Check, at any bytes. -/
theorem check_all (x : Option Addr) (l : List UInt8) (c : Nat) (w : World) (yd : Bts w x l) (hm : l.length ≤ 100000) (hc : l.length ≤ c ∧ c ≤ 9223372036854775807) :
    Calls Tryd.prog 39 #[.slice x l.length c] w (CheckOf l w) := by
  by_cases h4 : l.length < 4
  · refine (check_short x l.length c w h4).mono fun e w' h => .inr ⟨?_, h⟩
    unfold splitC; rw [if_neg (by omega)]
  · obtain ⟨m, p, q, r, s, hl, hml⟩ := Crc.split4 l (l.length - 4) (by omega)
    obtain ⟨g, o, rfl, -⟩ := yd.resolve_left (by intro e; subst e; simp at h4)
    have ht : l.take (l.length - 4) = m := by rw [← hml]; conv => lhs; rw [hl]
                                              exact List.take_left ..
    have hd : l.drop (l.length - 4) = [p, q, r, s] := by
      have := List.take_append_drop (l.length - 4) l
      rw [ht] at this
      conv at this => rhs; rw [hl]
      exact List.append_cancel_left this
    by_cases hs : num4 p q r s = Crc.sum m
    · refine (check_yes' g o l m p q r s hl c w yd (by omega) hc hs).mono fun e w' h => .inl ⟨m, ?_, h⟩
      unfold splitC; rw [ht, hd, if_pos ⟨by omega, by rw [← hs, trailer_num4]⟩]
    · refine (check_no' g o l m p q r s hl c w yd (by omega) hc (by simpa using hs)).mono fun e w' h => .inr ⟨?_, h⟩
      unfold splitC; rw [ht, hd, if_neg (fun hh => hs (num4_of hh.2))]

end Go.Proofs.YtjnjjnkanbnliaaDoor
