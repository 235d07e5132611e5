/- Words of 64 bits in a walk: what the walk leaves of xor, or, shifts and sums, as operations on bit vectors. -/
import Derived.WalkKit
namespace Go.Proofs.Ytjpicnfkmfjnoaa
open Go.RowKit

abbrev D64 := BitVec 64

theorem wrap64u (n : Int) : IntKind.u64.wrap n = n % 18446744073709551616 := by
  simp [IntKind.wrap, IntKind.bits, IntKind.signed]

theorem wrap64_of (n : Int) : IntKind.u64.wrap n = ((BitVec.ofInt 64 n).toNat : Int) := by
  rw [wrap64u, BitVec.toNat_ofInt]
  omega

theorem ofInt_toNat (x : D64) : BitVec.ofInt 64 (x.toNat : Int) = x := by
  apply BitVec.eq_of_toNat_eq; simp

/-- A word's number: a name that the walk does not open. -/
def num (x : D64) : Int := (x.toNat : Int)
theorem num_inj {x y : D64} (h : num x = num y) : x = y := BitVec.eq_of_toNat_eq (by unfold num at h; omega)
theorem num_nonneg (x : D64) : 0 ≤ num x := by unfold num; omega
theorem num_lt (x : D64) : num x < 18446744073709551616 := by have := x.isLt; unfold num; omega
theorem num_of (n : Int) (h0 : 0 ≤ n) (h1 : n < 18446744073709551616) : n = num (BitVec.ofInt 64 n) := by
  unfold num; rw [BitVec.toNat_ofInt]; omega
@[go_sem] theorem num_eq (x y : D64) : (num x == num y) = (x == y) := by
  rw [Bool.eq_iff_iff]; simp only [beq_iff_eq]; exact ⟨num_inj, fun h => by rw [h]⟩
theorem wrap_num (n : Int) : IntKind.u64.wrap n = num (BitVec.ofInt 64 n) := wrap64_of n
@[go_sem] theorem u64_wrap (x : D64) : IntKind.u64.wrap (num x) = num x := by
  have h0 := num_nonneg x; have h1 := num_lt x; rw [wrap64u]; omega
@[go_sem] theorem u64_xor (x y : D64) : bits .xor .u64 (num x) (num y) = num (x ^^^ y) := by
  show IntKind.u64.wrap ((BitVec.ofInt 64 (num x) ^^^ BitVec.ofInt 64 (num y) : D64).toNat : Int) = _
  unfold num; rw [ofInt_toNat, ofInt_toNat, wrap64_of, ofInt_toNat]
@[go_sem] theorem u64_or (x y : D64) : bits .or .u64 (num x) (num y) = num (x ||| y) := by
  show IntKind.u64.wrap ((BitVec.ofInt 64 (num x) ||| BitVec.ofInt 64 (num y) : D64).toNat : Int) = _
  unfold num; rw [ofInt_toNat, ofInt_toNat, wrap64_of, ofInt_toNat]
@[go_sem] theorem u64_and (x y : D64) : bits .and .u64 (num x) (num y) = num (x &&& y) := by
  show IntKind.u64.wrap ((BitVec.ofInt 64 (num x) &&& BitVec.ofInt 64 (num y) : D64).toNat : Int) = _
  unfold num; rw [ofInt_toNat, ofInt_toNat, wrap64_of, ofInt_toNat]
@[go_sem] theorem u64_add (x y : D64) : IntKind.u64.wrap (num x + num y) = num (x + y) := by
  unfold num; rw [wrap64u, BitVec.toNat_add]; omega
@[go_sem] theorem u64_sub (x y : D64) : IntKind.u64.wrap (num x - num y) = num (x - y) := by
  unfold num; rw [wrap64u, BitVec.toNat_sub]; omega
theorem shl_of (x : D64) (k : Nat) : IntKind.u64.wrap (num x * (2 ^ k : Nat)) = num (x <<< k) := by
  unfold num; rw [wrap64u, BitVec.toNat_shiftLeft, Nat.shiftLeft_eq]; omega
theorem shr_of (x : D64) (k : Nat) : num x / (2 ^ k : Nat) = num (x >>> k) := by
  unfold num; rw [BitVec.toNat_ushiftRight, Nat.shiftRight_eq_div_pow]; omega
@[go_sem] theorem shl_20 (x : D64) : IntKind.u64.wrap (num x * (1048576 : Int)) = num (x <<< 20) := shl_of x 20
@[go_sem] theorem shl_28 (x : D64) : IntKind.u64.wrap (num x * (268435456 : Int)) = num (x <<< 28) := shl_of x 28
@[go_sem] theorem shl_36 (x : D64) : IntKind.u64.wrap (num x * (68719476736 : Int)) = num (x <<< 36) := shl_of x 36
@[go_sem] theorem shl_44 (x : D64) : IntKind.u64.wrap (num x * (17592186044416 : Int)) = num (x <<< 44) := shl_of x 44
@[go_sem] theorem shl_56 (x : D64) : IntKind.u64.wrap (num x * (72057594037927936 : Int)) = num (x <<< 56) := shl_of x 56
@[go_sem] theorem shl_4 (x : D64) : IntKind.u64.wrap (num x * (16 : Int)) = num (x <<< 4) := shl_of x 4
@[go_sem] theorem shr_20 (x : D64) : num x / (1048576 : Int) = num (x >>> 20) := shr_of x 20
@[go_sem] theorem shr_28 (x : D64) : num x / (268435456 : Int) = num (x >>> 28) := shr_of x 28
@[go_sem] theorem shr_44 (x : D64) : num x / (17592186044416 : Int) = num (x >>> 44) := shr_of x 44

end Go.Proofs.Ytjpicnfkmfjnoaa
