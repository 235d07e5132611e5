/- Words of 32 bits in a walk. -/
import Derived.WalkKit
import Derived.Test.YtgibfagnfhgelaaPureCrc
namespace Go.Proofs.Ytgibfagnfhgelaa
open Go.RowKit

abbrev W32 := BitVec 32

theorem wrap32u (n : Int) : IntKind.u32.wrap n = n % 4294967296 := by
  simp [IntKind.wrap, IntKind.bits, IntKind.signed]
theorem wrap32_of (n : Int) : IntKind.u32.wrap n = ((BitVec.ofInt 32 n).toNat : Int) := by
  rw [wrap32u, BitVec.toNat_ofInt]; omega
theorem ofInt32_toNat (x : W32) : BitVec.ofInt 32 (x.toNat : Int) = x := by
  apply BitVec.eq_of_toNat_eq; simp

/-- A word's number: a name that the walk does not open. -/
def n32 (x : W32) : Int := (x.toNat : Int)
theorem n32_inj {x y : W32} (h : n32 x = n32 y) : x = y := BitVec.eq_of_toNat_eq (by unfold n32 at h; omega)
theorem n32_nonneg (x : W32) : 0 ≤ n32 x := by unfold n32; omega
theorem n32_lt (x : W32) : n32 x < 4294967296 := by have := x.isLt; unfold n32; omega
theorem n32_of (n : Int) (h0 : 0 ≤ n) (h1 : n < 4294967296) : n = n32 (BitVec.ofInt 32 n) := by
  unfold n32; rw [BitVec.toNat_ofInt]; omega
theorem n32_nat (n : Nat) (h : n < 4294967296) : (n : Int) = n32 (BitVec.ofNat 32 n) := by
  unfold n32; rw [BitVec.toNat_ofNat, Nat.mod_eq_of_lt (by omega)]
@[go_sem] theorem n32_eq (x y : W32) : (n32 x == n32 y) = (x == y) := by
  rw [Bool.eq_iff_iff]; simp only [beq_iff_eq]; exact ⟨n32_inj, fun h => by rw [h]⟩
@[go_sem] theorem n32_ne (x y : W32) : (n32 x != n32 y) = (x != y) := by
  unfold bne; rw [n32_eq]
@[go_sem] theorem u32_wrap (x : W32) : IntKind.u32.wrap (n32 x) = n32 x := by
  have h0 := n32_nonneg x; have h1 := n32_lt x; rw [wrap32u]; omega
@[go_sem] theorem u32_xor (x y : W32) : bits .xor .u32 (n32 x) (n32 y) = n32 (x ^^^ y) := by
  show IntKind.u32.wrap ((BitVec.ofInt 32 (n32 x) ^^^ BitVec.ofInt 32 (n32 y) : W32).toNat : Int) = _
  unfold n32; rw [ofInt32_toNat, ofInt32_toNat, wrap32_of, ofInt32_toNat]
@[go_sem] theorem u32_or (x y : W32) : bits .or .u32 (n32 x) (n32 y) = n32 (x ||| y) := by
  show IntKind.u32.wrap ((BitVec.ofInt 32 (n32 x) ||| BitVec.ofInt 32 (n32 y) : W32).toNat : Int) = _
  unfold n32; rw [ofInt32_toNat, ofInt32_toNat, wrap32_of, ofInt32_toNat]
theorem u32_and (x y : W32) : bits .and .u32 (n32 x) (n32 y) = n32 (x &&& y) := by
  show IntKind.u32.wrap ((BitVec.ofInt 32 (n32 x) &&& BitVec.ofInt 32 (n32 y) : W32).toNat : Int) = _
  unfold n32; rw [ofInt32_toNat, ofInt32_toNat, wrap32_of, ofInt32_toNat]
theorem shr32 (x : W32) (k : Nat) : n32 x / (2 ^ k : Nat) = n32 (x >>> k) := by
  unfold n32; rw [BitVec.toNat_ushiftRight, Nat.shiftRight_eq_div_pow]; omega
theorem shl32 (x : W32) (k : Nat) : IntKind.u32.wrap (n32 x * (2 ^ k : Nat)) = n32 (x <<< k) := by
  unfold n32; rw [wrap32u, BitVec.toNat_shiftLeft, Nat.shiftLeft_eq]; omega
@[go_sem] theorem shr32_1 (x : W32) : n32 x / (2 : Int) = n32 (x >>> 1) := shr32 x 1
@[go_sem] theorem shr32_8 (x : W32) : n32 x / (256 : Int) = n32 (x >>> 8) := shr32 x 8
theorem and1 (x : W32) : bits .and .u32 (n32 x) 1 = if x.getLsbD 0 then 1 else 0 := by
  have h := u32_and x 1#32
  rw [show n32 1#32 = 1 by decide] at h
  rw [h]
  unfold n32
  rw [BitVec.toNat_and]
  have e : x.toNat &&& 1 = x.toNat % 2 := Nat.and_one_is_mod x.toNat
  have g : x.getLsbD 0 = decide (x.toNat % 2 = 1) := by unfold BitVec.getLsbD; rw [Nat.testBit_zero]
  rw [g]
  simp [e]
  split <;> omega

@[go_sem] theorem u32_not (x : W32) : bits .xor .u32 IntKind.u32.max (n32 x) = n32 (~~~x) := by
  rw [show IntKind.u32.max = n32 (BitVec.allOnes 32) by decide, u32_xor, BitVec.xor_comm, BitVec.xor_allOnes]

/-- The last eight bits. -/
def low8 (x : W32) : UInt8 := ⟨x.setWidth 8⟩
@[go_sem] theorem u8_low32 (x : W32) : IntKind.u8.wrap (n32 x) = ((low8 x).toNat : Int) := by
  have : (low8 x).toNat = x.toNat % 256 := by unfold low8; simp [UInt8.toNat]
  rw [this]; unfold n32; simp [IntKind.wrap, IntKind.bits, IntKind.signed]
theorem u8_n32 (v : UInt8) : (v.toNat : Int) = n32 (Crc.ofByte v) := by
  unfold n32 Crc.ofByte; simp

end Go.Proofs.Ytgibfagnfhgelaa
