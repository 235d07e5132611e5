/- WALKS of the digest layer: Text. -/
import Derived.Test.YtmlmgpliajffnaaDigC
namespace Go.Proofs.Ytmlmgpliajffnaa
open Go.RowKit

/-- The last four bits. -/
def nib (x : D64) : Nat := x.toNat % 16
theorem nib_lt (x : D64) : nib x < 16 := Nat.mod_lt _ (by decide)
@[go_sem] theorem u64_nib (x : D64) : bits .and .u64 (num x) 15 = ((nib x : Nat) : Int) := by
  have h : bits .and .u64 (num x) (num 15#64) = num (x &&& 15#64) := u64_and x 15#64
  rw [show num 15#64 = 15 by decide] at h
  rw [h]
  unfold num nib
  rw [BitVec.toNat_and]
  have : x.toNat &&& 15 = x.toNat % 16 := Nat.and_two_pow_sub_one_eq_mod x.toNat 4
  simpa using congrArg (Nat.cast (R := Int)) this

/-- The digit of a number below 16. -/
def hexU (k : Nat) : UInt8 := if k < 10 then UInt8.ofNat (48 + k) else UInt8.ofNat (87 + k)

@[go_sem] theorem shr_60 (x : D64) : num x / (1152921504606846976 : Int) = num (x >>> 60) := shr_of x 60
@[go_sem] theorem shr_52 (x : D64) : num x / (4503599627370496 : Int) = num (x >>> 52) := shr_of x 52
@[go_sem] theorem shr_12 (x : D64) : num x / (4096 : Int) = num (x >>> 12) := shr_of x 12
@[go_sem] theorem shr_4 (x : D64) : num x / (16 : Int) = num (x >>> 4) := shr_of x 4
@[go_sem] theorem shr_36 (x : D64) : num x / (68719476736 : Int) = num (x >>> 36) := shr_of x 36

def textL (d : D64) : List UInt8 := [hexU (nib (d >>> 60)), hexU (nib (d >>> 56)), hexU (nib (d >>> 52)), hexU (nib (d >>> 48)), hexU (nib (d >>> 44)), hexU (nib (d >>> 40)), hexU (nib (d >>> 36)), hexU (nib (d >>> 32)), hexU (nib (d >>> 28)), hexU (nib (d >>> 24)), hexU (nib (d >>> 20)), hexU (nib (d >>> 16)), hexU (nib (d >>> 12)), hexU (nib (d >>> 8)), hexU (nib (d >>> 4)), hexU (nib d)]
theorem textL_length (d : D64) : (textL d).length = 16 := rfl


set_option maxHeartbeats 4000000 in
theorem text_any (d : D64) (w : World) : Calls Try.prog 15 #[.int .u64 (num d)] w fun e w' => e = .returned (.string ⟨(textL d).toArray⟩) ∧ Below w.heap.size w w' := by
  have b0 := nib_lt (d >>> 60)
  have b1 := nib_lt (d >>> 56)
  have b2 := nib_lt (d >>> 52)
  have b3 := nib_lt (d >>> 48)
  have b4 := nib_lt (d >>> 44)
  have b5 := nib_lt (d >>> 40)
  have b6 := nib_lt (d >>> 36)
  have b7 := nib_lt (d >>> 32)
  have b8 := nib_lt (d >>> 28)
  have b9 := nib_lt (d >>> 24)
  have b10 := nib_lt (d >>> 20)
  have b11 := nib_lt (d >>> 16)
  have b12 := nib_lt (d >>> 12)
  have b13 := nib_lt (d >>> 8)
  have b14 := nib_lt (d >>> 4)
  have b15 := nib_lt d
  go_enter Try.func15, Try.ntmps15
  go_wp2_with fail
  refine (digits_any _).mono ?_
  rintro e w1 ⟨rfl, hb⟩
  unfold digV
  have hcell : ∀ (o : Obj) (k : Nat), k < 16 → ((w1.alloc (.cells #[.int .u8 48, .int .u8 49, .int .u8 50, .int .u8 51, .int .u8 52, .int .u8 53, .int .u8 54, .int .u8 55, .int .u8 56, .int .u8 57, .int .u8 97, .int .u8 98, .int .u8 99, .int .u8 100, .int .u8 101, .int .u8 102] 50)).alloc o).cell? ⟨w1.heap.size, k, none⟩ = some (.int .u8 ((hexU k).toNat : Int)) := fun o k hk => by
    match k, hk with | 0, _ => (go_simp; rfl) | 1, _ => (go_simp; rfl) | 2, _ => (go_simp; rfl) | 3, _ => (go_simp; rfl) | 4, _ => (go_simp; rfl) | 5, _ => (go_simp; rfl) | 6, _ => (go_simp; rfl) | 7, _ => (go_simp; rfl) | 8, _ => (go_simp; rfl) | 9, _ => (go_simp; rfl) | 10, _ => (go_simp; rfl) | 11, _ => (go_simp; rfl) | 12, _ => (go_simp; rfl) | 13, _ => (go_simp; rfl) | 14, _ => (go_simp; rfl) | 15, _ => (go_simp; rfl) | k + 16, h => exact absurd h (by omega)
  have hconv : ∀ (u0 u1 u2 u3 u4 u5 u6 u7 u8 u9 u10 u11 u12 u13 u14 u15 : UInt8), (convert 22 9 (.slice (some ⟨w1.heap.size + 1, 0, none⟩) 16 16)).run Try.prog ((w1.alloc (.cells #[.int .u8 48, .int .u8 49, .int .u8 50, .int .u8 51, .int .u8 52, .int .u8 53, .int .u8 54, .int .u8 55, .int .u8 56, .int .u8 57, .int .u8 97, .int .u8 98, .int .u8 99, .int .u8 100, .int .u8 101, .int .u8 102] 50)).alloc (.cells #[.int .u8 (u0.toNat : Int), .int .u8 (u1.toNat : Int), .int .u8 (u2.toNat : Int), .int .u8 (u3.toNat : Int), .int .u8 (u4.toNat : Int), .int .u8 (u5.toNat : Int), .int .u8 (u6.toNat : Int), .int .u8 (u7.toNat : Int), .int .u8 (u8.toNat : Int), .int .u8 (u9.toNat : Int), .int .u8 (u10.toNat : Int), .int .u8 (u11.toNat : Int), .int .u8 (u12.toNat : Int), .int .u8 (u13.toNat : Int), .int .u8 (u14.toNat : Int), .int .u8 (u15.toNat : Int)] 50)) = .ok (.string ⟨#[u0, u1, u2, u3, u4, u5, u6, u7, u8, u9, u10, u11, u12, u13, u14, u15]⟩) ((w1.alloc (.cells #[.int .u8 48, .int .u8 49, .int .u8 50, .int .u8 51, .int .u8 52, .int .u8 53, .int .u8 54, .int .u8 55, .int .u8 56, .int .u8 57, .int .u8 97, .int .u8 98, .int .u8 99, .int .u8 100, .int .u8 101, .int .u8 102] 50)).alloc (.cells #[.int .u8 (u0.toNat : Int), .int .u8 (u1.toNat : Int), .int .u8 (u2.toNat : Int), .int .u8 (u3.toNat : Int), .int .u8 (u4.toNat : Int), .int .u8 (u5.toNat : Int), .int .u8 (u6.toNat : Int), .int .u8 (u7.toNat : Int), .int .u8 (u8.toNat : Int), .int .u8 (u9.toNat : Int), .int .u8 (u10.toNat : Int), .int .u8 (u11.toNat : Int), .int .u8 (u12.toNat : Int), .int .u8 (u13.toNat : Int), .int .u8 (u14.toNat : Int), .int .u8 (u15.toNat : Int)] 50)) := fun u0 u1 u2 u3 u4 u5 u6 u7 u8 u9 u10 u11 u12 u13 u14 u15 =>
    run_conv (l := [u0, u1, u2, u3, u4, u5, u6, u7, u8, u9, u10, u11, u12, u13, u14, u15]) Try.underlying22 Try.underlying5 Try.underlying9 (.inr ⟨_, _, rfl, fun i hi => by match i, hi with | 0, _ => (go_simp; rfl) | 1, _ => (go_simp; rfl) | 2, _ => (go_simp; rfl) | 3, _ => (go_simp; rfl) | 4, _ => (go_simp; rfl) | 5, _ => (go_simp; rfl) | 6, _ => (go_simp; rfl) | 7, _ => (go_simp; rfl) | 8, _ => (go_simp; rfl) | 9, _ => (go_simp; rfl) | 10, _ => (go_simp; rfl) | 11, _ => (go_simp; rfl) | 12, _ => (go_simp; rfl) | 13, _ => (go_simp; rfl) | 14, _ => (go_simp; rfl) | 15, _ => (go_simp; rfl) | k + 16, h => exact absurd h (by simp)⟩) 16
  go_wp2_with fail
  refine wp_loop_rounds 17 ?_
  repeat any_goals (rw [rounds_succ]; go_wp2)
  go_ret
  exact ⟨rfl, thru hb (al (al (Below.refl _ w1) _) _)⟩


end Go.Proofs.Ytmlmgpliajffnaa
