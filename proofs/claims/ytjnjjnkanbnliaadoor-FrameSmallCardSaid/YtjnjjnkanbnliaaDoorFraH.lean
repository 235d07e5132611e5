/- WALKS of the frame layer: the set bits of a mask. -/
import Derived.Test.YtjnjjnkanbnliaaDoorFraG
import Derived.Test.YtjnjjnkanbnliaaDoorPureSet
import Derived.Test.YtjnjjnkanbnliaaDoorRange
import Derived.TacticsInMore
import Derived.OwnWalkIn
import Derived.LoopIn
import Derived.LoopNIn
import Derived.Shelf.RegionOpen
import Derived.Sort.LoopGhostIn
namespace Go.Proofs.YtjnjjnkanbnliaaDoor
open Go.RowKit

attribute [local go_sem] Oper.semAt_some

/-- The table of math/bits. -/
def dbT : List UInt8 := [0, 1, 28, 2, 29, 14, 24, 3, 30, 22, 20, 15, 25, 17, 4, 8, 31, 27, 13, 23, 21, 19, 16, 7, 26, 12, 18, 6, 11, 5, 10, 9]
/-- The table lies at the first package-level variable. -/
def DbAt (w : World) : Prop := Bts w (some ⟨0, 0, none⟩) dbT
theorem DbAt.later {w w' : World} (h : DbAt w) (hb : Below w.heap.size w w') : DbAt w' := Bts.later h hb
def dbI (t : Nat) : Nat := (((1#32 <<< t) * 125613361#32) >>> 27).toNat
theorem db_tab : ∀ t, t < 32 → dbI t < 32 ∧ dbT.getD (dbI t) 0 = UInt8.ofNat t := by decide +kernel
theorem neg32 (x : W32) : IntKind.u32.wrap (-n32 x) = n32 (-x) := by
  rw [wrap32_of]; congr 1
  have : BitVec.ofInt 32 (-n32 x) = -x := by
    unfold n32
    apply BitVec.eq_of_toNat_eq
    rw [BitVec.toNat_ofInt, BitVec.toNat_neg]
    have := x.isLt
    omega
  rw [this]
theorem mul32 (x y : W32) : IntKind.u32.wrap (n32 x * n32 y) = n32 (x * y) := by
  unfold n32
  rw [wrap32u, BitVec.toNat_mul]
  simp
theorem sub32_1 (x : W32) : IntKind.u32.wrap (n32 x - 1) = n32 (x - 1#32) := by
  unfold n32
  rw [wrap32u, BitVec.toNat_sub]
  have := x.isLt
  show _ = ((((2 ^ 32 - 1 % 2 ^ 32) + x.toNat) % 2 ^ 32 : Nat) : Int)
  omega

set_option maxHeartbeats 800000 in
theorem tz_any (m : W32) (j t : Nat) (r : List Nat) (w : World) (hj : j ≤ 32) (h : Crc.bitsF m j = t :: r) (hd : DbAt w) : Calls Tryd.prog 48 #[.int .u32 (n32 (Crc.restF m j))] w fun e w' => e = .returned (.int .i64 (t : Int)) ∧ w' = w := by
  obtain ⟨_, ht, _⟩ := Crc.bitsF_cons m _ j rfl hj t r h
  have hne := Crc.restF_ne m j t r hj h
  have hlow := Crc.low_one m j t r hj h
  obtain ⟨x, hx⟩ : ∃ x, Crc.restF m j = x := ⟨_, rfl⟩
  rw [hx] at hne hlow ⊢
  have h0 : (n32 x == 0) = false := by
    rw [show (0 : Int) = n32 0#32 by decide, n32_eq]; simpa using hne
  have e1 := neg32 x
  have e2 : bits .and .u32 (n32 x) (n32 (-x)) = n32 (1#32 <<< t) := by rw [u32_and, hlow]
  have e3 : IntKind.u32.wrap (n32 (1#32 <<< t) * 125613361) = n32 ((1#32 <<< t) * 125613361#32) := by rw [← mul32]; rfl
  obtain ⟨i, hi⟩ : ∃ i, dbI t = i := ⟨_, rfl⟩
  have e4 : n32 ((1#32 <<< t) * 125613361#32) / 134217728 = (i : Int) := by rw [← hi]; exact shr32 _ 27
  obtain ⟨hi32, hval⟩ := db_tab t ht
  rw [hi] at hi32 hval
  obtain ⟨_, _, he, hc⟩ := hd.resolve_left (by decide)
  cases he
  have ci := hc i (by simpa [dbT] using hi32)
  rw [Nat.zero_add, hval] at ci
  unfold encB at ci
  have e5 : ((UInt8.ofNat t).toNat : Int) = (t : Int) := by rw [UInt8.toNat_ofNat']; omega
  rw [e5] at ci
  clear hne hlow hx h hval hi hc e5
  go_enter Tryd.func48, Tryd.ntmps48
  go_wp2_with fail
  go_ret
  exact ⟨rfl, rfl⟩

theorem set_any (m : W32) (w : World) : Calls Tryd.prog 37 #[.int .u32 (n32 m)] w fun e w' => e = .returned (.func (.func 47) #[] #[.pointer (some ⟨w.heap.size, 0, none⟩)]) ∧ w' = w.alloc (.cells #[.int .u32 (n32 m)] 29) := by
  go_enter Tryd.func37, Tryd.ntmps37
  go_wp2_with fail
  go_ret
  exact ⟨rfl, rfl⟩

end Go.Proofs.YtjnjjnkanbnliaaDoor
