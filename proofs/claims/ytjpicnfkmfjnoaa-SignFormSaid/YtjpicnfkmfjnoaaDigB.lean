/- WALKS of the digest layer: New, Of, Bytes. -/
import Derived.Test.YtjpicnfkmfjnoaaDigA
namespace Go.Proofs.Ytjpicnfkmfjnoaa
open Go.RowKit

theorem start_num : (7953747704174896417 : Int) = num Dig.start := by decide

theorem new_any (w : World) : Calls Try.prog 54 #[] w fun e w' => e = .returned (.agg #[.int .u64 (num Dig.start), .int .i64 0]) ∧ Below w.heap.size w w' := by
  rw [← start_num]
  go_enter Try.func54, Try.ntmps54
  go_wp2_with fail
  exact bodyPost_ret (v := .agg #[.int .u64 7953747704174896417, .int .i64 0]) (by simp [results, Try.results54, go_sem]) rfl ⟨rfl, al (Below.refl _ w) _⟩

theorem of_any (y : Option Addr) (l : List UInt8) (c : Nat) (w : World) (hl : (l.length : Int) ≤ 100000) (hy : Bts w y l) :
    Calls Try.prog 33 #[.slice y l.length c] w fun e w' => e = .returned (.int .u64 (num (Dig.ofL l))) ∧ Below w.heap.size w w' := by
  have hz : wrap64 (0 + (l.length : Int)) = l.length := by rw [Int.zero_add]; exact wrap64_id (by omega)
  have HZ := Lib.hid hz
  clear hz
  go_enter Try.func33, Try.ntmps33
  go_wp2_with fail
  refine (new_any _).mono ?_
  rintro e w1 ⟨rfl, hb1⟩
  go_wp2_with fail
  refine (add_any _ _ _ _ _ _ (by omega) (by omega) (hy.later hb1)).mono ?_
  rintro e w2 ⟨rfl, hb2⟩
  rw [HZ.out]
  go_wp2_with fail
  refine (fin_any _ _ _).mono ?_
  rintro e w3 ⟨rfl, hb3⟩
  go_wp2_with fail
  go_ret
  exact ⟨rfl, thru (thru hb1 hb2) hb3⟩

/-- The last eight bits. -/
def lowB (x : D64) : UInt8 := ⟨x.setWidth 8⟩
@[go_sem] theorem u8_low (x : D64) : IntKind.u8.wrap (num x) = ((lowB x).toNat : Int) := by
  have : (lowB x).toNat = x.toNat % 256 := by unfold lowB; simp [UInt8.toNat]
  rw [this]; unfold num; simp [IntKind.wrap, IntKind.bits, IntKind.signed]
@[go_sem] theorem shr_8 (x : D64) : num x / (256 : Int) = num (x >>> 8) := shr_of x 8
@[go_sem] theorem shr_16 (x : D64) : num x / (65536 : Int) = num (x >>> 16) := shr_of x 16
@[go_sem] theorem shr_24 (x : D64) : num x / (16777216 : Int) = num (x >>> 24) := shr_of x 24
@[go_sem] theorem shr_32 (x : D64) : num x / (4294967296 : Int) = num (x >>> 32) := shr_of x 32
@[go_sem] theorem shr_40 (x : D64) : num x / (1099511627776 : Int) = num (x >>> 40) := shr_of x 40
@[go_sem] theorem shr_48 (x : D64) : num x / (281474976710656 : Int) = num (x >>> 48) := shr_of x 48
@[go_sem] theorem shr_56 (x : D64) : num x / (72057594037927936 : Int) = num (x >>> 56) := shr_of x 56

def BytesOf (l : List UInt8) (w : World) (e : Ending) (w' : World) : Prop := ∃ b, e = .returned (.slice (some ⟨b, 0, none⟩) l.length l.length) ∧ Bts w' (some ⟨b, 0, none⟩) l ∧ Below w.heap.size w w'

set_option maxHeartbeats 1000000 in
theorem bytes_any (d : D64) (w : World) : Calls Try.prog 34 #[.int .u64 (num d)] w (BytesOf (Dig.bytes d) w) := by
  go_enter Try.func34, Try.ntmps34
  go_wp2_with fail
  refine wp_loop_rounds 9 ?_
  repeat any_goals (rw [rounds_succ]; go_wp2)
  go_ret
  refine ⟨w.heap.size, rfl, .inr ⟨_, _, rfl, fun i hi => ?_⟩, al (Below.refl _ w) _⟩
  rw [Dig.bytes_length] at hi
  match i, hi with
  | 0, _ => go_simp; rfl
  | 1, _ => go_simp; rfl
  | 2, _ => go_simp; rfl
  | 3, _ => go_simp; rfl
  | 4, _ => go_simp; rfl
  | 5, _ => go_simp; rfl
  | 6, _ => go_simp; rfl
  | 7, _ => go_simp; rfl

end Go.Proofs.Ytjpicnfkmfjnoaa
