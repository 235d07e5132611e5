/- WALKS of the crc layer: Append. -/
import Derived.Test.YtgibfagnfhgelaaCrcA
import Derived.Test.YtgibfagnfhgelaaClone
import Derived.BigQuiet
namespace Go.Proofs.Ytgibfagnfhgelaa
open Go.RowKit

@[go_sem] theorem shl32_8 (x : W32) : IntKind.u32.wrap (n32 x * (256 : Int)) = n32 (x <<< 8) := shl32 x 8
@[go_sem] theorem shl32_16 (x : W32) : IntKind.u32.wrap (n32 x * (65536 : Int)) = n32 (x <<< 16) := shl32 x 16
@[go_sem] theorem shl32_24 (x : W32) : IntKind.u32.wrap (n32 x * (16777216 : Int)) = n32 (x <<< 24) := shl32 x 24
@[go_sem] theorem or32_0 (x : W32) : bits .or .u32 0 (n32 x) = n32 x := by
  rw [show (0 : Int) = n32 0#32 by decide, u32_or]; simp

/-- The number of four bytes. -/
def num4 (a b c d : UInt8) : W32 := Crc.ofByte a ||| Crc.ofByte b <<< 8 ||| Crc.ofByte c <<< 16 ||| Crc.ofByte d <<< 24

def trailN (s : W32) (j : Nat) : List UInt8 := (List.range j).map fun i => low8 (s >>> (8 * i))
theorem trailN_succ (s : W32) (j : Nat) : trailN s (j + 1) = trailN s j ++ [low8 (s >>> (8 * j))] := by
  unfold trailN; rw [List.range_succ, List.map_append]; rfl
theorem trail4 (s : W32) : trailN s 4 = Crc.trailer s := by
  simp [trailN, Crc.trailer, List.range, List.range.loop, low8]
theorem shr_by (s : W32) (j : Nat) : n32 s / 2 ^ (8 * j) = n32 (s >>> (8 * j)) := by
  rw [← shr32]; simp

def AppRel (s : W32) (l : List UInt8) (B : Nat) (w : World) (u4 u10 : Value) (wr : World) : Prop :=
  ∃ (j : Nat) (x : Option Addr) (cap : Nat), j ≤ 4 ∧ u10 = .int .i64 (j : Int) ∧ u4 = .slice x (l ++ trailN s j).length cap ∧ OwnsB B wr x cap (l ++ trailN s j) ∧ Below w.heap.size w wr ∧ B ≤ wr.heap.size
def AppOf (l : List UInt8) (w : World) (e : Ending) (w' : World) : Prop := ∃ x cap, e = .returned (.slice x (l ++ Crc.trailer (Crc.sum l)).length cap) ∧ OwnsB w.heap.size w' x cap (l ++ Crc.trailer (Crc.sum l)) ∧ Below w.heap.size w w'

set_option maxHeartbeats 1000000 in
theorem append_any (x : Option Addr) (l : List UInt8) (c : Nat) (w : World) (hx : Bts w x l) (hl : l.length ≤ 100000) : Calls Try.prog 28 #[.slice x l.length c] w (AppOf l w) := by
  go_enter Try.func28, Try.ntmps28
  go_wp2_with fail
  refine (sum_any x l c _ hx (by omega)).mono ?_
  rintro e w1 ⟨rfl, hb1⟩
  have hx1 := hx.later hb1
  obtain ⟨s, hs⟩ : ∃ s, Crc.sum l = s := ⟨_, rfl⟩
  have HS := Lib.hid hs
  rw [hs]
  clear hs hx
  go_wp2_with fail
  refine (clone_any x l c _ hx1 hl).mono ?_
  rintro e w2 ⟨x2, c2, rfl, ho, hb2⟩
  have hB := thru hb1 hb2
  have hB1 : w.heap.size ≤ w1.heap.size := hb1.size
  have hB2 : w1.heap.size ≤ w2.heap.size := hb2.size
  clear hb1 hb2 hx1
  have HO := Lib.hid ho
  clear ho
  go_wp2_with fail
  go_loopw [4, 10] (fun u4 u10 wr => AppRel s l w1.heap.size w u4 u10 wr) (fun _ u10 _ => 4 - (intOf u10).toNat)
  case atStart => exact ⟨0, x2, c2, by omega, rfl, by simp [trailN], by simpa [trailN] using HO.out, hB, hB2⟩
  case round =>
    clear HO hB hB2
    obtain ⟨j, y, cap, hj, rfl, rfl, hown, hB, hB2⟩ := hrel
    have HO := Lib.hid hown
    clear hown
    by_cases hlt : j < 4
    · have hsh := shr_by s j
      obtain ⟨lj, hlj⟩ : ∃ m, l ++ trailN s j = m := ⟨_, rfl⟩
      obtain ⟨v, hv⟩ : ∃ v, low8 (s >>> (8 * j)) = v := ⟨_, rfl⟩
      obtain ⟨lm, hlm⟩ : ∃ m, lj ++ [v] = m := ⟨_, rfl⟩
      have hll : lj.length ≤ 100010 := by rw [← hlj]; simp [trailN]; omega
      have HLM : Hid (l ++ trailN s (j + 1) = lm) := by
        show l ++ trailN s (j + 1) = lm
        rw [trailN_succ, ← List.append_assoc, hlj, hv, hlm]
      rw [hlj] at HO ⊢
      clear hlj
      go_wp2_with (at_builtin; refine wpList_app rfl _ _ rfl (B := w1.heap.size) (l := lj) (y := some ⟨wr.heap.size, 0, none⟩) (m := [v]) (HO.out.turn ((Turns.refl (fun _ => False) wr).alloc _) (fun _ _ h => h)) rfl rfl (bts_one wr v _ _) (fun h => by cases h) (by simp; omega) hlm (by simp; omega) ?_; intro x' cap' w3 h1 h2 _; refine Hid.out ?_)
      unfold Hid
      have HN := Lib.hid h1
      have hB4 := (al hB _).trans (h2.mono hB1)
      have hB5 : w1.heap.size ≤ w3.heap.size := by have := h2.size; simp at this; omega
      clear h1 h2 HO hB hlm hv
      go_wp2_with fail
      exact ⟨⟨j + 1, x', cap', by omega, by go_num, by rw [HLM.out], by rw [HLM.out]; exact HN.out, hB4, hB5⟩, by simp [intOf]; omega⟩
    · obtain rfl : j = 4 := by omega
      rw [trail4] at HO ⊢
      go_wp2_with fail
      go_ret
      have h := HS.out
      subst h
      exact ⟨_, _, rfl, HO.out.weaken hB1, hB⟩

end Go.Proofs.Ytgibfagnfhgelaa
