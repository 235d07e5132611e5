/- WALKS of the crc layer: one bit, the table. -/
import Derived.Test.YtgibfagnfhgelaaWordsC
import Derived.Test.YtgibfagnfhgelaaAppend
import Derived.LoopTactic
import Derived.LoopN
import Derived.Handy
namespace Go.Proofs.Ytgibfagnfhgelaa
open Go.RowKit

theorem bit_any (r : W32) (w : World) : Calls Try.prog 51 #[.int .u32 (n32 r)] w fun e w' => e = .returned (.int .u32 (n32 (Crc.bit r))) ∧ w' = w := by
  have hp : (3988292384 : Int) = n32 Crc.poly := by decide
  have h1 := and1 r
  cases hb : r.getLsbD 0 with
  | true =>
    have hB : Crc.bit r = r >>> 1 ^^^ Crc.poly := by unfold Crc.bit; rw [hb]; rfl
    rw [hb] at h1
    have HB := Lib.hid hB
    clear hB hb
    go_enter Try.func51, Try.ntmps51
    go_wp2_with fail
    go_ret
    rw [HB.out]
    exact ⟨rfl, rfl⟩
  | false =>
    have hB : Crc.bit r = r >>> 1 := by unfold Crc.bit; rw [hb]; rfl
    rw [hb] at h1
    have HB := Lib.hid hB
    clear hB hb
    go_enter Try.func51, Try.ntmps51
    go_wp2_with fail
    go_ret
    rw [HB.out]
    exact ⟨rfl, rfl⟩

def zCells : Array Value := Array.replicate 256 (.int .u32 0)
theorem zero_run (w : World) : (zeroValue 88).run Try.prog w = .ok (.agg zCells) w := by kernel_rfl
def tab (i : Nat) : W32 := Crc.bitN 8 (BitVec.ofNat 32 i)

/-- The table lies at block b. -/
def IsTab (w : World) (b : Nat) : Prop := ∀ i, i < 256 → w.cell? ⟨b, i, none⟩ = some (.int .u32 (n32 (tab i)))
theorem IsTab.later {w w' : World} {b : Nat} (h : IsTab w b) (hb : Below w.heap.size w w') : IsTab w' b := fun i hi => Go.Proofs.Ytgibfagnfhgelaa.later hb (h i hi)

def TabRel (B : Nat) (w : World) (u5 : Value) (wr : World) : Prop :=
  ∃ k : Nat, k ≤ 256 ∧ u5 = .int .i64 (k : Int) ∧ Below B w wr ∧ (∀ i, i < 256 → wr.cell? ⟨B, i, none⟩ = some (.int .u32 (n32 (if i < k then tab i else 0#32)))) ∧ (∀ i, wr.frozen? ⟨B, i, none⟩ = false)
def BitRel (k : Nat) (u4 u10 : Value) : Prop := ∃ j : Nat, j ≤ 8 ∧ u10 = .int .i64 (j : Int) ∧ u4 = .int .u32 (n32 (Crc.bitN j (BitVec.ofNat 32 k)))
def TableOf (w : World) (e : Ending) (w' : World) : Prop := ∃ b, e = .returned (.pointer (some ⟨b, 0, none⟩)) ∧ w.heap.size ≤ b ∧ IsTab w' b ∧ Below w.heap.size w w'

set_option maxHeartbeats 1000000 in
set_option maxRecDepth 100000 in
theorem table_any (w : World) : Calls Try.prog 49 #[] w (TableOf w) := by
  have hz := zero_run
  go_enter Try.func49, Try.ntmps49
  go_wp2_with fail
  clear hz
  go_loopw [5] (fun u5 wr => TabRel w.heap.size w u5 wr) (fun u5 _ => 256 - (intOf u5).toNat)
  case atStart => exact ⟨0, by omega, rfl, al (Below.refl _ w) _, fun i hi => by rw [cell_new]; simp [zCells, hi]; rfl, fun i => by go_simp⟩
  case round =>
    obtain ⟨k, hk, rfl, hB, hc, hf⟩ := hrel
    by_cases hlt : k < 256
    · have hkb : decide ((k : Int) < 256) = true := by simp; omega
      have hw : (k : Int) = n32 (Crc.bitN 0 (BitVec.ofNat 32 k)) := n32_nat k (by omega)
      have HW := Lib.hid hw
      have HC := Lib.hid hc
      have HF := Lib.hid hf
      clear hw hc hf
      go_wp2_with fail
      go_loop [4, 10] (fun u4 u10 => BitRel k u4 u10) (fun _ u10 => 8 - (intOf u10).toNat)
      case atStart => exact ⟨0, by omega, rfl, by rw [← HW.out]⟩
      case round =>
        obtain ⟨j, hj, rfl, rfl⟩ := hrel
        by_cases hl : j < 8
        · go_wp2_with fail
          refine (bit_any _ _).mono ?_
          rintro e w1 ⟨rfl, rfl⟩
          go_wp2_with fail
          go_round
          case rel => exact ⟨j + 1, by omega, by go_num, by rw [Crc.bitN_succ]⟩
          case measure => simp [intOf]; omega
        · obtain rfl : j = 8 := by omega
          have hck := HC.out k hlt
          have hfk := HF.out k
          have HT : Hid (Crc.bitN 8 (BitVec.ofNat 32 k) = tab k) := rfl
          go_wp2_with fail
          refine ⟨⟨k + 1, by omega, by go_num, hB.setCell (Nat.le_refl _) _, fun i hi => ?_, fun i => by rw [World.frozen?_setCell]; exact HF.out i⟩, by simp [intOf]; omega⟩
          by_cases hik : i = k
          · subst hik
            rw [if_pos (by omega)]
            exact World.cell?_setCell_same' _ _ _ (by rw [hck]; rfl)
          · rw [World.cell?_setCell_other _ _ _ _ (by simp <;> omega), HC.out i hi]
            by_cases h2 : i < k
            · rw [if_pos h2, if_pos (by omega)]
            · rw [if_neg h2, if_neg (by omega)]
    · obtain rfl : k = 256 := by omega
      have HC := Lib.hid hc
      clear hc hf
      go_wp2_with fail
      go_ret
      exact ⟨_, rfl, Nat.le_refl _, fun i hi => by have := HC.out i hi; rw [if_pos hi] at this; exact this, hB⟩

theorem ofByte_low (r : W32) (b : UInt8) : BitVec.ofNat 32 (low8 r ^^^ b).toNat = (r ^^^ Crc.ofByte b) &&& 255#32 := by
  apply BitVec.eq_of_toNat_eq
  have h1 : (low8 r).toNat = r.toNat % 256 := by unfold low8; simp [UInt8.toNat]
  have h2 := b.toNat_lt
  rw [BitVec.toNat_ofNat, Nat.mod_eq_of_lt (by have := (low8 r ^^^ b).toNat_lt; omega), BitVec.toNat_and, BitVec.toNat_xor, UInt8.toNat_xor, h1]
  have h3 : (Crc.ofByte b).toNat = b.toNat := by unfold Crc.ofByte; simp
  rw [h3, show (255#32).toNat = 2 ^ 8 - 1 from rfl, Nat.and_two_pow_sub_one_eq_mod, Nat.xor_mod_two_pow, Nat.mod_eq_of_lt (show b.toNat < 2 ^ 8 by omega)]
theorem byte_tab (r : W32) (b : UInt8) : r >>> 8 ^^^ tab (low8 r ^^^ b).toNat = Crc.byte r b := by
  unfold Crc.byte tab
  rw [Crc.bitN8 (r ^^^ Crc.ofByte b), ofByte_low]
  congr 1
  apply BitVec.eq_of_getLsbD_eq
  intro i hi
  rw [BitVec.getLsbD_ushiftRight, BitVec.getLsbD_ushiftRight, BitVec.getLsbD_xor]
  have : (Crc.ofByte b).getLsbD (8 + i) = false := by
    unfold Crc.ofByte
    rw [BitVec.getLsbD_setWidth, BitVec.getLsbD_of_ge _ _ (by omega)]; simp
  rw [this]; simp

def UpRel (s : W32) (l : List UInt8) (u6 u14 : Value) : Prop := ∃ j : Nat, j ≤ l.length ∧ u14 = .int .i64 (j : Int) ∧ u6 = .int .u32 (n32 (Crc.reg (~~~s) (l.take j)))
set_option maxRecDepth 100000 in
theorem update_any (s : W32) (x : Option Addr) (l : List UInt8) (c : Nat) (w : World) (hx : Bts w x l) (hl : l.length ≤ 10000000) :
    Calls Try.prog 46 #[.int .u32 (n32 s), .slice x l.length c] w fun e w' => e = .returned (.int .u32 (n32 (Crc.sumFrom s l))) ∧ Below w.heap.size w w' := by
  have hsg : IntKind.u32.signed = false := rfl
  go_enter Try.func46, Try.ntmps46
  go_wp2_with fail
  refine (table_any _).mono ?_
  rintro e w1 ⟨b, rfl, _, ht, hb⟩
  have HT := Lib.hid ht
  have hx1 := hx.later hb
  clear ht hx
  go_wp2_with fail
  go_loop [6, 14] (fun u6 u14 => UpRel s l u6 u14) (fun _ u14 => l.length - (intOf u14).toNat)
  case atStart => exact ⟨0, by omega, rfl, rfl⟩
  case round =>
    obtain ⟨j, hj, rfl, rfl⟩ := hrel
    by_cases hlt : j < l.length
    · obtain ⟨g, o, rfl, hcl⟩ := hx1.resolve_left (by intro e; subst e; simp at hlt)
      have hcj := hcl j hlt
      obtain ⟨v, hv⟩ : ∃ v, l.getD j 0 = v := ⟨_, rfl⟩
      obtain ⟨r, hr⟩ : ∃ r, Crc.reg (~~~s) (l.take j) = r := ⟨_, rfl⟩
      rw [hv] at hcj
      unfold encB at hcj
      obtain ⟨q, hq⟩ : ∃ q, low8 r ^^^ v = q := ⟨_, rfl⟩
      have hxq : bits .xor .u8 ((low8 r).toNat : Int) (v.toNat : Int) = (q.toNat : Int) := by rw [u8_xor, hq]
      have hbt := byte_tab r v
      rw [hq] at hbt
      have hq256 := q.toNat_lt
      have htq := HT.out q.toNat hq256
      have HV := Lib.hid hv
      have HR := Lib.hid hr
      have HBT := Lib.hid hbt
      rw [hr]
      clear hcl hv hr hq hbt
      go_wp2_with fail
      go_round
      case rel => exact ⟨j + 1, by omega, by go_num, by rw [take_succ_getD l j hlt, HV.out, Crc.reg_snoc, HR.out, HBT.out]⟩
      case measure => simp [intOf]; omega
    · obtain rfl : j = l.length := by omega
      have HS : Hid (n32 (~~~Crc.reg (~~~s) l) = n32 (Crc.sumFrom s l)) := rfl
      rw [List.take_length]
      go_wp2_with fail
      go_ret
      rw [HS.out]
      exact ⟨rfl, hb⟩

theorem sum_any (x : Option Addr) (l : List UInt8) (c : Nat) (w : World) (hx : Bts w x l) (hl : l.length ≤ 10000000) :
    Calls Try.prog 40 #[.slice x l.length c] w fun e w' => e = .returned (.int .u32 (n32 (Crc.sum l))) ∧ Below w.heap.size w w' := by
  have hz : (0 : Int) = n32 0#32 := by decide
  have HS : Hid (Crc.sumFrom 0#32 l = Crc.sum l) := rfl
  have cu := update_any 0#32 x l c w hx hl
  rw [← hz, HS.out] at cu
  clear hz
  go_enter Try.func40, Try.ntmps40
  go_wp2_with fail
  refine cu.mono ?_
  rintro e w1 ⟨rfl, hb⟩
  clear cu
  go_wp2_with fail
  go_ret
  exact ⟨rfl, hb⟩

end Go.Proofs.Ytgibfagnfhgelaa
