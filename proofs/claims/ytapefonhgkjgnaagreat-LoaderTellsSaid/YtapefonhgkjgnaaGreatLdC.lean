/- Texts of the layers below, under one roof: BlkM, BlkC. -/
import Derived.WalkKit
import Derived.LoopTactic
import Derived.LoopN
import Derived.Handy
import Derived.Lib.Hide
import Derived.BigQuiet
import Derived.Stop.Walk2
import Derived.Laws.CopyOwn
import Derived.Deep.DeepAppendWide
import Derived.LoopIn
import Derived.OwnWalkIn
import Derived.TacticsInMore
import Derived.Test.YtapefonhgkjgnaaGreatLdA
import Derived.Test.YtapefonhgkjgnaaGreatLdB
set_option maxRecDepth 20000
namespace Go.Proofs.YtapefonhgkjgnaaGreat

namespace Crc
abbrev W := BitVec 32

def poly : W := 0xEDB88320#32

/-- One bit of the register. -/
def bit (r : W) : W := if r.getLsbD 0 then (r >>> 1) ^^^ poly else r >>> 1

/-- n bits of the register. -/
def bitN : Nat → W → W
  | 0, r => r
  | n + 1, r => bitN n (bit r)

theorem xor_swap (a b c d : W) : (a ^^^ b) ^^^ (c ^^^ d) = (a ^^^ c) ^^^ (b ^^^ d) := by
  rw [BitVec.xor_assoc, BitVec.xor_assoc, ← BitVec.xor_assoc b c d, BitVec.xor_comm b c, BitVec.xor_assoc]

theorem bit_xor (a b : W) : bit (a ^^^ b) = bit a ^^^ bit b := by
  unfold bit
  rw [BitVec.getLsbD_xor, BitVec.ushiftRight_xor_distrib]
  cases ha : a.getLsbD 0 <;> cases hb : b.getLsbD 0 <;> simp
  · rw [BitVec.xor_assoc]
  · rw [BitVec.xor_assoc, BitVec.xor_assoc, BitVec.xor_comm poly (b >>> 1)]
  · rw [xor_swap, BitVec.xor_self, BitVec.xor_zero]

theorem bitN_xor (n : Nat) : ∀ a b : W, bitN n (a ^^^ b) = bitN n a ^^^ bitN n b := by
  induction n with
  | zero => intro a b; rfl
  | succ n ih => intro a b; rw [bitN, bit_xor, ih]; rfl

theorem bitN_add (m n : Nat) : ∀ r : W, bitN (m + n) r = bitN n (bitN m r) := by
  induction m with
  | zero => intro r; rw [Nat.zero_add]; rfl
  | succ m ih => intro r; rw [Nat.succ_add]; show bitN (m + n) (bit r) = _; rw [ih]; rfl

/-- Where the n low bits are zero, n bits of the register are a shift. -/
theorem bitN_shift (n : Nat) : ∀ (a : W), (∀ i, i < n → a.getLsbD i = false) → bitN n a = a >>> n := by
  induction n with
  | zero => intro a _; simp [bitN]
  | succ n ih =>
    intro a h
    have h0 : bit a = a >>> 1 := by unfold bit; rw [h 0 (Nat.succ_pos _)]; rfl
    rw [bitN, h0, ih]
    · rw [← BitVec.shiftRight_add, Nat.add_comm]
    · intro i hi
      rw [BitVec.getLsbD_ushiftRight]
      exact h _ (by omega)

/-- The table's way: eight bits at once. -/
theorem bitN8 (x : W) : bitN 8 x = (x >>> 8) ^^^ bitN 8 (x &&& 255#32) := by
  have hs : x = (x &&& 255#32) ^^^ (x &&& ~~~255#32) := by
    apply BitVec.eq_of_getLsbD_eq
    intro i hi
    simp only [BitVec.getLsbD_xor, BitVec.getLsbD_and, BitVec.getLsbD_not, hi, decide_true, Bool.true_and]
    cases x.getLsbD i <;> cases (255#32).getLsbD i <;> rfl
  have hl : ∀ i, i < 8 → (255#32).getLsbD i = true := by decide
  have hh : bitN 8 (x &&& ~~~255#32) = x >>> 8 := by
    rw [bitN_shift]
    · apply BitVec.eq_of_getLsbD_eq
      intro i hi
      simp only [BitVec.getLsbD_ushiftRight, BitVec.getLsbD_and, BitVec.getLsbD_not]
      by_cases h : 8 + i < 32
      · have : (255#32).getLsbD (8 + i) = false := by
          have : ∀ j, j < 24 → (255#32).getLsbD (8 + j) = false := by decide
          exact this i (by omega)
        have e1 : x.getLsbD (8 + i) = x.getLsbD (8 + i) := rfl
        rw [this]
        simp [h]
      · simp [h, BitVec.getLsbD_of_ge x (8 + i) (by omega)]
    · intro i hi
      simp only [BitVec.getLsbD_and, BitVec.getLsbD_not, hl i hi]
      simp
  conv => lhs; rw [hs]
  rw [bitN_xor, hh, BitVec.xor_comm]

/-- A byte as a register. -/
def ofByte (b : UInt8) : W := b.toBitVec.setWidth 32

/-- One byte. -/
def byte (r : W) (b : UInt8) : W := bitN 8 (r ^^^ ofByte b)

/-- The register after some bytes. -/
def reg (r : W) (l : List (UInt8)) : W := l.foldl byte r

theorem reg_append (r : W) (l m : List (UInt8)) : reg r (l ++ m) = reg (reg r l) m := List.foldl_append ..
theorem reg_snoc (r : W) (l : List (UInt8)) (b : UInt8) : reg r (l ++ [b]) = byte (reg r l) b := by rw [reg_append]; rfl

/-! ### The sum -/

def sumFrom (s : W) (l : List (UInt8)) : W := ~~~ reg (~~~ s) l
def sum (l : List (UInt8)) : W := sumFrom 0#32 l

/-! ### Bursts -/

def b2w (b : Bool) : W := if b then 1#32 else 0#32

/-- The j low bits of a word. -/
def low (p : W) : Nat → W
  | 0 => 0#32
  | j + 1 => low p j ^^^ (b2w (p.getLsbD j) <<< j)

theorem b2w_bit (b : Bool) (i : Nat) : (b2w b).getLsbD i = (b && decide (i = 0)) := by
  cases b with
  | false => simp [b2w]
  | true => simp only [b2w, if_true]; cases i <;> simp

theorem low_bit (p : W) (n : Nat) : ∀ i, n ≤ 32 → (low p n).getLsbD i = (decide (i < n) && p.getLsbD i) := by
  induction n with
  | zero => intro i _; simp [low]
  | succ n ih =>
    intro i hn
    rw [low, BitVec.getLsbD_xor, ih i (by omega), BitVec.getLsbD_shiftLeft, b2w_bit]
    by_cases h1 : i < n
    · have h2 : i < n + 1 := by omega
      simp [h1, h2]
    · by_cases h2 : i = n
      · subst h2
        have : i < 32 := by omega
        simp [this]
      · have h3 : ¬ i < n + 1 := by omega
        have h4 : ¬ i - n = 0 := by omega
        simp [h1, h3, h4]

theorem bitN_succ (n : Nat) (r : W) : bitN (n + 1) r = bit (bitN n r) := by rw [bitN_add]; rfl

theorem bitN_one_shift (j : Nat) (hj : j < 32) (b : Bool) : bitN j (b2w b <<< j) = b2w b := by
  rw [bitN_shift]
  · apply BitVec.eq_of_getLsbD_eq
    intro i hi
    rw [BitVec.getLsbD_ushiftRight, BitVec.getLsbD_shiftLeft, b2w_bit, b2w_bit]
    by_cases h : i = 0
    · subst h; simp [hj]
    · simp [h]
  · intro i hi
    rw [BitVec.getLsbD_shiftLeft]
    simp [hi]

theorem low_byte (b : UInt8) : low (ofByte b) 8 = ofByte b := by
  apply BitVec.eq_of_getLsbD_eq
  intro i hi
  rw [low_bit _ 8 i (by omega)]
  by_cases h : i < 8
  · simp [h]
  · have : (ofByte b).getLsbD i = false := by
      unfold ofByte
      rw [BitVec.getLsbD_setWidth]
      simp [BitVec.getLsbD_of_ge b.toBitVec i (by omega)]
    simp [h, this]

/-! ### The trailer -/

/-- The four bytes of a word, the least significant one first. -/
def trailer (s : W) : List UInt8 := [⟨s.setWidth 8⟩, ⟨(s >>> 8).setWidth 8⟩, ⟨(s >>> 16).setWidth 8⟩, ⟨(s >>> 24).setWidth 8⟩]

end Crc

section
open Go.RowKit

abbrev W32 := BitVec 32

theorem wrap32u (n : Int) : IntKind.u32.wrap n = n % 4294967296 := by
  simp [IntKind.wrap, IntKind.bits, IntKind.signed]
theorem wrap32_of (n : Int) : IntKind.u32.wrap n = ((BitVec.ofInt 32 n).toNat : Int) := by
  rw [wrap32u, BitVec.toNat_ofInt]; omega
theorem ofInt32_toNat (x : W32) : BitVec.ofInt 32 (x.toNat : Int) = x := by
  apply BitVec.eq_of_toNat_eq; simp

/-- A word's number: a name that the walk does not open. -/
def n32 (x : W32) : Int := (x.toNat : Int)
theorem n32_inj {x y : W32} (h : n32 x = n32 y) : x = y := BitVec.eq_of_toNat_eq (by unfold n32 at h; omega)
theorem n32_nonneg (x : W32) : 0 ≤ n32 x := by unfold n32; omega
theorem n32_lt (x : W32) : n32 x < 4294967296 := by have := x.isLt; unfold n32; omega
theorem n32_nat (n : Nat) (h : n < 4294967296) : (n : Int) = n32 (BitVec.ofNat 32 n) := by
  unfold n32; rw [BitVec.toNat_ofNat, Nat.mod_eq_of_lt (by omega)]
@[go_sem] theorem n32_eq (x y : W32) : (n32 x == n32 y) = (x == y) := by
  rw [Bool.eq_iff_iff]; simp only [beq_iff_eq]; exact ⟨n32_inj, fun h => by rw [h]⟩
@[go_sem] theorem u32_wrap (x : W32) : IntKind.u32.wrap (n32 x) = n32 x := by
  have h0 := n32_nonneg x; have h1 := n32_lt x; rw [wrap32u]; omega
@[go_sem] theorem u32_xor (x y : W32) : bits .xor .u32 (n32 x) (n32 y) = n32 (x ^^^ y) := by
  show IntKind.u32.wrap ((BitVec.ofInt 32 (n32 x) ^^^ BitVec.ofInt 32 (n32 y) : W32).toNat : Int) = _
  unfold n32; rw [ofInt32_toNat, ofInt32_toNat, wrap32_of, ofInt32_toNat]
theorem u32_and (x y : W32) : bits .and .u32 (n32 x) (n32 y) = n32 (x &&& y) := by
  show IntKind.u32.wrap ((BitVec.ofInt 32 (n32 x) &&& BitVec.ofInt 32 (n32 y) : W32).toNat : Int) = _
  unfold n32; rw [ofInt32_toNat, ofInt32_toNat, wrap32_of, ofInt32_toNat]
theorem shr32 (x : W32) (k : Nat) : n32 x / (2 ^ k : Nat) = n32 (x >>> k) := by
  unfold n32; rw [BitVec.toNat_ushiftRight, Nat.shiftRight_eq_div_pow]; omega
@[go_sem] theorem shr32_1 (x : W32) : n32 x / (2 : Int) = n32 (x >>> 1) := shr32 x 1
@[go_sem] theorem shr32_8 (x : W32) : n32 x / (256 : Int) = n32 (x >>> 8) := shr32 x 8
theorem and1 (x : W32) : bits .and .u32 (n32 x) 1 = if x.getLsbD 0 then 1 else 0 := by
  have h := u32_and x 1#32
  rw [show n32 1#32 = 1 by decide] at h
  rw [h]
  unfold n32
  rw [BitVec.toNat_and]
  have e : x.toNat &&& 1 = x.toNat % 2 := Nat.and_one_is_mod x.toNat
  have g : x.getLsbD 0 = decide (x.toNat % 2 = 1) := by unfold BitVec.getLsbD; rw [Nat.testBit_zero]
  rw [g]
  simp [e]
  split <;> omega

@[go_sem] theorem u32_not (x : W32) : bits .xor .u32 IntKind.u32.max (n32 x) = n32 (~~~x) := by
  rw [show IntKind.u32.max = n32 (BitVec.allOnes 32) by decide, u32_xor, BitVec.xor_comm, BitVec.xor_allOnes]

/-- The last eight bits. -/
def low8 (x : W32) : UInt8 := ⟨x.setWidth 8⟩
@[go_sem] theorem u8_low32 (x : W32) : IntKind.u8.wrap (n32 x) = ((low8 x).toNat : Int) := by
  have : (low8 x).toNat = x.toNat % 256 := by unfold low8; simp [UInt8.toNat]
  rw [this]; unfold n32; simp [IntKind.wrap, IntKind.bits, IntKind.signed]
theorem u8_n32 (v : UInt8) : (v.toNat : Int) = n32 (Crc.ofByte v) := by
  unfold n32 Crc.ofByte; simp
end

section
open Go.RowKit

theorem bit_any (r : W32) (w : World) : Calls Tryz.prog 119 #[.int .u32 (n32 r)] w fun e w' => e = .returned (.int .u32 (n32 (Crc.bit r))) ∧ w' = w := by
  have hp : (3988292384 : Int) = n32 Crc.poly := by decide
  have h1 := and1 r
  cases hb : r.getLsbD 0 with
  | true =>
    have hB : Crc.bit r = r >>> 1 ^^^ Crc.poly := by unfold Crc.bit; rw [hb]; rfl
    rw [hb] at h1
    have HB := Lib.hid hB
    clear hB hb
    go_enter Tryz.func119, Tryz.ntmps119
    go_wp2_with fail
    go_ret
    rw [HB.out]
    exact ⟨rfl, rfl⟩
  | false =>
    have hB : Crc.bit r = r >>> 1 := by unfold Crc.bit; rw [hb]; rfl
    rw [hb] at h1
    have HB := Lib.hid hB
    clear hB hb
    go_enter Tryz.func119, Tryz.ntmps119
    go_wp2_with fail
    go_ret
    rw [HB.out]
    exact ⟨rfl, rfl⟩

def zCells : Array Value := Array.replicate 256 (.int .u32 0)
theorem zero_run (w : World) : (zeroValue 165).run Tryz.prog w = .ok (.agg zCells) w := by kernel_rfl
def tab (i : Nat) : W32 := Crc.bitN 8 (BitVec.ofNat 32 i)

/-- The table lies at block b. -/
def IsTab (w : World) (b : Nat) : Prop := ∀ i, i < 256 → w.cell? ⟨b, i, none⟩ = some (.int .u32 (n32 (tab i)))
def TabRel (B : Nat) (w : World) (u5 : Value) (wr : World) : Prop :=
  ∃ k : Nat, k ≤ 256 ∧ u5 = .int .i64 (k : Int) ∧ Below B w wr ∧ (∀ i, i < 256 → wr.cell? ⟨B, i, none⟩ = some (.int .u32 (n32 (if i < k then tab i else 0#32)))) ∧ (∀ i, wr.frozen? ⟨B, i, none⟩ = false)
def BitRel (k : Nat) (u4 u10 : Value) : Prop := ∃ j : Nat, j ≤ 8 ∧ u10 = .int .i64 (j : Int) ∧ u4 = .int .u32 (n32 (Crc.bitN j (BitVec.ofNat 32 k)))
def TableOf (w : World) (e : Ending) (w' : World) : Prop := ∃ b, e = .returned (.pointer (some ⟨b, 0, none⟩)) ∧ w.heap.size ≤ b ∧ IsTab w' b ∧ Below w.heap.size w w'

set_option maxHeartbeats 1000000 in
set_option maxRecDepth 100000 in
theorem table_any (w : World) : Calls Tryz.prog 118 #[] w (TableOf w) := by
  have hz := zero_run
  go_enter Tryz.func118, Tryz.ntmps118
  go_wp2_with fail
  clear hz
  go_loopw [5] (fun u5 wr => TabRel w.heap.size w u5 wr) (fun u5 _ => 256 - (intOf u5).toNat)
  case atStart => exact ⟨0, by omega, rfl, al (Below.refl _ w) _, fun i hi => by rw [cell_new]; simp [zCells, hi]; rfl, fun i => by go_simp⟩
  case round =>
    obtain ⟨k, hk, rfl, hB, hc, hf⟩ := hrel
    by_cases hlt : k < 256
    · have hkb : decide ((k : Int) < 256) = true := by simp; omega
      have hw : (k : Int) = n32 (Crc.bitN 0 (BitVec.ofNat 32 k)) := n32_nat k (by omega)
      have HW := Lib.hid hw
      have HC := Lib.hid hc
      have HF := Lib.hid hf
      clear hw hc hf
      go_wp2_with fail
      go_loop [4, 10] (fun u4 u10 => BitRel k u4 u10) (fun _ u10 => 8 - (intOf u10).toNat)
      case atStart => exact ⟨0, by omega, rfl, by rw [← HW.out]⟩
      case round =>
        obtain ⟨j, hj, rfl, rfl⟩ := hrel
        by_cases hl : j < 8
        · go_wp2_with fail
          refine (bit_any _ _).mono ?_
          rintro e w1 ⟨rfl, rfl⟩
          go_wp2_with fail
          go_round
          case rel => exact ⟨j + 1, by omega, by go_num, by rw [Crc.bitN_succ]⟩
          case measure => simp [intOf]; omega
        · obtain rfl : j = 8 := by omega
          have hck := HC.out k hlt
          have hfk := HF.out k
          have HT : Hid (Crc.bitN 8 (BitVec.ofNat 32 k) = tab k) := rfl
          go_wp2_with fail
          refine ⟨⟨k + 1, by omega, by go_num, hB.setCell (Nat.le_refl _) _, fun i hi => ?_, fun i => by rw [World.frozen?_setCell]; exact HF.out i⟩, by simp [intOf]; omega⟩
          by_cases hik : i = k
          · subst hik
            rw [if_pos (by omega)]
            exact World.cell?_setCell_same' _ _ _ (by rw [hck]; rfl)
          · rw [World.cell?_setCell_other _ _ _ _ (by simp <;> omega), HC.out i hi]
            by_cases h2 : i < k
            · rw [if_pos h2, if_pos (by omega)]
            · rw [if_neg h2, if_neg (by omega)]
    · obtain rfl : k = 256 := by omega
      have HC := Lib.hid hc
      clear hc hf
      go_wp2_with fail
      go_ret
      exact ⟨_, rfl, Nat.le_refl _, fun i hi => by have := HC.out i hi; rw [if_pos hi] at this; exact this, hB⟩

theorem ofByte_low (r : W32) (b : UInt8) : BitVec.ofNat 32 (low8 r ^^^ b).toNat = (r ^^^ Crc.ofByte b) &&& 255#32 := by
  apply BitVec.eq_of_toNat_eq
  have h1 : (low8 r).toNat = r.toNat % 256 := by unfold low8; simp [UInt8.toNat]
  have h2 := b.toNat_lt
  rw [BitVec.toNat_ofNat, Nat.mod_eq_of_lt (by have := (low8 r ^^^ b).toNat_lt; omega), BitVec.toNat_and, BitVec.toNat_xor, UInt8.toNat_xor, h1]
  have h3 : (Crc.ofByte b).toNat = b.toNat := by unfold Crc.ofByte; simp
  rw [h3, show (255#32).toNat = 2 ^ 8 - 1 from rfl, Nat.and_two_pow_sub_one_eq_mod, Nat.xor_mod_two_pow, Nat.mod_eq_of_lt (show b.toNat < 2 ^ 8 by omega)]
theorem byte_tab (r : W32) (b : UInt8) : r >>> 8 ^^^ tab (low8 r ^^^ b).toNat = Crc.byte r b := by
  unfold Crc.byte tab
  rw [Crc.bitN8 (r ^^^ Crc.ofByte b), ofByte_low]
  congr 1
  apply BitVec.eq_of_getLsbD_eq
  intro i hi
  rw [BitVec.getLsbD_ushiftRight, BitVec.getLsbD_ushiftRight, BitVec.getLsbD_xor]
  have : (Crc.ofByte b).getLsbD (8 + i) = false := by
    unfold Crc.ofByte
    rw [BitVec.getLsbD_setWidth, BitVec.getLsbD_of_ge _ _ (by omega)]; simp
  rw [this]; simp

def UpRel (s : W32) (l : List UInt8) (u6 u14 : Value) : Prop := ∃ j : Nat, j ≤ l.length ∧ u14 = .int .i64 (j : Int) ∧ u6 = .int .u32 (n32 (Crc.reg (~~~s) (l.take j)))
set_option maxRecDepth 100000 in
theorem update_any (s : W32) (x : Option Addr) (l : List UInt8) (c : Nat) (w : World) (hx : Bts w x l) (hl : l.length ≤ 10000000) :
    Calls Tryz.prog 116 #[.int .u32 (n32 s), .slice x l.length c] w fun e w' => e = .returned (.int .u32 (n32 (Crc.sumFrom s l))) ∧ Below w.heap.size w w' := by
  have hsg : IntKind.u32.signed = false := rfl
  go_enter Tryz.func116, Tryz.ntmps116
  go_wp2_with fail
  refine (table_any _).mono ?_
  rintro e w1 ⟨b, rfl, _, ht, hb⟩
  have HT := Lib.hid ht
  have hx1 := hx.later hb
  clear ht hx
  go_wp2_with fail
  go_loop [6, 14] (fun u6 u14 => UpRel s l u6 u14) (fun _ u14 => l.length - (intOf u14).toNat)
  case atStart => exact ⟨0, by omega, rfl, rfl⟩
  case round =>
    obtain ⟨j, hj, rfl, rfl⟩ := hrel
    by_cases hlt : j < l.length
    · obtain ⟨g, o, rfl, hcl⟩ := hx1.resolve_left (by intro e; subst e; simp at hlt)
      have hcj := hcl j hlt
      obtain ⟨v, hv⟩ : ∃ v, l.getD j 0 = v := ⟨_, rfl⟩
      obtain ⟨r, hr⟩ : ∃ r, Crc.reg (~~~s) (l.take j) = r := ⟨_, rfl⟩
      rw [hv] at hcj
      unfold encB at hcj
      obtain ⟨q, hq⟩ : ∃ q, low8 r ^^^ v = q := ⟨_, rfl⟩
      have hxq : bits .xor .u8 ((low8 r).toNat : Int) (v.toNat : Int) = (q.toNat : Int) := by rw [u8_xor, hq]
      have hbt := byte_tab r v
      rw [hq] at hbt
      have hq256 := q.toNat_lt
      have htq := HT.out q.toNat hq256
      have HV := Lib.hid hv
      have HR := Lib.hid hr
      have HBT := Lib.hid hbt
      rw [hr]
      clear hcl hv hr hq hbt
      go_wp2_with fail
      go_round
      case rel => exact ⟨j + 1, by omega, by go_num, by rw [take_succ_getD l j hlt, HV.out, Crc.reg_snoc, HR.out, HBT.out]⟩
      case measure => simp [intOf]; omega
    · obtain rfl : j = l.length := by omega
      have HS : Hid (n32 (~~~Crc.reg (~~~s) l) = n32 (Crc.sumFrom s l)) := rfl
      rw [List.take_length]
      go_wp2_with fail
      go_ret
      rw [HS.out]
      exact ⟨rfl, hb⟩

theorem sum_any (x : Option Addr) (l : List UInt8) (c : Nat) (w : World) (hx : Bts w x l) (hl : l.length ≤ 10000000) :
    Calls Tryz.prog 114 #[.slice x l.length c] w fun e w' => e = .returned (.int .u32 (n32 (Crc.sum l))) ∧ Below w.heap.size w w' := by
  have hz : (0 : Int) = n32 0#32 := by decide
  have HS : Hid (Crc.sumFrom 0#32 l = Crc.sum l) := rfl
  have cu := update_any 0#32 x l c w hx hl
  rw [← hz, HS.out] at cu
  clear hz
  go_enter Tryz.func114, Tryz.ntmps114
  go_wp2_with fail
  refine cu.mono ?_
  rintro e w1 ⟨rfl, hb⟩
  clear cu
  go_wp2_with fail
  go_ret
  exact ⟨rfl, hb⟩
end

section
open Go.RowKit

def CloneOf (l : List UInt8) (w : World) (e : Ending) (w' : World) : Prop := ∃ x cap, e = .returned (.slice x l.length cap) ∧ OwnsB w.heap.size w' x cap l ∧ Below w.heap.size w w'

set_option maxHeartbeats 400000 in
theorem clone_any (x : Option Addr) (l : List UInt8) (cap : Nat) (w : World) (hx : Bts w x l) (hl : l.length ≤ 100000) :
    Calls Tryz.prog 89 #[.slice x l.length cap] w (CloneOf l w) := by
  have q : ∀ (w : World) (a : Option Addr) (n c n' c' : Nat), (binOp .eql 22 (.slice a n c) (.slice none n' c')).run Tryz.prog w = .ok (.bool a.isNone) w := fun w a n c n' c' => Lib.run_eql_slice_nil w _ _ a n c n' c' Tryz.underlying22
  obtain ⟨i0, hi, hz0, hz1, hz2⟩ := info_parts infoByte
  cases x with
  | none =>
    have h0 : l = [] := by
      rcases hx with h | ⟨b, o, hx, _⟩
      · exact h
      · cases hx
    subst h0
    go_enter Tryz.func89, Tryz.ntmps89
    go_wp2
    go_ret
    exact ⟨_, _, rfl, World.ownsRow_nil _ _ _ _, Below.refl _ _⟩
  | some a =>
    have hn := news_of_bts (hx.later ((Below.refl _ w).alloc (Nat.le_refl _) (.cells #[] 5)))
    have hm := World.ownsRow_made (base := w.heap.size) (e := 5) (size := 1) w #[] 0 (Nat.le_refl _) (by unfold maxLen; omega) rfl
    have HN := Lib.hid hn
    clear hn
    go_enter Tryz.func89, Tryz.ntmps89
    go_wp2_with (at_builtin; refine wpList_append_own _ rfl _ _ 22 rfl w.heap.size 5 i0 (.int .u8 0) 1 1 Tryz.underlying22 hi hz0 hz1 hz2 rfl (by decide) _ _ _ rfl hm a l.length cap (l.map encB) rfl (by simp) HN.out ?c2 ?c3 ?c4 ?c5 ?_)
    case c2 => intro u hu; simp at hu; obtain ⟨b, _, rfl⟩ := hu; rfl
    case c3 => unfold maxLen; omega
    case c4 => omega
    case c5 => simp
    intro v' w1 hown hgrow _
    obtain ⟨x', cap', rfl⟩ := owns_form hown
    try simp only [Nat.zero_add, List.nil_append] at hown
    have hb : Below w.heap.size w w1 := ((Below.refl _ w).alloc (Nat.le_refl _) _).grown hgrow (by simp) (fun k e => by cases e; exact Nat.le_refl _)
    clear HN hm hgrow
    go_wp2
    go_ret
    exact ⟨x', cap', rfl, hown, hb⟩
end

section
open Go.RowKit

def trailN (s : W32) (j : Nat) : List UInt8 := (List.range j).map fun i => low8 (s >>> (8 * i))
theorem trailN_succ (s : W32) (j : Nat) : trailN s (j + 1) = trailN s j ++ [low8 (s >>> (8 * j))] := by
  unfold trailN; rw [List.range_succ, List.map_append]; rfl
theorem trail4 (s : W32) : trailN s 4 = Crc.trailer s := by
  simp [trailN, Crc.trailer, List.range, List.range.loop, low8]
theorem shr_by (s : W32) (j : Nat) : n32 s / 2 ^ (8 * j) = n32 (s >>> (8 * j)) := by
  rw [← shr32]; simp

def AppRel (s : W32) (l : List UInt8) (B : Nat) (w : World) (u4 u10 : Value) (wr : World) : Prop :=
  ∃ (j : Nat) (x : Option Addr) (cap : Nat), j ≤ 4 ∧ u10 = .int .i64 (j : Int) ∧ u4 = .slice x (l ++ trailN s j).length cap ∧ OwnsB B wr x cap (l ++ trailN s j) ∧ Below w.heap.size w wr ∧ B ≤ wr.heap.size
def AppOf (l : List UInt8) (w : World) (e : Ending) (w' : World) : Prop := ∃ x cap, e = .returned (.slice x (l ++ Crc.trailer (Crc.sum l)).length cap) ∧ OwnsB w.heap.size w' x cap (l ++ Crc.trailer (Crc.sum l)) ∧ Below w.heap.size w w'

set_option maxHeartbeats 1000000 in
theorem append_any (x : Option Addr) (l : List UInt8) (c : Nat) (w : World) (hx : Bts w x l) (hl : l.length ≤ 100000) : Calls Tryz.prog 112 #[.slice x l.length c] w (AppOf l w) := by
  go_enter Tryz.func112, Tryz.ntmps112
  go_wp2_with fail
  refine (sum_any x l c _ hx (by omega)).mono ?_
  rintro e w1 ⟨rfl, hb1⟩
  have hx1 := hx.later hb1
  obtain ⟨s, hs⟩ : ∃ s, Crc.sum l = s := ⟨_, rfl⟩
  have HS := Lib.hid hs
  rw [hs]
  clear hs hx
  go_wp2_with fail
  refine (clone_any x l c _ hx1 hl).mono ?_
  rintro e w2 ⟨x2, c2, rfl, ho, hb2⟩
  have hB := thru hb1 hb2
  have hB1 : w.heap.size ≤ w1.heap.size := hb1.size
  have hB2 : w1.heap.size ≤ w2.heap.size := hb2.size
  clear hb1 hb2 hx1
  have HO := Lib.hid ho
  clear ho
  go_wp2_with fail
  go_loopw [4, 10] (fun u4 u10 wr => AppRel s l w1.heap.size w u4 u10 wr) (fun _ u10 _ => 4 - (intOf u10).toNat)
  case atStart => exact ⟨0, x2, c2, by omega, rfl, by simp [trailN], by simpa [trailN] using HO.out, hB, hB2⟩
  case round =>
    clear HO hB hB2
    obtain ⟨j, y, cap, hj, rfl, rfl, hown, hB, hB2⟩ := hrel
    have HO := Lib.hid hown
    clear hown
    by_cases hlt : j < 4
    · have hsh := shr_by s j
      obtain ⟨lj, hlj⟩ : ∃ m, l ++ trailN s j = m := ⟨_, rfl⟩
      obtain ⟨v, hv⟩ : ∃ v, low8 (s >>> (8 * j)) = v := ⟨_, rfl⟩
      obtain ⟨lm, hlm⟩ : ∃ m, lj ++ [v] = m := ⟨_, rfl⟩
      have hll : lj.length ≤ 100010 := by rw [← hlj]; simp [trailN]; omega
      have HLM : Hid (l ++ trailN s (j + 1) = lm) := by
        show l ++ trailN s (j + 1) = lm
        rw [trailN_succ, ← List.append_assoc, hlj, hv, hlm]
      rw [hlj] at HO ⊢
      clear hlj
      go_wp2_with (at_builtin; refine wpList_app rfl _ _ rfl (B := w1.heap.size) (l := lj) (y := some ⟨wr.heap.size, 0, none⟩) (m := [v]) (HO.out.turn ((Turns.refl (fun _ => False) wr).alloc _) (fun _ _ h => h)) rfl rfl (bts_one wr v _ _) (fun h => by cases h) (by simp; omega) hlm (by simp; omega) ?_; intro x' cap' w3 h1 h2 _; refine Hid.out ?_)
      unfold Hid
      have HN := Lib.hid h1
      have hB4 := (al hB _).trans (h2.mono hB1)
      have hB5 : w1.heap.size ≤ w3.heap.size := by have := h2.size; simp at this; omega
      clear h1 h2 HO hB hlm hv
      go_wp2_with fail
      exact ⟨⟨j + 1, x', cap', by omega, by go_num, by rw [HLM.out], by rw [HLM.out]; exact HN.out, hB4, hB5⟩, by simp [intOf]; omega⟩
    · obtain rfl : j = 4 := by omega
      rw [trail4] at HO ⊢
      go_wp2_with fail
      go_ret
      have h := HS.out
      subst h
      exact ⟨_, _, rfl, HO.out.weaken hB1, hB⟩
end

namespace Crc
theorem trailer_length (s : W) : (trailer s).length = 4 := rfl
end Crc

section
open Go.RowKit

theorem wrap8u (n : Int) : IntKind.u8.wrap n = n % 256 := by simp [IntKind.wrap, IntKind.bits, IntKind.signed]
theorem OwnsB.le_cap {B : Nat} {w : World} {x : Option Addr} {cap : Nat} {l : List UInt8} (h : OwnsB B w x cap l) : l.length ≤ cap ∧ cap ≤ 9223372036854775807 := by
  rcases h.2 with ⟨hv, h0⟩ | ⟨g, c, cur, hv, _, _, h1, h2, _⟩
  · simp only [Value.slice.injEq] at hv; omega
  · simp only [Value.slice.injEq] at hv; unfold maxLen at h2; omega
theorem str_eq (l m : List UInt8) : ((⟨l.toArray⟩ : ByteArray) == ⟨m.toArray⟩) = (l == m) := by
  show (l.toArray == m.toArray) = (l == m)
  rw [Bool.eq_iff_iff]
  simp

end

section
open Go.RowKit

/-- An erased block. -/
def erasedL : List UInt8 := List.replicate 54 255
theorem a54_zero : (Tryz.prog.info? 134).map (·.zero) = some (some (aggN 54 fun _ => .int .u8 0)) := by kernel_rfl
theorem wpList_allocEq {P : Program} {ops : Array Oper} {rest : List Oper} {o : Oper} {a : Act} {w : World} {Q : Exit → Act → World → Prop} (d : Tmp) (hd : o.dst = some d) (hg : o.guard = none) (t : TypeId) (ho : o.op = .alloc t) {n : Nat} {v : Nat → Value} (hz : (P.info? t).map (·.zero) = some (some (aggN n v)))
    (h : ∀ W, W = w.alloc (.cells (aggN n v).cells t) → Blk W w.heap.size 0 n v → Below w.heap.size w W → W.heap.size = w.heap.size + 1 → wpList P ops Q rest (a.put (some d) (.pointer (some ⟨w.heap.size, 0, none⟩))) W) : wpList P ops Q (o :: rest) a w :=
  wpList_plain hg fun K hK => by
    have hr := run_allocN (P := P) (w := w) hz
    unfold Oper.wp
    simp [execOp, ho, hr, Result.andThen]
    exact hK _ _ (by rw [hd]; exact h (w.alloc (.cells (aggN n v).cells t)) rfl (blk_new w n v _ t rfl) ((Below.refl _ w).alloc (Nat.le_refl _) _) (World.size_alloc _ _))
theorem shape_setCell (w : World) (a : Addr) (v : Value) (r : Nat) : (w.setCell a v).shape? r = w.shape? r := by
  unfold World.shape? World.setCell
  simp only [Array.getElem?_modify]
  by_cases h : a.block = r
  · rw [if_pos h]
    cases hq : w.heap[r]? with
    | none => rfl
    | some ob =>
      cases ob with
      | cells c e f => simp; split <;> simp
      | _ => rfl
  · rw [if_neg h]
theorem shape_turn {T : Nat → Prop} {w w' : World} (h : Turns T w w') {r : Nat} {p : TypeId × Nat} (hr : ¬ T r) (hs : w.shape? r = some p) : w'.shape? r = some p := by
  have hlt : r < w.heap.size := by
    unfold World.shape? at hs
    cases hq : w.heap[r]? with
    | none => rw [hq] at hs; cases hs
    | some ob => exact (Array.getElem?_eq_some_iff.1 hq).1
  unfold World.shape? at hs ⊢
  rw [h.block r hlt hr]
  exact hs
def ErRel (w : World) (u3 : Value) (wr : World) : Prop :=
  ∃ i : Nat, i ≤ 54 ∧ u3 = .int .i64 (i : Int) ∧ Below w.heap.size w wr ∧ Blk wr w.heap.size 0 54 (fun j => if j < i then .int .u8 255 else .int .u8 0) ∧ w.heap.size < wr.heap.size ∧ ∃ k, wr.shape? w.heap.size = some (134, k)
def ErOf (w : World) (e : Ending) (w' : World) : Prop := ∃ g, e = .returned (.slice (some ⟨g, 0, none⟩) 54 54) ∧ w.heap.size ≤ g ∧ g < w'.heap.size ∧ Bts w' (some ⟨g, 0, none⟩) erasedL ∧ (∃ k, w'.shape? g = some (134, k)) ∧ Below w.heap.size w w'
theorem Blk.set {W : World} {b o n : Nat} {v : Nat → Value} (h : Blk W b o n v) (i : Nat) (_hi : i < n) (x : Value) : Blk (W.setCell ⟨b, o + i, none⟩ x) b o n (fun j => if j = i then x else v j) := fun j hj => by
  refine ⟨?_, by rw [World.frozen?_setCell]; exact (h j hj).2⟩
  show _ = some (if j = i then x else v j)
  by_cases e : j = i
  · subst e
    rw [if_pos rfl]
    exact World.cell?_setCell_same' _ _ _ (by simp [(h j hj).1])
  · rw [if_neg e, World.cell?_setCell_other _ _ _ _ (fun e2 => by have := congrArg Addr.off e2; simp only at this; omega)]
    exact (h j hj).1
theorem Blk.set0 {W : World} {b n : Nat} {v : Nat → Value} (h : Blk W b 0 n v) (i : Nat) (hi : i < n) (x : Value) : Blk (W.setCell ⟨b, i, none⟩ x) b 0 n (fun j => if j = i then x else v j) := by
  have := h.set i hi x
  rwa [Nat.zero_add] at this

set_option maxHeartbeats 1000000 in
theorem erased_any (w : World) : Calls Tryz.prog 51 #[] w (ErOf w) := by
  have hB := Below.refl w.heap.size w
  go_enter Tryz.func51, Tryz.ntmps51
  go_wp2_with (refine wpList_allocEq 1 rfl rfl _ rfl a54_zero ?_; intro X hX a1 hb hz; refine Hid.out ?_)
  unfold Hid
  try simp only [Act.put, List.setIfInBounds_toArray, List.set_cons_zero, List.set_cons_succ]
  replace hB := thru hB hb
  have hsh : ∃ k, X.shape? w.heap.size = some (134, k) := ⟨_, by rw [hX]; exact World.shape?_alloc_at _ _ _ rfl⟩
  clear hX
  go_wp2_with fail
  go_loopw [3] (fun u3 wr => ErRel w u3 wr) (fun u3 _ => 54 - (intOf u3).toNat)
  case atStart => exact ⟨0, by omega, rfl, hB, a1.congr (fun j _ => by simp), by omega, hsh⟩
  case round =>
    clear hB a1 hb hsh
    obtain ⟨i, hi, rfl, hB, hA, hz2, hsh⟩ := hrel
    by_cases hlt : i < 54
    · have hci := hA.at i hlt
      have hfi : wr.frozen? ⟨w.heap.size, i, none⟩ = false := hci.2
      have hvi := hci.1
      have d1 : decide ((i : Int) < 54) = true := by simp; omega
      clear hci
      go_wp2_with fail
      refine ⟨⟨i + 1, by omega, by go_num, hB.setCell (by simp) _, (hA.set0 i hlt _).congr fun j _ => ?_, by simpa [World.setCell] using hz2, by rw [shape_setCell]; exact hsh⟩, by simp [intOf]; omega⟩
      by_cases hji : j = i
      · subst hji; simp
      · by_cases h2 : j < i
        · simp [hji, h2, show j < i + 1 by omega]
        · simp [hji, h2, show ¬ j < i + 1 by omega]
    · obtain rfl : i = 54 := by omega
      go_wp2_with fail
      go_ret
      refine ⟨_, rfl, Nat.le_refl _, hz2, .inr ⟨_, _, rfl, fun j hj => ?_⟩, hsh, hB⟩
      have hj54 : j < 54 := by simpa [erasedL] using hj
      have := (hA.at j hj54).1
      rw [if_pos hj54] at this
      rw [Nat.zero_add, this]
      unfold erasedL
      rw [List.getD_eq_getElem?_getD, List.getElem?_replicate, if_pos hj54]
      rfl

set_option maxHeartbeats 400000 in
theorem equal_any (x y : Option Addr) (l m : List UInt8) (c d : Nat) (w : World) (hx : Bts w x l) (hy : Bts w y m) :
    Calls Tryz.prog 110 #[.slice x l.length c, .slice y m.length d] w fun e w' => e = .returned (.bool (l == m)) ∧ w' = w := by
  have e1 := run_conv (P := Tryz.prog) (src := 22) (e := 5) (dst := 9) Tryz.underlying22 Tryz.underlying5 Tryz.underlying9 hx c
  have e2 := run_conv (P := Tryz.prog) (src := 22) (e := 5) (dst := 9) Tryz.underlying22 Tryz.underlying5 Tryz.underlying9 hy d
  have e3 := str_eq l m
  go_enter Tryz.func110, Tryz.ntmps110
  go_wp2_with fail
  go_ret
  exact ⟨rfl, rfl⟩
end

section
open Go.RowKit

theorem a49_zero : (Tryz.prog.info? 158).map (·.zero) = some (some (aggN 49 fun _ => .int .u8 0)) := by kernel_rfl
/-- The first 49 bytes of a block. -/
def base49 (d : List UInt8) : List UInt8 := UInt8.ofNat d.length :: (d ++ List.replicate (48 - d.length) 0)
/-- The block of some data. -/
def encL (d : List UInt8) : List UInt8 := base49 d ++ Crc.trailer (Crc.sum (base49 d)) ++ [0]
theorem base49_len (d : List UInt8) (h : d.length ≤ 48) : (base49 d).length = 49 := by simp [base49]; omega
theorem encL_len (d : List UInt8) (h : d.length ≤ 48) : (encL d).length = 54 := by
  unfold encL
  rw [List.length_append, List.length_append, base49_len d h, Crc.trailer_length]; rfl
theorem erasedL_len : erasedL.length = 54 := by decide
theorem bts_obj {w : World} {g : Nat} {l : List UInt8} {C : List Value} {t : TypeId} {p : Nat × Nat} (h : w.heap[g]? = some (.cells C.toArray t p)) (hC : C = l.map encB) : Bts w (some ⟨g, 0, none⟩) l := by
  subst hC
  refine .inr ⟨g, 0, rfl, fun i hi => ?_⟩
  unfold World.cell?
  simp only [h]
  simp [List.getElem?_eq_getElem hi]
theorem setCell_obj (w : World) (g i : Nat) (C : List Value) (t : TypeId) (p : Nat × Nat) (v : Value) (h : w.heap[g]? = some (.cells C.toArray t p)) : (w.setCell ⟨g, i, none⟩ v).heap[g]? = some (.cells (C.set i v).toArray t p) := by
  unfold World.setCell
  simp [Array.getElem?_modify, h]
def EncOf (d : List UInt8) (w : World) (e : Ending) (w' : World) : Prop := ∃ x cap, e = .returned (.tuple #[.slice x 54 cap, .int .i64 0]) ∧ OwnsB w.heap.size w' x cap (encL d) ∧ Below w.heap.size w w'

set_option maxHeartbeats 1000000 in
theorem encode_yes (x : Option Addr) (d : List UInt8) (c : Nat) (w : World) (hx : Bts w x d) (hn : x = none → c = 0) (hd : d.length ≤ 48) : Calls Tryz.prog 108 #[.slice x d.length c] w (EncOf d w) := by
  have hB := Below.refl w.heap.size w
  have d1 : decide (48 < d.length) = false := decide_eq_false (by omega)
  have d2 : decide (48 < (d.length : Int)) = false := decide_eq_false (by omega)
  obtain ⟨nb, hnb⟩ : ∃ b, UInt8.ofNat d.length = b := ⟨_, rfl⟩
  have w8 : IntKind.u8.wrap (d.length : Int) = (nb.toNat : Int) := by rw [wrap8u, ← hnb, UInt8.toNat_ofNat']; omega
  have HNB := Lib.hid hnb
  clear hnb
  go_enter Tryz.func108, Tryz.ntmps108
  go_wp2_with (refine wpList_allocEq 4 rfl rfl _ rfl a49_zero ?_; intro X hX a1 hb hz; refine Hid.out ?_)
  unfold Hid
  try simp only [Act.put, List.setIfInBounds_toArray, List.set_cons_zero, List.set_cons_succ]
  replace hB := thru hB hb
  have hg : X.heap[w.heap.size]? = some (.cells (List.replicate 49 (Value.int .u8 0)).toArray 158 (0, 0)) := by rw [hX, heap_alloc_new]; rfl
  have hv0 := (a1.at 0 (by omega)).1
  have hf0 := (a1.at 0 (by omega)).2
  clear hX hb a1
  have HG := Lib.hid (setCell_obj X w.heap.size 0 _ _ _ (.int .u8 (nb.toNat : Int)) hg)
  have hB1 := hB.setCell (p := ⟨w.heap.size, 0, none⟩) (Nat.le_refl _) (.int .u8 (nb.toNat : Int))
  have hx1 : Bts (X.setCell ⟨w.heap.size, 0, none⟩ (.int .u8 (nb.toNat : Int))) x d := hx.later hB1
  clear hg
  have hmin : (d.map encB).length = Nat.min d.length 48 := by rw [List.length_map]; exact (Nat.min_eq_left hd).symm
  have hpos : 0 < (d.map encB).length → (some (⟨w.heap.size, 1, none⟩ : Addr)) = some ⟨w.heap.size, 1, none⟩ ∧ ∃ ad, x = some ad ∧ ∀ j v, (d.map encB)[j]? = some v → (X.setCell ⟨w.heap.size, 0, none⟩ (.int .u8 (nb.toNat : Int))).cell? (ad.add j) = some v := fun hp => by
    cases x with
    | none => exact absurd (hx1.resolve_left (fun h => by subst h; simp at hp)) (by rintro ⟨_, _, h, _⟩; cases h)
    | some ad => exact ⟨rfl, ad, rfl, news_of_bts hx1⟩
  have hfit : 1 + (d.map encB).length ≤ ((List.replicate 49 (Value.int .u8 0)).set 0 (.int .u8 (nb.toNat : Int))).length := by simp; omega
  go_wp2_with (refine wpList_copy_splice rfl (.tmp 12) (.tmp 13) _ _ rfl 5 Tryz.underlying22 (by kernel_rfl) _ _ _ _ _ _ rfl rfl w.heap.size 1 _ _ HG.out (d.map encB) hmin hpos hfit (oneEnc d) w.heap.size w hB1 (Nat.le_refl _) ?_; intro w2 hg2 hB2; refine Hid.out ?_)
  unfold Hid
  have hbt : Bts w2 (some ⟨w.heap.size, 0, none⟩) (base49 d) := by
    refine bts_obj hg2.out ?_
    unfold splice base49
    rw [List.length_map, HNB.out]
    simp only [List.map_cons, List.map_append, List.map_replicate]
    rw [show (List.replicate 49 (Value.int .u8 0)).set 0 (.int .u8 (nb.toNat : Int)) = .int .u8 (nb.toNat : Int) :: List.replicate 48 (.int .u8 0) from rfl]
    rw [show 1 + d.length = d.length + 1 by omega, List.take_succ_cons, List.take_zero, List.drop_succ_cons, List.drop_replicate]
    rfl
  have hml := base49_len d hd
  have HE : Hid (encL d = base49 d ++ Crc.trailer (Crc.sum (base49 d)) ++ [0]) := rfl
  obtain ⟨m, hm⟩ : ∃ m, base49 d = m := ⟨_, rfl⟩
  rw [hm] at hbt hml HE
  have hA := append_any (some ⟨w.heap.size, 0, none⟩) m 49 w2 hbt (by omega)
  rw [hml] at hA
  have HA := Lib.hid hA
  obtain ⟨m1, hm1⟩ : ∃ k, m ++ Crc.trailer (Crc.sum m) = k := ⟨_, rfl⟩
  have hl1 : m1.length ≤ 1000 := by rw [← hm1, List.length_append, Crc.trailer_length]; omega
  obtain ⟨m2, hm2⟩ : ∃ k, m1 ++ [0] = k := ⟨_, rfl⟩
  have HE2 : Hid (encL d = m2) := by show _ = _; rw [HE.out, hm1, hm2]
  have HM1 := Lib.hid hm1
  have HM2 := Lib.hid hm2
  have HL : Hid (m2.length = 54) := by show _ = _; rw [← HE2.out]; exact encL_len d hd
  clear hA hm hml hm1 hm2 hg2 hmin hpos hfit hx1 hx hbt HE HG hv0 hf0 hz hB hB1
  go_wp2_with fail
  refine HA.out.mono ?_
  rintro e w3 ⟨x3, c3, rfl, ho, hb⟩
  rw [HM1.out] at ho ⊢
  have hB3 := thru hB2 hb
  have hs3 : w2.heap.size ≤ w3.heap.size := hb.size
  have HO := Lib.hid ho
  have hs2 := hB2.size
  clear ho hb hB2
  go_wp2_with (at_builtin; refine wpList_app rfl _ _ rfl (B := w2.heap.size) (l := m1) (y := some ⟨w3.heap.size, 0, none⟩) (m := [0]) (HO.out.turn ((Turns.refl (fun _ => False) w3).alloc _) (fun _ _ h => h)) rfl rfl (bts_one w3 0 _ _) (fun h => by cases h) (by simp; omega) HM2.out (by simp; omega) ?_; intro x' cap' w4 h1 h2 _; refine Hid.out ?_)
  unfold Hid
  have HN := Lib.hid h1
  have hB4 := (al hB3 _).trans (h2.mono (by omega))
  clear h1 h2 HO hB3
  go_wp2_with fail
  refine bodyPost_ret (v := .tuple #[.slice x' m2.length cap', .int .i64 0]) (by simp [results, Tryz.results108, go_sem]) rfl ⟨x', cap', by rw [HL.out], ?_, hB4⟩
  rw [HE2.out]
  exact HN.out.weaken hs2
end

section
open Go.RowKit

/-- A slice of bytes: its place, its capacity, its bytes. -/
structure Rw where
  x : Option Addr
  c : Nat
  l : List UInt8
def rw0 : Rw := ⟨none, 0, []⟩
def encR (r : Rw) : Value := .slice r.x r.l.length r.c
def RwOk (w : World) (r : Rw) : Prop := Bts w r.x r.l ∧ (r.x = none → r.c = 0) ∧ r.l.length ≤ r.c ∧ r.c ≤ 9223372036854775807
theorem RwOk.later {w w' : World} {r : Rw} (h : RwOk w r) (hb : Below w.heap.size w w') : RwOk w' r := ⟨h.1.later hb, h.2⟩
/-- The slice that begins at x holds these slices. -/
def CellsR (w : World) (x : Option Addr) (rs : List Rw) : Prop := rs = [] ∨ ∃ b o, x = some ⟨b, o, none⟩ ∧ ∀ i, i < rs.length → w.cell? ⟨b, o + i, none⟩ = some (encR (rs.getD i rw0))
def Rws (w : World) (x : Option Addr) (rs : List Rw) : Prop := CellsR w x rs ∧ ∀ r ∈ rs, RwOk w r
theorem CellsR.later {w w' : World} {x : Option Addr} {rs : List Rw} (h : CellsR w x rs) (hb : Below w.heap.size w w') : CellsR w' x rs := by
  rcases h with h | ⟨b, o, hx, hc⟩
  · exact .inl h
  · exact .inr ⟨b, o, hx, fun i hi => Go.Proofs.YtapefonhgkjgnaaGreat.later hb (hc i hi)⟩
theorem Rws.later {w w' : World} {x : Option Addr} {rs : List Rw} (h : Rws w x rs) (hb : Below w.heap.size w w') : Rws w' x rs := ⟨h.1.later hb, fun r hr => (h.2 r hr).later hb⟩
theorem getD_mem {α : Type} (l : List α) (i : Nat) (d : α) (h : i < l.length) : l.getD i d ∈ l := by
  rw [List.getD_eq_getElem?_getD, List.getElem?_eq_getElem h]; exact List.getElem_mem h
theorem Rws.at {w : World} {x : Option Addr} {rs : List Rw} (h : Rws w x rs) (i : Nat) (hi : i < rs.length) : ∃ b o, x = some ⟨b, o, none⟩ ∧ w.cell? ⟨b, o + i, none⟩ = some (encR (rs.getD i rw0)) ∧ RwOk w (rs.getD i rw0) := by
  rcases h.1 with h0 | ⟨b, o, hx, hc⟩
  · subst h0; simp at hi
  · exact ⟨b, o, hx, hc i hi, h.2 _ (getD_mem _ _ _ hi)⟩

theorem infoSl : (Tryz.prog.info? 22).map (fun i => (i.zero, i.size, i.bytes)) = some (some (.slice none 0 0), 1, 24) := by kernel_rfl
/-- A row of slices that the call owns. -/
def OwnsR (B : Nat) (w : World) (x : Option Addr) (cap : Nat) (rs : List Rw) : Prop := w.ownsRow B 22 1 (.slice x rs.length cap) rs.length (rs.map encR)
theorem OwnsR.nil (B : Nat) (w : World) : OwnsR B w none 0 [] := World.ownsRow_nil _ _ _ _
theorem OwnsR.low {B : Nat} {w : World} {x : Option Addr} {cap : Nat} {l : List Rw} (h : OwnsR B w x cap l) : ∀ b, RowOf x b → B ≤ b ∧ b < w.heap.size := by
  intro b hb
  rcases h.2 with ⟨hv, _⟩ | ⟨g, cap', cur, hv, hlo, hg, _⟩
  · simp only [Value.slice.injEq] at hv
    rw [hv.1] at hb; cases hb
  · simp only [Value.slice.injEq] at hv
    rw [hv.1] at hb; cases hb
    exact ⟨hlo, (Array.getElem?_eq_some_iff.1 hg).1⟩
theorem OwnsR.turn {B : Nat} {w w' : World} {x : Option Addr} {cap : Nat} {l : List Rw} {T : Nat → Prop} (h : OwnsR B w x cap l) (ht : Turns T w w') (hT : ∀ b, RowOf x b → ¬ T b) : OwnsR B w' x cap l := by
  refine ⟨h.1, ?_⟩
  rcases h.2 with h0 | ⟨g, cap', cur, hv, hlo, hg, hr⟩
  · exact .inl h0
  · refine .inr ⟨g, cap', cur, hv, hlo, ?_, hr⟩
    simp only [Value.slice.injEq] at hv
    exact (ht.block g (Array.getElem?_eq_some_iff.1 hg).1 (hT g (by rw [hv.1]; rfl))).trans hg
theorem OwnsR.weaken {B B' : Nat} {w : World} {x : Option Addr} {cap : Nat} {l : List Rw} (h : OwnsR B w x cap l) (hB : B' ≤ B) : OwnsR B' w x cap l := by
  refine ⟨h.1, ?_⟩
  rcases h.2 with h | ⟨g, cap, cur, h1, h2, h3⟩
  · exact .inl h
  · exact .inr ⟨g, cap, cur, h1, Nat.le_trans hB h2, h3⟩
theorem OwnsR.cellsR {B : Nat} {w : World} {x : Option Addr} {cap : Nat} {l : List Rw} (h : OwnsR B w x cap l) : CellsR w x l := by
  rcases h.2 with ⟨hv, h0⟩ | ⟨g, cap', cur, hv, hB, hg, _, _, _, _⟩
  · exact .inl (List.eq_nil_of_length_eq_zero h0)
  · simp only [Value.slice.injEq] at hv
    refine .inr ⟨g, 0, hv.1, fun i hi => ?_⟩
    have := World.ownsRow.cells h (g := g) (by rw [hv.1]; rfl) i (encR (l.getD i rw0)) (by simp [List.getElem?_eq_getElem hi])
    have hplain : (⟨g, 0, none⟩ : Addr).add i = ⟨g, 0 + i, none⟩ := by unfold Addr.add; split <;> simp_all
    rw [hplain] at this
    exact this
theorem OwnsR.some_of {B : Nat} {w : World} {x : Option Addr} {cap : Nat} {l : List Rw} (h : OwnsR B w x cap l) (h0 : 0 < l.length) : ∃ g, x = some ⟨g, 0, none⟩ := by
  rcases h.2 with ⟨_, hv⟩ | ⟨g, cap', cur, hv, _⟩
  · omega
  · simp only [Value.slice.injEq] at hv; exact ⟨g, hv.1⟩
/-- A row of slices and a row of bytes are two blocks. -/
theorem OwnsR.apart {B B' : Nat} {w : World} {x y : Option Addr} {cap c : Nat} {rs : List Rw} {l : List UInt8} (h : OwnsR B w x cap rs) (k : OwnsB B' w y c l) : ∀ b, RowOf x b → ¬ RowOf y b := by
  intro b hb hy
  rcases h.2 with ⟨hv, _⟩ | ⟨g, cap', cur, hv, _, hg, _⟩
  · simp only [Value.slice.injEq] at hv
    rw [hv.1] at hb; cases hb
  · rcases k.2 with ⟨hv2, _⟩ | ⟨g2, cap2, cur2, hv2, _, hg2, _⟩
    · simp only [Value.slice.injEq] at hv2
      rw [hv2.1] at hy; cases hy
    · simp only [Value.slice.injEq] at hv hv2
      rw [hv.1] at hb; rw [hv2.1] at hy
      cases hb; cases hy
      rw [hg] at hg2
      simp at hg2
def Apart (r s : Rw) : Prop := ∀ b, RowOf r.x b → ¬ RowOf s.x b
/-- A store that the call owns: its row and the rows of its blocks, all apart. -/
structure OwnsS (B : Nat) (w : World) (x : Option Addr) (cap : Nat) (rs : List Rw) : Prop where
  row : OwnsR B w x cap rs
  each : ∀ r, r ∈ rs → OwnsB B w r.x r.c r.l
  apart : rs.Pairwise Apart
theorem OwnsB.rwOk {B : Nat} {w : World} {r : Rw} (h : OwnsB B w r.x r.c r.l) : RwOk w r := ⟨h.bts, h.none_cap, h.le_cap.1, h.le_cap.2⟩
theorem OwnsS.rws {B : Nat} {w : World} {x : Option Addr} {cap : Nat} {rs : List Rw} (h : OwnsS B w x cap rs) : Rws w x rs := ⟨h.row.cellsR, fun r hr => (h.each r hr).rwOk⟩
theorem OwnsS.weaken {B B' : Nat} {w : World} {x : Option Addr} {cap : Nat} {rs : List Rw} (h : OwnsS B w x cap rs) (hB : B' ≤ B) : OwnsS B' w x cap rs := ⟨h.row.weaken hB, fun r hr => (h.each r hr).weaken hB, h.apart⟩
theorem OwnsS.turn {B : Nat} {w w' : World} {x : Option Addr} {cap : Nat} {rs : List Rw} {T : Nat → Prop} (h : OwnsS B w x cap rs) (ht : Turns T w w') (h1 : ∀ b, RowOf x b → ¬ T b) (h2 : ∀ r, r ∈ rs → ∀ b, RowOf r.x b → ¬ T b) : OwnsS B w' x cap rs :=
  ⟨h.row.turn ht h1, fun r hr => (h.each r hr).turn ht (h2 r hr), h.apart⟩
theorem OwnsS.turnB {B : Nat} {w w' : World} {x : Option Addr} {cap : Nat} {rs : List Rw} {T : Nat → Prop} (h : OwnsS B w x cap rs) (ht : Turns T w w') (hT : ∀ b, B ≤ b → b < w.heap.size → ¬ T b) : OwnsS B w' x cap rs :=
  h.turn ht (fun b hb => hT b (h.row.low b hb).1 (h.row.low b hb).2) (fun r hr b hb => hT b ((h.each r hr).low b hb).1 ((h.each r hr).low b hb).2)
theorem OwnsS.later {B : Nat} {w w' : World} {x : Option Addr} {cap : Nat} {rs : List Rw} (h : OwnsS B w x cap rs) (hb : Below w.heap.size w w') : OwnsS B w' x cap rs :=
  h.turnB (Turns.of_below hb (Nat.le_refl _)) (fun _ _ _ h => h)
theorem OwnsS.nil (B : Nat) (w : World) : OwnsS B w none 0 [] := ⟨OwnsR.nil B w, fun r hr => by simp at hr, List.Pairwise.nil⟩
theorem OwnsS.app {B : Nat} {w w' : World} {xa x' : Option Addr} {cap cap' : Nat} {rs : List Rw} {u : Rw} (h : OwnsS B w xa cap rs) (h1 : OwnsR B w' x' cap' (rs ++ [u])) (ht : Turns (RowOf xa) w w') (hu : OwnsB B w u.x u.c u.l) (hd : ∀ r, r ∈ rs → Apart r u) : OwnsS B w' x' cap' (rs ++ [u]) := by
  refine ⟨h1, fun r hr => ?_, ?_⟩
  · rcases List.mem_append.1 hr with hr | hr
    · exact (h.each r hr).turn ht (fun b hb hx => h.row.apart (h.each r hr) b hx hb)
    · obtain rfl : r = u := by simpa using hr
      exact hu.turn ht (fun b hb hx => h.row.apart hu b hx hb)
  · rw [List.pairwise_append]
    exact ⟨h.apart, List.pairwise_singleton _ _, fun r hr s hs => by obtain rfl : s = u := by simpa using hs
                                                                     exact hd r hr⟩

section
variable {w : World} {o : Oper} {a : Act} {Q : Exit → Act → World → Prop}
theorem wp_appR {K : Act → World → Prop} (s x : Operand) (ho : o.op = .call { callee := .builtin .append, args := #[s, x], argTypes := #[31, 31] })
    {B : Nat} {xa : Option Addr} {cap : Nat} {rs : List Rw} (hown : OwnsR B w xa cap rs) (hs : a.eval s = .slice xa rs.length cap)
    {ad : Addr} {u : Rw} {c : Nat} (hx : a.eval x = .slice (some ad) 1 c) (hy : w.cell? (ad.add 0) = some (encR u)) (hl : rs.length ≤ 100000) (hB : B ≤ w.heap.size)
    (h : ∀ x' cap' w', OwnsR B w' x' cap' (rs ++ [u]) → Below B w w' → Turns (RowOf xa) w w' → K (a.put o.dst (.slice x' (rs ++ [u]).length cap')) w') : o.wp Tryz.prog a w K Q := by
  obtain ⟨i0, hi, hz0, hz1, hz2⟩ := info_parts infoSl
  refine wp_append_own_wide w s x 31 ho B 22 i0 (.slice none 0 0) 1 24 Tryz.underlying31 hi hz0 hz1 hz2 rfl (by decide) _ rs.length (rs.map encR) hs hown ad 1 c [encR u] hx (by simp) (fun j v hj => by
    match j, hj with
    | 0, hj => simp at hj; subst hj; exact hy
    | j + 1, hj => simp at hj) (by intro v hv; simp at hv; subst hv; rfl) (by unfold maxLen; omega) (by omega) hB (fun v' w' h1 h2 _ => ?_)
  obtain ⟨x', cap', rfl⟩ := owns_form h1
  have hlen : rs.length + 1 = (rs ++ [u]).length := by simp
  have hmp : rs.map encR ++ [encR u] = (rs ++ [u]).map encR := by simp
  rw [hlen, hmp] at h1
  rw [hlen]
  refine h x' cap' w' h1 ((Below.refl _ w).grown h2 hB (fun k e => ?_)) (Turns.of_grownBy h2 (fun b e => ?_))
  · exact (OwnsR.low hown k (by unfold RowOf; cases xa <;> exact e)).1
  · unfold RowOf; cases xa <;> exact e
end
end

section
open Go.RowKit

/-- An operation: its block, whether it erases, its data. -/
structure OpV where
  blk : Int
  er : Bool
  x : Option Addr
  c : Nat
  d : List UInt8
def op0 : OpV := ⟨0, false, none, 0, []⟩
def OpOk (w : World) (o : OpV) : Prop := Bts w o.x o.d ∧ (o.x = none → o.c = 0) ∧ o.d.length ≤ o.c ∧ o.c ≤ 9223372036854775807 ∧ -9223372036854775808 ≤ o.blk ∧ o.blk ≤ 9223372036854775807
/-- The slice that begins at x holds these operations. -/
def Ops (w : World) (x : Option Addr) (os : List OpV) : Prop :=
  (os = [] ∨ ∃ b o, x = some ⟨b, o, none⟩ ∧ ∀ i, i < os.length → w.cell? ⟨b, o + i * 3, none⟩ = some (.int .i64 (os.getD i op0).blk) ∧ w.cell? ⟨b, o + i * 3 + 1, none⟩ = some (.bool (os.getD i op0).er) ∧ w.cell? ⟨b, o + i * 3 + 2, none⟩ = some (.slice (os.getD i op0).x (os.getD i op0).d.length (os.getD i op0).c)) ∧ ∀ o, o ∈ os → OpOk w o
theorem OpOk.later {w w' : World} {o : OpV} (h : OpOk w o) (hb : Below w.heap.size w w') : OpOk w' o := ⟨h.1.later hb, h.2⟩
theorem Ops.later {w w' : World} {x : Option Addr} {os : List OpV} (h : Ops w x os) (hb : Below w.heap.size w w') : Ops w' x os := by
  refine ⟨?_, fun o ho => (h.2 o ho).later hb⟩
  rcases h.1 with h | ⟨b, o, hx, hc⟩
  · exact .inl h
  · exact .inr ⟨b, o, hx, fun i hi => ⟨Go.Proofs.YtapefonhgkjgnaaGreat.later hb (hc i hi).1, Go.Proofs.YtapefonhgkjgnaaGreat.later hb (hc i hi).2.1, Go.Proofs.YtapefonhgkjgnaaGreat.later hb (hc i hi).2.2⟩⟩
theorem Ops.at {w : World} {x : Option Addr} {os : List OpV} (h : Ops w x os) (i : Nat) (hi : i < os.length) : ∃ b o, x = some ⟨b, o, none⟩ ∧ w.cell? ⟨b, o + i * 3, none⟩ = some (.int .i64 (os.getD i op0).blk) ∧ w.cell? ⟨b, o + i * 3 + 1, none⟩ = some (.bool (os.getD i op0).er) ∧ w.cell? ⟨b, o + i * 3 + 2, none⟩ = some (.slice (os.getD i op0).x (os.getD i op0).d.length (os.getD i op0).c) ∧ OpOk w (os.getD i op0) := by
  rcases h.1 with h0 | ⟨b, o, hx, hc⟩
  · subst h0; simp at hi
  · exact ⟨b, o, hx, (hc i hi).1, (hc i hi).2.1, (hc i hi).2.2, h.2 _ (getD_mem _ _ _ hi)⟩

/-- A block of another size. -/
def badL (n : Nat) : Bool := n != 54
/-- An operation that a store of n blocks does not take. -/
def badO (n : Nat) (o : OpV) : Bool := decide (o.blk < 0) || decide ((n : Int) ≤ o.blk) || decide (48 < o.d.length) || (o.er && decide (0 < o.d.length))
/-- A valid store. -/
def vldS (ls : List (List UInt8)) : Bool := decide (1 ≤ ls.length) && decide (ls.length ≤ 64) && !ls.any fun l => badL l.length
/-- The number of an operation's steps. -/
def lenO (er : Bool) : Nat := if er then 54 else 108

set_option maxHeartbeats 400000 in
theorem len_any (o : OpV) (w : World) : Calls Tryz.prog 58 #[.agg #[.int .i64 o.blk, .bool o.er, .slice o.x o.d.length o.c]] w fun e w' => e = .returned (.int .i64 (lenO o.er : Int)) ∧ Below w.heap.size w w' := by
  obtain ⟨b, er, x, c, d⟩ := o
  cases er
  · go_enter Tryz.func58, Tryz.ntmps58
    go_wp2_with fail
    go_ret
    exact ⟨rfl, al (Below.refl _ _) _⟩
  · go_enter Tryz.func58, Tryz.ntmps58
    go_wp2_with fail
    go_ret
    exact ⟨rfl, al (Below.refl _ _) _⟩
set_option maxHeartbeats 400000 in
theorem valid1_any (x : Option Addr) (n c : Nat) (w : World) : Calls Tryz.prog 99 #[.slice x n c] w fun e w' => e = .returned (.bool (badL n)) ∧ w' = w := by
  by_cases h : n = 54
  · subst h
    go_enter Tryz.func99, Tryz.ntmps99
    go_wp2_with fail
    go_ret
    exact ⟨rfl, rfl⟩
  · have d1 : ((n : Int) != 54) = true := by simp; omega
    have d2 : (n != 54) = true := by simpa using h
    have hb : badL n = true := d2
    rw [hb]
    go_enter Tryz.func99, Tryz.ntmps99
    go_wp2_with fail
    go_ret
    exact ⟨rfl, rfl⟩
theorem any_of_bad {α : Type} (p : α → Bool) (l : List α) (j : Nat) (d : α) (hj : j < l.length) (h : p (l.getD j d) = true) : l.any p = true := by
  rw [List.any_eq_true]
  exact ⟨_, getD_mem l j d hj, h⟩
theorem any_none {α : Type} (p : α → Bool) (l : List α) (d : α) (h : ∀ j, j < l.length → p (l.getD j d) = false) : l.any p = false := by
  rw [List.any_eq_false]
  intro x hx
  obtain ⟨j, hj, rfl⟩ := List.getElem_of_mem hx
  have := h j hj
  rw [List.getD_eq_getElem?_getD, List.getElem?_eq_getElem hj] at this
  simpa using this
set_option maxHeartbeats 1000000 in
theorem index_any (x : Option Addr) (rs : List Rw) (c : Nat) (w : World) (hs : Rws w x rs) (hn : rs.length ≤ 1000) : Calls Tryz.prog 109 #[.slice x rs.length c, .func (.func 99) #[] #[]] w fun e w' => (∃ k : Int, e = .returned (.int .i64 k) ∧ decide (0 ≤ k) = rs.any (fun r => badL r.l.length)) ∧ w' = w := by
  go_enter Tryz.func109, Tryz.ntmps109
  go_wp2_with fail
  go_loop [8] (fun u8 => ∃ j : Nat, j ≤ rs.length ∧ u8 = .int .i64 (j : Int) ∧ ∀ i, i < j → badL (rs.getD i rw0).l.length = false) (fun u8 => rs.length - (intOf u8).toNat)
  case atStart => exact ⟨0, by omega, rfl, fun i hi => by omega⟩
  case round =>
    obtain ⟨j, hj, rfl, hgood⟩ := hrel
    by_cases hlt : j < rs.length
    · have d1 : decide ((j : Int) < (rs.length : Int)) = true := by simp; omega
      obtain ⟨b0, o0, rfl, hcj, hrj⟩ := hs.at j hlt
      obtain ⟨q, hq⟩ : ∃ q, badL (rs.getD j rw0).l.length = q := ⟨_, rfl⟩
      have hcj' : w.cell? ⟨b0, o0 + j, none⟩ = some (.slice (rs.getD j rw0).x (rs.getD j rw0).l.length (rs.getD j rw0).c) := hcj
      obtain ⟨rj, hrjv⟩ : ∃ r, rs.getD j rw0 = r := ⟨_, rfl⟩
      have HQ := Lib.hid hq
      rw [hrjv] at hcj' hq
      have HQ2 := Lib.hid hq
      have HG := Lib.hid hgood
      clear hcj hq hgood hrjv hrj
      go_wp2_with fail
      refine (valid1_any _ _ _ _).mono ?_
      rintro e w' ⟨rfl, rfl⟩
      rw [HQ2.out]
      cases q
      · go_wp2_with fail
        exact ⟨⟨j + 1, by omega, by go_num, fun i hi => by
          by_cases h : i = j
          · subst h; exact HQ.out
          · exact HG.out i (by omega)⟩, by simp [intOf]; omega⟩
      · go_wp2_with fail
        go_ret
        exact ⟨⟨_, rfl, by rw [any_of_bad (fun r : Rw => badL r.l.length) rs j rw0 hlt HQ.out]; simp⟩, rfl⟩
    · obtain rfl : j = rs.length := by omega
      have HG := Lib.hid hgood
      clear hgood
      go_wp2_with fail
      go_ret
      exact ⟨⟨_, rfl, by rw [any_none (fun r : Rw => badL r.l.length) rs rw0 HG.out]; simp⟩, rfl⟩

set_option maxHeartbeats 400000 in
theorem contains_any (x : Option Addr) (rs : List Rw) (c : Nat) (w : World) (hs : Rws w x rs) (hn : rs.length ≤ 1000) : Calls Tryz.prog 98 #[.slice x rs.length c, .func (.func 99) #[] #[]] w fun e w' => e = .returned (.bool (rs.any (fun r => badL r.l.length))) ∧ w' = w := by
  obtain ⟨q, hq⟩ : ∃ q, rs.any (fun r => badL r.l.length) = q := ⟨_, rfl⟩
  have HQ := Lib.hid hq
  rw [hq]
  clear hq
  go_enter Tryz.func98, Tryz.ntmps98
  go_wp2_with fail
  refine (index_any x rs c w hs hn).mono ?_
  rintro e w' ⟨⟨k, rfl, hk⟩, rfl⟩
  rw [HQ.out] at hk
  go_wp2_with fail
  go_ret
  exact ⟨rfl, rfl⟩
theorem vldS_eq (rs : List Rw) : vldS (rs.map (·.l)) = (decide (1 ≤ rs.length) && decide (rs.length ≤ 64) && !rs.any fun r => badL r.l.length) := by
  unfold vldS
  rw [List.length_map, List.any_map]
  rfl
set_option maxHeartbeats 1000000 in
theorem valid_any (x : Option Addr) (rs : List Rw) (c : Nat) (w : World) (hs : Rws w x rs) (hn : rs.length ≤ 1000) : Calls Tryz.prog 78 #[.agg #[.slice x rs.length c]] w fun e w' => e = .returned (.bool (vldS (rs.map (·.l)))) ∧ Below w.heap.size w w' := by
  rw [vldS_eq]
  have hs1 : ∀ ob, Rws (w.alloc ob) x rs := fun ob => hs.later (al (Below.refl _ w) ob)
  obtain ⟨q, hq⟩ : ∃ q, rs.any (fun r => badL r.l.length) = q := ⟨_, rfl⟩
  have HQ := Lib.hid hq
  rw [hq]
  clear hq
  by_cases h1 : 1 ≤ rs.length
  · have a1 : decide (1 ≤ rs.length) = true := decide_eq_true h1
    have a2 : decide ((1 : Int) ≤ (rs.length : Int)) = true := decide_eq_true (by omega)
    by_cases h2 : rs.length ≤ 64
    · have b1 : decide (rs.length ≤ 64) = true := decide_eq_true h2
      have b2 : decide ((rs.length : Int) ≤ 64) = true := decide_eq_true (by omega)
      rw [a1, b1]
      go_enter Tryz.func78, Tryz.ntmps78
      go_wp2_with fail
      refine (contains_any x rs c _ (hs1 _) hn).mono ?_
      rintro e w' ⟨rfl, rfl⟩
      rw [HQ.out]
      go_wp2_with fail
      go_ret
      exact ⟨by cases q <;> rfl, al (Below.refl _ _) _⟩
    · have b1 : decide (rs.length ≤ 64) = false := decide_eq_false h2
      have b2 : decide ((rs.length : Int) ≤ 64) = false := decide_eq_false (by omega)
      rw [a1, b1]
      go_enter Tryz.func78, Tryz.ntmps78
      go_wp2_with fail
      go_ret
      exact ⟨rfl, al (Below.refl _ _) _⟩
  · have a1 : decide (1 ≤ rs.length) = false := decide_eq_false h1
    have a2 : decide ((1 : Int) ≤ (rs.length : Int)) = false := decide_eq_false (by omega)
    rw [a1]
    go_enter Tryz.func78, Tryz.ntmps78
    go_wp2_with fail
    go_ret
    exact ⟨rfl, al (Below.refl _ _) _⟩

set_option maxHeartbeats 1000000 in
theorem valid2_any (o : OpV) (b n c : Nat) (x : Option Addr) (w : World) (hc : w.cell? ⟨b, 0, none⟩ = some (.slice x n c)) : Calls Tryz.prog 87 #[.agg #[.int .i64 o.blk, .bool o.er, .slice o.x o.d.length o.c], .pointer (some ⟨b, 0, none⟩)] w fun e w' => e = .returned (.bool (badO n o)) ∧ Below w.heap.size w w' := by
  obtain ⟨blk, er, xo, co, d⟩ := o
  have hb : b < w.heap.size := World.block_lt_of_cell? _ _ hc
  have hcn : ∀ ob, (w.alloc ob).cell? ⟨b, 0, none⟩ = some (.slice x n c) := fun ob => later (al (Below.refl _ w) ob) hc
  show Calls _ _ _ _ fun e w' => e = .returned (.bool (decide (blk < 0) || decide ((n : Int) ≤ blk) || decide (48 < d.length) || (er && decide (0 < d.length)))) ∧ Below w.heap.size w w'
  by_cases h1 : blk < 0
  · have a1 : decide (blk < 0) = true := decide_eq_true h1
    rw [a1]
    go_enter Tryz.func87, Tryz.ntmps87
    go_wp2_with fail
    go_ret
    exact ⟨rfl, al (Below.refl _ _) _⟩
  · have a1 : decide (blk < 0) = false := decide_eq_false h1
    by_cases h2 : (n : Int) ≤ blk
    · have a2 : decide ((n : Int) ≤ blk) = true := decide_eq_true h2
      rw [a1, a2]
      go_enter Tryz.func87, Tryz.ntmps87
      go_wp2_with fail
      go_ret
      exact ⟨rfl, al (Below.refl _ _) _⟩
    · have a2 : decide ((n : Int) ≤ blk) = false := decide_eq_false h2
      by_cases h3 : 48 < d.length
      · have a3 : decide (48 < d.length) = true := decide_eq_true h3
        have a4 : decide ((48 : Int) < (d.length : Int)) = true := decide_eq_true (by omega)
        rw [a1, a2, a3]
        go_enter Tryz.func87, Tryz.ntmps87
        go_wp2_with fail
        go_ret
        exact ⟨rfl, al (Below.refl _ _) _⟩
      · have a3 : decide (48 < d.length) = false := decide_eq_false h3
        have a4 : decide ((48 : Int) < (d.length : Int)) = false := decide_eq_false (by omega)
        cases er
        · rw [a1, a2, a3]
          go_enter Tryz.func87, Tryz.ntmps87
          go_wp2_with fail
          go_ret
          exact ⟨rfl, al (Below.refl _ _) _⟩
        · by_cases h4 : 0 < d.length
          · have a5 : decide (0 < d.length) = true := decide_eq_true h4
            have a6 : decide ((0 : Int) < (d.length : Int)) = true := decide_eq_true (by omega)
            rw [a1, a2, a3, a5]
            go_enter Tryz.func87, Tryz.ntmps87
            go_wp2_with fail
            go_ret
            exact ⟨rfl, al (Below.refl _ _) _⟩
          · have a5 : decide (0 < d.length) = false := decide_eq_false h4
            have a6 : decide ((0 : Int) < (d.length : Int)) = false := decide_eq_false (by omega)
            rw [a1, a2, a3, a5]
            go_enter Tryz.func87, Tryz.ntmps87
            go_wp2_with fail
            go_ret
            exact ⟨rfl, al (Below.refl _ _) _⟩
end

section
open Go.RowKit

/-- Operations that a valid store takes. -/
def vldO (ls : List (List UInt8)) (os : List OpV) : Bool := vldS ls && !os.any fun o => badO ls.length o
set_option maxHeartbeats 1000000 in
theorem indexo_any (x : Option Addr) (os : List OpV) (c b n cx : Nat) (xs : Option Addr) (w : World) (hs : Ops w x os) (hn : os.length ≤ 1000) (hc : w.cell? ⟨b, 0, none⟩ = some (.slice xs n cx)) : Calls Tryz.prog 106 #[.slice x os.length c, .func (.func 87) #[] #[.pointer (some ⟨b, 0, none⟩)]] w fun e w' => (∃ k : Int, e = .returned (.int .i64 k) ∧ decide (0 ≤ k) = os.any (fun o => badO n o)) ∧ Below w.heap.size w w' := by
  have hB := Below.refl w.heap.size w
  go_enter Tryz.func106, Tryz.ntmps106
  go_wp2_with fail
  go_loopw [8] (fun u8 wr => ∃ j : Nat, j ≤ os.length ∧ u8 = .int .i64 (j : Int) ∧ (∀ i, i < j → badO n (os.getD i op0) = false) ∧ Below w.heap.size w wr) (fun u8 _ => os.length - (intOf u8).toNat)
  case atStart => exact ⟨0, by omega, rfl, fun i hi => by omega, hB⟩
  case round =>
    clear hB
    obtain ⟨j, hj, rfl, hgood, hB⟩ := hrel
    by_cases hlt : j < os.length
    · have d1 : decide ((j : Int) < (os.length : Int)) = true := by simp; omega
      obtain ⟨b0, o0, rfl, hc0, hc1, hc2, hok⟩ := (hs.later hB).at j hlt
      obtain ⟨q, hq⟩ : ∃ q, badO n (os.getD j op0) = q := ⟨_, rfl⟩
      have HQ := Lib.hid hq
      have hcb := later hB hc
      obtain ⟨oj, hoj⟩ : ∃ r, os.getD j op0 = r := ⟨_, rfl⟩
      rw [hoj] at hc0 hc1 hc2 hq
      have HQ2 := Lib.hid hq
      have HG := Lib.hid hgood
      clear hq hgood hoj hok
      go_wp2_with fail
      refine (valid2_any oj b n cx xs _ hcb).mono ?_
      rintro e w' ⟨rfl, hb⟩
      rw [HQ2.out]
      replace hB := thru hB hb
      clear hc0 hc1 hc2 hcb hb
      cases q
      · go_wp2_with fail
        exact ⟨⟨j + 1, by omega, by go_num, fun i hi => by
          by_cases h : i = j
          · subst h; exact HQ.out
          · exact HG.out i (by omega), hB⟩, by simp [intOf]; omega⟩
      · go_wp2_with fail
        go_ret
        exact ⟨⟨_, rfl, by rw [any_of_bad (fun o : OpV => badO n o) os j op0 hlt HQ.out]; simp⟩, hB⟩
    · obtain rfl : j = os.length := by omega
      have HG := Lib.hid hgood
      clear hgood
      go_wp2_with fail
      go_ret
      exact ⟨⟨_, rfl, by rw [any_none (fun o : OpV => badO n o) os op0 HG.out]; simp⟩, hB⟩
set_option maxHeartbeats 400000 in
theorem containso_any (x : Option Addr) (os : List OpV) (c b n cx : Nat) (xs : Option Addr) (w : World) (hs : Ops w x os) (hn : os.length ≤ 1000) (hc : w.cell? ⟨b, 0, none⟩ = some (.slice xs n cx)) : Calls Tryz.prog 88 #[.slice x os.length c, .func (.func 87) #[] #[.pointer (some ⟨b, 0, none⟩)]] w fun e w' => e = .returned (.bool (os.any (fun o => badO n o))) ∧ Below w.heap.size w w' := by
  obtain ⟨q, hq⟩ : ∃ q, os.any (fun o => badO n o) = q := ⟨_, rfl⟩
  have HQ := Lib.hid hq
  rw [hq]
  clear hq
  go_enter Tryz.func88, Tryz.ntmps88
  go_wp2_with fail
  refine (indexo_any x os c b n cx xs w hs hn hc).mono ?_
  rintro e w' ⟨⟨k, rfl, hk⟩, hb⟩
  rw [HQ.out] at hk
  go_wp2_with fail
  go_ret
  exact ⟨rfl, hb⟩
set_option maxHeartbeats 1000000 in
theorem validops_any (x : Option Addr) (rs : List Rw) (c : Nat) (y : Option Addr) (os : List OpV) (cy : Nat) (w : World) (hs : Rws w x rs) (hn : rs.length ≤ 1000) (ho : Ops w y os) (hm : os.length ≤ 1000) : Calls Tryz.prog 55 #[.agg #[.slice x rs.length c], .slice y os.length cy] w fun e w' => e = .returned (.bool (vldO (rs.map (·.l)) os)) ∧ Below w.heap.size w w' := by
  have hB := Below.refl w.heap.size w
  have hl : (rs.map (·.l)).length = rs.length := List.length_map ..
  unfold vldO
  rw [hl]
  obtain ⟨q, hq⟩ : ∃ q, vldS (rs.map (·.l)) = q := ⟨_, rfl⟩
  obtain ⟨p, hp⟩ : ∃ p, os.any (fun o => badO rs.length o) = p := ⟨_, rfl⟩
  have HQ := Lib.hid hq
  have HP := Lib.hid hp
  rw [hq, hp]
  clear hq hp hl
  go_enter Tryz.func55, Tryz.ntmps55
  go_wp2_with fail
  refine (valid_any x rs c _ (hs.later (al hB _)) hn).mono ?_
  rintro e w' ⟨rfl, hb⟩
  rw [HQ.out]
  have hcb := later (a := ⟨w.heap.size, 0, none⟩) (v := .slice x rs.length c) hb (by go_simp)
  replace hB := thru (al hB _) hb
  clear hb
  cases q
  · go_wp2_with fail
    go_ret
    exact ⟨rfl, hB⟩
  · go_wp2_with fail
    refine (containso_any y os cy w.heap.size rs.length c x _ (ho.later hB) hm hcb).mono ?_
    rintro e w2 ⟨rfl, hb⟩
    rw [HP.out]
    go_wp2_with fail
    go_ret
    exact ⟨by cases p <;> rfl, thru hB hb⟩
end

section
open Go.RowKit

/-- The k-th step of an operation: where, and what byte. -/
def stepA (d : List UInt8) (k : Nat) : Nat × UInt8 := if k < 54 then (k, 255) else (k - 54, (encL d).getD (k - 54) 0)
/-- A block behind the first k steps. -/
def doN (d : List UInt8) : Nat → List UInt8 → List UInt8
  | 0, b => b
  | k + 1, b => (doN d k b).set (stepA d k).1 (stepA d k).2
theorem doN_len (d : List UInt8) : ∀ (k : Nat) (b : List UInt8), (doN d k b).length = b.length
  | 0, _ => rfl
  | k + 1, b => by rw [doN, List.length_set, doN_len d k b]
theorem stepA_lt (d : List UInt8) (k : Nat) (h : k < 108) : (stepA d k).1 < 54 := by
  unfold stepA; split <;> simp <;> omega
theorem erasedL_at (i : Nat) (h : i < 54) : erasedL.getD i 0 = 255 := by
  unfold erasedL
  rw [List.getD_eq_getElem?_getD, List.getElem?_replicate, if_pos h]; rfl
/-- What a step leaves at place i. -/
theorem doN_at (d : List UInt8) : ∀ (k : Nat) (b : List UInt8) (i : Nat), b.length = 54 → i < 54 → k ≤ 108 → (doN d k b).getD i 0 = if 54 + i < k then (encL d).getD i 0 else if i < k then 255 else b.getD i 0
  | 0, b, i, hb, hi, hk => by rw [if_neg (by omega), if_neg (by omega)]; rfl
  | k + 1, b, i, hb, hi, hk => by
    have ih := doN_at d k b i hb hi (by omega)
    have hl := doN_len d k b
    rw [doN]
    have hset : ∀ (l : List UInt8) (n : Nat) (v : UInt8), n < l.length → (l.set n v).getD i 0 = if n = i then v else l.getD i 0 := fun l n v hn => by
      rw [List.getD_eq_getElem?_getD, List.getElem?_set, List.getD_eq_getElem?_getD]
      by_cases h : n = i
      · subst h; rw [if_pos rfl, if_pos rfl, if_pos hn]; rfl
      · rw [if_neg h, if_neg h]
    rw [hset _ _ _ (by rw [hl, hb]; exact stepA_lt d k (by omega)), ih]
    unfold stepA
    by_cases h54 : k < 54
    · simp only [if_pos h54]
      by_cases he : k = i
      · subst he
        rw [if_pos rfl, if_neg (by omega), if_pos (by omega)]
      · rw [if_neg he]
        by_cases h1 : i < k
        · rw [if_neg (by omega), if_pos h1, if_neg (by omega), if_pos (by omega)]
        · rw [if_neg (by omega), if_neg h1, if_neg (by omega), if_neg (by omega)]
    · simp only [if_neg h54]
      by_cases he : k - 54 = i
      · rw [if_pos he, if_pos (by omega), he]
      · rw [if_neg he]
        by_cases h1 : 54 + i < k
        · rw [if_pos h1, if_pos (by omega)]
        · rw [if_neg h1, if_pos (show i < k by omega), if_neg (show ¬ 54 + i < k + 1 by omega), if_pos (show i < k + 1 by omega)]
theorem ext54 {a b : List UInt8} (ha : a.length = 54) (hb : b.length = 54) (h : ∀ i, i < 54 → a.getD i 0 = b.getD i 0) : a = b := by
  apply List.ext_getElem (by rw [ha, hb])
  intro i h1 h2
  have := h i (by omega)
  rw [List.getD_eq_getElem?_getD, List.getElem?_eq_getElem h1, List.getD_eq_getElem?_getD, List.getElem?_eq_getElem h2] at this
  exact this
theorem doN_wr (d b : List UInt8) (hb : b.length = 54) (hd : d.length ≤ 48) : doN d 108 b = encL d := by
  apply ext54 (by rw [doN_len, hb]) (encL_len d hd)
  intro i hi
  rw [doN_at d 108 b i hb hi (by omega), if_pos (by omega)]
/-- A store behind the first k steps of an operation. -/
def doOp (ls : List (List UInt8)) (o : OpV) (k : Nat) : List (List UInt8) := ls.set o.blk.toNat (doN o.d k (ls.getD o.blk.toNat []))
/-- A store behind some operations. -/
def runL (ls : List (List UInt8)) (os : List OpV) : List (List UInt8) := os.foldl (fun l o => doOp l o (lenO o.er)) ls
/-- A store behind n operations and k steps of the next one. -/
def cutL (ls : List (List UInt8)) (os : List OpV) (n k : Nat) : List (List UInt8) := doOp (runL ls (os.take n)) (os.getD n op0) k
theorem doOp_len (ls : List (List UInt8)) (o : OpV) (k : Nat) : (doOp ls o k).length = ls.length := by unfold doOp; rw [List.length_set]
theorem runL_len (os : List OpV) : ∀ ls : List (List UInt8), (runL ls os).length = ls.length := by
  induction os with
  | nil => intro ls; rfl
  | cons o os ih =>
    intro ls
    show (runL (doOp ls o (lenO o.er)) os).length = _
    rw [ih, doOp_len]
theorem runL_take (ls : List (List UInt8)) (os : List OpV) (j : Nat) (h : j < os.length) : runL ls (os.take (j + 1)) = doOp (runL ls (os.take j)) (os.getD j op0) (lenO (os.getD j op0).er) := by
  unfold runL
  rw [List.take_succ_eq_append_getElem h, List.foldl_append, List.getD_eq_getElem?_getD, List.getElem?_eq_getElem h]
  rfl
/-- All blocks have their size. -/
def All54 (ls : List (List UInt8)) : Prop := ∀ l, l ∈ ls → l.length = 54
theorem All54.getD {ls : List (List UInt8)} (h : All54 ls) (i : Nat) (hi : i < ls.length) : (ls.getD i []).length = 54 := h _ (getD_mem ls i [] hi)
theorem All54.doOp {ls : List (List UInt8)} (h : All54 ls) (o : OpV) (k : Nat) : All54 (doOp ls o k) := by
  intro l hl
  unfold Go.Proofs.YtapefonhgkjgnaaGreat.doOp at hl
  by_cases hi : o.blk.toNat < ls.length
  · rcases List.mem_or_eq_of_mem_set hl with h1 | h1
    · exact h l h1
    · rw [h1, doN_len, h.getD _ hi]
  · rw [List.set_eq_of_length_le (by omega)] at hl
    exact h l hl
theorem All54.runL {ls : List (List UInt8)} (h : All54 ls) (os : List OpV) : All54 (runL ls os) := by
  induction os generalizing ls with
  | nil => exact h
  | cons o os ih => exact ih (h.doOp o _)
theorem vldS_iff (ls : List (List UInt8)) : vldS ls = true ↔ (1 ≤ ls.length ∧ ls.length ≤ 64) ∧ All54 ls := by
  unfold vldS All54 badL
  simp only [Bool.and_eq_true, decide_eq_true_eq, Bool.not_eq_true', List.any_eq_false, bne_iff_ne, ne_eq, Decidable.not_not]
theorem badO_iff (n : Nat) (o : OpV) : badO n o = false ↔ (0 ≤ o.blk ∧ o.blk < (n : Int)) ∧ o.d.length ≤ 48 ∧ (o.er = true → o.d.length = 0) := by
  unfold badO
  simp only [Bool.or_eq_false_iff, decide_eq_false_iff_not, Bool.and_eq_false_iff]
  constructor
  · rintro ⟨⟨⟨h1, h2⟩, h3⟩, h4⟩
    refine ⟨⟨by omega, by omega⟩, by omega, fun h => ?_⟩
    rcases h4 with h4 | h4
    · rw [h] at h4; cases h4
    · omega
  · rintro ⟨⟨h1, h2⟩, h3, h4⟩
    refine ⟨⟨⟨by omega, by omega⟩, by omega⟩, ?_⟩
    cases he : o.er
    · exact .inl rfl
    · right; have := h4 he; omega
theorem vldO_iff (ls : List (List UInt8)) (os : List OpV) : vldO ls os = true ↔ vldS ls = true ∧ ∀ o, o ∈ os → badO ls.length o = false := by
  unfold vldO
  simp only [Bool.and_eq_true, Bool.not_eq_true', List.any_eq_false, Bool.not_eq_true]
end

section
open Go.RowKit

section
variable {P : Program}

/-- THE STATEMENT 'for .. := range g { .. }'. -/
theorem wpIn_rangeB {α : Type} {n : Nat} {g : Operand} {ps : Array Tmp} {assign body : Code} {Q : Exit → Act → World → Prop} {a : Act} {w : World}
    {gf : Nat} {lb : Array Value} (hg : a.eval g = .func (.func gf) #[] lb) (eg : ∀ args w, (callFunc gf args).run P w = .ok (.enter gf args) w)
    {encs : α → Array Value} {len : Nat} {x : Nat → α} {stops : Prop} {T : Nat → Prop} (hT : ∀ b, T b → b < w.heap.size)
    (hseq : Yields (n - 1) P gf lb encs len x stops T w) (hps : ∀ x, (encs x).size = ps.size)
    (I : Nat → List Nat → World → Prop) (Ix : Code → Nat → List Nat → World → Prop) (S0 : List Nat) (hS0 : ∀ b, b ∈ S0 → b < w.heap.size ∧ ¬ T b)
    (hI : ∀ k S A B, I k S A → Turns (fun b => T b ∨ b = w.heap.size ∨ b = w.heap.size + 1) A B → I k S B)
    (hIx : ∀ c k S A B, Ix c k S A → Turns (fun b => T b ∨ b = w.heap.size ∨ b = w.heap.size + 1) A B → Ix c k S B)
    (hend : stops ∨ ∀ S A, I len S A → False)
    (h0 : I 0 S0 w) (Ax : α → Act → World → Prop) (hAx : ∀ x a' A B, Ax x a' A → Turns (fun b => b = w.heap.size + 1) A B → Ax x a' B)
    (hassign : ∀ (x : α) (W : World) (K : Act → World → Prop), w.heap.size + 1 < W.heap.size → (∀ a' W', Turns (fun _ => False) W W' → Ax x a' W' → K a' W') →
      assign.wpIn (Fence.wide.inRound (w.heap.size + 1)) (n - 1 - 1) P (Exit.then K (fun _ _ _ => False)) { tmps := (ps.zip (encs x)).foldl (fun t (p, v) => t.setIfInBounds p v) a.tmps, defers := [] } W)
    (hbody : ∀ (k : Nat) (S : List Nat) (a' : Act) (W : World), k < len → w.heap.size + 1 < W.heap.size → I k S W → Ax (x k) a' W → (∀ b, b ∈ S → b < W.heap.size ∧ b ≠ w.heap.size ∧ b ≠ w.heap.size + 1) → body.wpIn (Fence.wide.inRound (w.heap.size + 1)) (n - 1 - 1) P (roundEnd S I Ix k W) a' W)
    (hdone : ∀ (S : List Nat) (W : World), w.heap.size < W.heap.size → I len S W → W.heap[w.heap.size]? = some (.deferred (some [])) → Q .normal { a with defers := { target := .collected w.heap.size, args := #[] } :: a.defers } W)
    (hstop : ∀ (c : Code) (k : Nat) (S : List Nat) (W : World), k < len → w.heap.size < W.heap.size → Ix c (k + 1) S W → W.heap[w.heap.size]? = some (.deferred (some [])) → c.wpIn Fence.wide n P Q { a with defers := { target := .collected w.heap.size, args := #[] } :: a.defers } W) :
    (Code.rangeFunc g ps assign body).wpIn Fence.wide n P Q a w := by
  refine wpIn_rangeFunc ?_
  intro fn hfn
  obtain ⟨rec, hrec⟩ : ∃ rec : LoopState → Option Code → Loop, rec = fun st pe => { state := st, pending := pe, fn, tmps := a.tmps, params := ps, assign, body, defers := w.heap.size } := ⟨_, rfl⟩
  obtain ⟨W1, hW1⟩ : ∃ W1, (w.alloc (.deferred (some []))).alloc (.loop (rec .ready none)) = W1 := ⟨_, rfl⟩
  have hL1 : W1.heap[w.heap.size + 1]? = some (.loop (rec .ready none)) := by
    rw [← hW1]; have := World.alloc_heap_new (w.alloc (.deferred (some []))) (.loop (rec .ready none)); rwa [World.size_alloc] at this
  have hK1 : W1.heap[w.heap.size]? = some (.deferred (some [])) := by
    rw [← hW1]; exact (Below.heap_alloc _ _ _ (by simp)).trans (World.alloc_heap_new w _)
  have hw1 : ∀ T, Turns T w W1 := fun T => by rw [← hW1]; exact ((Turns.refl T w).alloc _).alloc _
  have hI1 : I 0 S0 W1 := hI _ _ _ _ h0 (hw1 _)
  have hz1 : w.heap.size + 1 < W1.heap.size := by rw [← hW1]; simp
  refine ⟨w.heap.size + 1, [{ target := .collected w.heap.size, args := #[] }], W1, { target := .fn (.func gf) lb, args := #[.func (.yield (w.heap.size + 1)) #[] #[]] }, W1, gf,
    #[.func (.yield (w.heap.size + 1)) #[] #[]] ++ lb, W1, ?_, ?_, ?_, ?_, fun h => by simp [Fence.wide] at h, ?_⟩
  · rw [← hW1, hrec]; exact run_enterLoop_outer _ _ _ _ _
  · simp only [resolve, hg]
    simp [go_sem]
  · intro f' _; trivial
  · simp [invoke, go_sem, eg]
  · have hD : ¬ T w.heap.size := fun e => Nat.lt_irrefl _ (hT _ e)
    have hl : ¬ T (w.heap.size + 1) := fun e => by have := hT _ e; omega
    refine (hseq (w.heap.size + 1)
      (fun k S W => I k S W ∧ (∀ b, b ∈ S → b < W.heap.size ∧ ¬ T b ∧ b ≠ w.heap.size ∧ b ≠ w.heap.size + 1) ∧ W.heap[w.heap.size + 1]? = some (.loop (rec .ready none)) ∧ W.heap[w.heap.size]? = some (.deferred (some [])))
      (fun k S W => ∃ c, Ix c k S W ∧ W.heap[w.heap.size + 1]? = some (.loop (rec .done (some c))) ∧ W.heap[w.heap.size]? = some (.deferred (some [])))
      S0 W1 (hw1 _) (by omega) hz1 ?_ ?_ (fun k S A h b hb => ⟨(h.2.1 b hb).1, (h.2.1 b hb).2.1⟩) (hend.imp id (fun h S A hh => h S A hh.1)) ?_ ⟨hI1, fun b hb => ?_, hL1, hK1⟩).mono ?_
    · rintro k S A B ⟨h1, h2, h3, h4⟩ ht
      exact ⟨hI _ _ _ _ h1 (ht.mono fun i _ h => .inl h), fun b hb => ⟨Nat.lt_of_lt_of_le (h2 b hb).1 ht.size, (h2 b hb).2⟩, ht.obj hl h3, ht.obj hD h4⟩
    · rintro k S A B ⟨c, h1, h3, h4⟩ ht
      exact ⟨c, hIx _ _ _ _ _ h1 (ht.mono fun i _ h => .inl h), ht.obj hl h3, ht.obj hD h4⟩
    · -- one round
      rintro k S W hk ⟨hi, hS, hl1, hk1⟩
      have hlt : w.heap.size + 1 < W.heap.size := (Array.getElem?_eq_some_iff.1 hl1).1
      have hy := run_yield (P := P) (args := encs (x k)) hl1 (by rw [hrec]; exact hps _)
      rw [hrec] at hy
      refine ⟨fn, _, assign, body, hy, roundIn_of_wpIn hfn (hassign _ W _ hlt fun a' Wa hta hax => ?_)⟩
      have hla := hta.obj (fun e => e) hl1
      have hka := hta.obj (fun e => e) hk1
      have hlta : w.heap.size + 1 < Wa.heap.size := Nat.lt_of_lt_of_le hlt hta.size
      have hza := hta.size
      have hia := hI _ _ _ _ hi (hta.mono (fun _ _ h => h.elim))
      refine ⟨_, run_beginRound hla (by rw [hrec]), ?_⟩
      obtain ⟨Wb, hWb⟩ : ∃ Wb, Wa.putObj (w.heap.size + 1) (.loop { rec .ready none with state := .busy }) = Wb := ⟨_, rfl⟩
      have hl2 : Wb.heap[w.heap.size + 1]? = some (.loop { rec .ready none with state := .busy }) := by rw [← hWb]; exact World.putObj_heap_same hlta
      have hk2 : Wb.heap[w.heap.size]? = some (.deferred (some [])) := by rw [← hWb]; exact (World.putObj_heap_other (by omega)).trans hka
      have hzb : Wb.heap.size = Wa.heap.size := by rw [← hWb]; simp
      have hwb : ∀ T : Nat → Prop, T (w.heap.size + 1) → Turns T Wa Wb := fun T ht => by rw [← hWb]; exact (Turns.refl _ _).putObj (fun _ => ht) _
      rw [hWb]
      refine wpIn_mono (hbody k S a' Wb hk (by omega) (hI _ _ _ _ hia (hwb _ (.inr (.inr rfl)))) (hAx _ _ _ _ hax (hwb _ rfl)) (fun b hb => ⟨by rw [hzb]; exact Nat.lt_of_lt_of_le (hS b hb).1 hza, (hS b hb).2.2⟩)) ?_
      have fin : ∀ (jump : Option Code) (S' : List Nat) (W3 : World), (∀ b, b ∈ S' → b < W3.heap.size ∧ (b ∈ S ∨ Wb.heap.size ≤ b)) → Turns (fun b => b ∈ S) Wb W3 →
          (Instr.endRound (w.heap.size + 1) jump).run P W3 = .ok (.bool jump.isNone) (W3.putObj (w.heap.size + 1) (.loop (rec (if jump.isNone then .ready else .done) jump))) ∧
          (W3.putObj (w.heap.size + 1) (.loop (rec (if jump.isNone then .ready else .done) jump))).heap[w.heap.size + 1]? = some (.loop (rec (if jump.isNone then .ready else .done) jump)) ∧
          (W3.putObj (w.heap.size + 1) (.loop (rec (if jump.isNone then .ready else .done) jump))).heap[w.heap.size]? = some (.deferred (some [])) ∧
          Turns (fun b => b ∈ S ∨ b = w.heap.size + 1) W (W3.putObj (w.heap.size + 1) (.loop (rec (if jump.isNone then .ready else .done) jump))) ∧
          (∀ b, b ∈ S' → b ∈ S ∨ W.heap.size ≤ b) ∧ (∀ b, b ∈ S' → b < W3.heap.size ∧ ¬ T b ∧ b ≠ w.heap.size ∧ b ≠ w.heap.size + 1) ∧
          Turns (fun b => T b ∨ b = w.heap.size ∨ b = w.heap.size + 1) W3 (W3.putObj (w.heap.size + 1) (.loop (rec (if jump.isNone then .ready else .done) jump))) := fun jump S' W3 hS' ht3 => by
        have hl3 := ht3.obj (fun e => (hS _ e).2.2.2 rfl) hl2
        have := run_endRound (P := P) jump hl3
        rw [hrec] at this ⊢
        refine ⟨this, World.putObj_heap_same (Array.getElem?_eq_some_iff.1 hl3).1, (World.putObj_heap_other (by omega)).trans (ht3.obj (fun e => (hS _ e).2.2.1 rfl) hk2), ?_, fun b hb => ?_, fun b hb => ?_, (Turns.refl _ _).putObj (fun _ => .inr (.inr rfl)) _⟩
        · exact (((hta.mono (fun _ _ h => h.elim)).trans (hwb _ (.inr rfl))).trans (ht3.mono fun i _ h => .inl h)).putObj (fun _ => .inr rfl) _
        · rcases (hS' b hb).2 with h | h
          · exact .inl h
          · exact .inr (by omega)
        · refine ⟨(hS' b hb).1, ?_⟩
          rcases (hS' b hb).2 with h | h
          · exact (hS b h).2
          · exact ⟨fun e => by have := hT _ e; omega, by omega, by omega⟩
      rintro e a3 W3 hp
      cases e with
      | normal =>
        obtain ⟨S', hS', ht3, hi3⟩ := hp
        obtain ⟨hr, hl4, hk4, ht4, hs4, hs5, ht5⟩ := fin none S' W3 hS' ht3
        exact ⟨_, _, hr, S', hs4, ht4, .inl ⟨rfl, hI _ _ _ _ hi3 ht5, fun b hb => by simpa using hs5 b hb, hl4, hk4⟩⟩
      | ret =>
        obtain ⟨S', hS', ht3, hi3⟩ := hp
        obtain ⟨hr, hl4, hk4, ht4, hs4, hs5, ht5⟩ := fin (some .ret) S' W3 hS' ht3
        exact ⟨_, _, hr, S', hs4, ht4, .inr ⟨rfl, .ret, hIx _ _ _ _ _ hi3 ht5, hl4, hk4⟩⟩
      | exit id =>
        obtain ⟨S', hS', ht3, hi3⟩ := hp
        obtain ⟨hr, hl4, hk4, ht4, hs4, hs5, ht5⟩ := fin (some (.exit id)) S' W3 hS' ht3
        exact ⟨_, _, hr, S', hs4, ht4, .inr ⟨rfl, .exit id, hIx _ _ _ _ _ hi3 ht5, hl4, hk4⟩⟩
      | goto t =>
        obtain ⟨S', hS', ht3, hi3⟩ := hp
        obtain ⟨hr, hl4, hk4, ht4, hs4, hs5, ht5⟩ := fin (some (.goto t)) S' W3 hS' ht3
        exact ⟨_, _, hr, S', hs4, ht4, .inr ⟨rfl, .goto t, hIx _ _ _ _ _ hi3 ht5, hl4, hk4⟩⟩
      | panic ch => exact hp.elim
      | outgrown => exact hp.elim
    · have := hS0 b hb
      exact ⟨by omega, this.2, by omega, by omega⟩
    · -- behind the iterator
      rintro e W2 ⟨⟨v, rfl⟩, (⟨S, hi, _, hl, hk⟩ | ⟨k, S, hkl, c, hi, hl, hk⟩)⟩
      · have hz := (Array.getElem?_eq_some_iff.1 hk).1
        exact ⟨none, _, by have := run_endLoop (P := P) hl (by rw [hrec]; simp); rw [hrec] at this; exact this, hdone S _ (by simpa using hz) (hI _ _ _ _ hi ((Turns.refl _ _).putObj (fun _ => .inr (.inr rfl)) _)) ((World.putObj_heap_other (by omega)).trans hk)⟩
      · have hz := (Array.getElem?_eq_some_iff.1 hk).1
        exact ⟨some c, _, by have := run_endLoop (P := P) hl (by rw [hrec]; simp); rw [hrec] at this; exact this, hstop c k S _ hkl (by simpa using hz) (hIx _ _ _ _ _ hi ((Turns.refl _ _).putObj (fun _ => .inr (.inr rfl)) _)) ((World.putObj_heap_other (by omega)).trans hk)⟩


/-- The marks D lie in the world: blocks of rounds without deferred calls. -/
def MarksIn (D : List Nat) (W : World) : Prop := D.Nodup ∧ ∀ d, d ∈ D → W.heap[d]? = some (.deferred (some []))
def marksOf (D : List Nat) : List Deferred := D.map fun d => { target := .collected d, args := #[] }
theorem MarksIn.turn {D : List Nat} {W W' : World} {T : Nat → Prop} (h : MarksIn D W) (ht : Turns T W W') (hT : ∀ d, d ∈ D → ¬ T d) : MarksIn D W' := ⟨h.1, fun d hd => ht.obj (hT d hd) (h.2 d hd)⟩
theorem MarksIn.lt {D : List Nat} {W : World} (h : MarksIn D W) {d : Nat} (hd : d ∈ D) : d < W.heap.size := (Array.getElem?_eq_some_iff.1 (h.2 d hd)).1
theorem MarksIn.nil (W : World) : MarksIn [] W := ⟨List.nodup_nil, fun d hd => by simp at hd⟩
theorem MarksIn.cons {D : List Nat} {W : World} {d : Nat} (h : MarksIn D W) (hd : W.heap[d]? = some (.deferred (some []))) (hn : d ∉ D) : MarksIn (d :: D) W :=
  ⟨List.nodup_cons.2 ⟨hn, h.1⟩, fun e he => by rcases List.mem_cons.1 he with rfl | he; exact hd; exact h.2 e he⟩
/-- A block of cells is no mark. -/
theorem MarksIn.not_cells {D : List Nat} {W : World} (h : MarksIn D W) {d : Nat} (hd : d ∈ D) {v : Value} {o : Nat} (hc : W.cell? ⟨d, o, none⟩ = some v) : False := by
  unfold World.cell? at hc
  rw [h.2 d hd] at hc
  cases hc
theorem leaves_marks {n : Nat} {fn : Func} {R : Ending → World → Prop} {tmps : Array Value} (v : Value) : ∀ (D : List Nat) (W : World), MarksIn D W →
    (∀ W', Turns (fun b => b ∈ D) W W' → (results fn tmps).run P W' = .ok v W' ∧ R (.returned v) W') → LeavesInM Fence.wide n P fn tmps R (marksOf D) .returning W
  | [], W, _, h => ⟨v, (h W (Turns.refl _ _)).1, (h W (Turns.refl _ _)).2⟩
  | d :: D, W, hm, h => by
    have hd := hm.2 d List.mem_cons_self
    have hnd := List.nodup_cons.1 hm.1
    have ht : Turns (fun b => b = d) W (W.putObj d (.deferred none)) := (Turns.refl (fun b => b = d) W).putObj (fun _ => rfl) _
    refine ⟨by simp, .inl ⟨d, _, rfl, run_takeDeferred hd, ?_⟩⟩
    exact leaves_marks v D _ ⟨hnd.2, fun e he => ht.obj (fun e2 => hnd.1 (by subst e2; exact he)) (hm.2 e (List.mem_cons_of_mem _ he))⟩ (fun W' ht' => h W' ((ht.mono (fun i _ e => by subst e; exact List.mem_cons_self)).trans (ht'.mono (fun i _ e => List.mem_cons_of_mem _ e))))
/-- A function that ranged over functions some times returns: all its marks are taken up. -/
theorem ret_marks {n : Nat} {fn : Func} {R : Ending → World → Prop} {tmps : Array Value} {D : List Nat} {W : World} (v : Value) (hm : MarksIn D W)
    (h : ∀ W', Turns (fun b => b ∈ D) W W' → (results fn tmps).run P W' = .ok v W' ∧ R (.returned v) W') :
    bodyPostM Fence.wide n P fn R .ret { tmps := tmps, defers := marksOf D } W := leaves_marks v D W hm h

end
end

section
open Go.RowKit

theorem OwnsR.whole (B g : Nat) (w : World) (rs : List Rw) (C : Array Value) (hC : C = (rs.map encR).toArray) (hB : B ≤ w.heap.size) (hg : w.heap.size = g) (hl : rs.length ≤ 100000) : OwnsR B (w.alloc (.cells C 22)) (some ⟨g, 0, none⟩) rs.length rs := by
  subst hg hC
  have hm : rs.length ≤ maxLen := by unfold maxLen; omega
  exact ⟨by simp, .inr ⟨w.heap.size, rs.length, (rs.map encR).toArray, rfl, hB, heap_alloc_new w _, Nat.le_refl _, hm, by simp, by simp [List.take_of_length_le]⟩⟩
section
variable {w : World} {o : Oper} {a : Act} {Q : Exit → Act → World → Prop} {n : Nat}
/-- append of one slice to a full row: a new row. -/
theorem wpListIn_appR_full {ops : Array Oper} {rest : List Oper} (hg : o.guard = none) (s x : Operand) (ho : o.op = .call { callee := .builtin .append, args := #[s, x], argTypes := #[31, 31] })
    {ga cap : Nat} {rs : List Rw} (hown : CellsR w (some ⟨ga, 0, none⟩) rs) (hs : a.eval s = .slice (some ⟨ga, 0, none⟩) rs.length cap) (hf : cap < rs.length + 1)
    {ad : Addr} {u : Rw} {c : Nat} (hx : a.eval x = .slice (some ad) 1 c) (hy : w.cell? (ad.add 0) = some (encR u)) (hl : rs.length ≤ 100000)
    (h : ∀ x' cap' w', OwnsR w.heap.size w' x' cap' (rs ++ [u]) → Turns (fun _ => False) w w' → wpListIn Fence.wide n Tryz.prog ops Q rest (a.put o.dst (.slice x' (rs ++ [u]).length cap')) w') : wpListIn Fence.wide n Tryz.prog ops Q (o :: rest) a w := by
  obtain ⟨i0, hi, hz0, hz1, hz2⟩ := info_parts infoSl
  obtain ⟨v', w', hrun, r1, r2⟩ := run_append_arg_grows (P := Tryz.prog) w 31 o.type 22 i0 (.slice none 0 0) 1 24 Tryz.underlying31 hi hz0 hz1 hz2 rfl (by decide) ⟨ga, 0, none⟩ rs.length cap (rs.map encR) (by simp) (fun j v hj => by
    rcases hown with h | ⟨b, o, hx, hc⟩
    · subst h; simp at hj
    · cases hx
      have hjl : j < rs.length := by
        rcases Nat.lt_or_ge j rs.length with h | h
        · exact h
        · simp [List.getElem?_eq_none h] at hj
      have hplain : (⟨ga, 0, none⟩ : Addr).add j = ⟨ga, 0 + j, none⟩ := by unfold Addr.add; split <;> simp_all
      rw [hplain, hc j hjl]
      simp [List.getElem?_eq_getElem hjl] at hj
      simp [List.getElem?_eq_getElem hjl, hj]) ad 1 c [encR u] (by simp) (fun j v hj => by
    match j, hj with
    | 0, hj => simp at hj; subst hj; exact hy
    | j + 1, hj => simp at hj) hf (by unfold maxLen; omega) (by omega)
  obtain ⟨x', cap', rfl⟩ := owns_form r1
  have hlen : rs.length + 1 = (rs ++ [u]).length := by simp
  have hmp : rs.map encR ++ [encR u] = (rs ++ [u]).map encR := by simp
  rw [hlen, hmp] at r1
  rw [hlen] at hrun
  have hK := h x' cap' w' r1 (Turns.of_grownBy r2 (fun b e => by cases e))
  exact wpListIn_plain hg fun K hK' => op_inW (by
    unfold Oper.wp
    simp [execOp, ho, resolve, invoke, builtin, hs, hx, hrun, Result.andThen]
    have := hK' _ _ hK
    rw [List.length_append] at this
    exact this)
end
def PhRel (np N0 N1 : Nat) (W2 : World) (J : Nat → List Nat → World → Prop) (u : Value) (wr : World) : Prop :=
  ∃ (p : Nat) (S : List Nat), p ≤ np ∧ u = .int .i64 (p : Int) ∧ J (54 * p) S wr ∧ (∀ b, b ∈ S → b < N0 ∨ N1 ≤ b) ∧ Turns (fun b => b < N0 ∨ N1 ≤ b) W2 wr
theorem Bts.cell0 {w : World} {g : Nat} {l : List UInt8} (h : Bts w (some ⟨g, 0, none⟩) l) (i : Nat) (hi : i < l.length) : w.cell? ⟨g, i, none⟩ = some (.int .u8 ((l.getD i 0).toNat : Int)) := by
  rcases h with h | ⟨b, o, hx, hc⟩
  · subst h; simp at hi
  · cases hx
    have := hc i hi
    rwa [Nat.zero_add] at this
def InRel54 (q N0 N1 : Nat) (W2 : World) (J : Nat → List Nat → World → Prop) (u : Value) (wr : World) : Prop :=
  ∃ (i : Nat) (S : List Nat), i ≤ 54 ∧ u = .int .i64 (i : Int) ∧ J (q + i) S wr ∧ (∀ b, b ∈ S → b < N0 ∨ N1 ≤ b) ∧ Turns (fun b => b < N0 ∨ N1 ≤ b) W2 wr
set_option maxHeartbeats 1000000 in
theorem steps_any (o : OpV) (w : World) : Calls Tryz.prog 90 #[.agg #[.int .i64 o.blk, .bool o.er, .slice o.x o.d.length o.c]] w fun e w' => ∃ g, e = .returned (.func (.func 107) #[] #[.pointer (some ⟨g, 0, none⟩)]) ∧ g = w.heap.size ∧ w' = w.alloc (.cells #[.int .i64 o.blk, .bool o.er, .slice o.x o.d.length o.c] 60) := by
  go_enter Tryz.func90, Tryz.ntmps90
  go_wp2_with fail
  go_ret
  exact ⟨_, rfl, rfl, rfl⟩
set_option maxRecDepth 100000 in
set_option maxHeartbeats 2000000 in
theorem steps_er (n : Nat) (hn : 1 ≤ n) (bo : Nat) (d : List UInt8) (w : World) (h1 : w.cell? ⟨bo, 1, none⟩ = some (.bool true)) :
    Yields n Tryz.prog 107 #[.pointer (some ⟨bo, 0, none⟩)] (fun s : Nat × UInt8 => #[.agg #[.int .i64 (s.1 : Int), .int .u8 (s.2.toNat : Int)]]) 54 (stepA d) True (fun _ => False) w := by
  intro l J Jx S0 W hW hl0 hl hJ hJx hS hst hY hj0
  have k1 := hW.cell (fun e => e) h1
  obtain ⟨N0, hN0⟩ : ∃ N, W.heap.size = N := ⟨_, rfl⟩
  have hS0 : ∀ b, b ∈ S0 → b < N0 := fun b hb => by have := (hS 0 S0 W hj0 b hb).1; omega
  have hlN : l < N0 := by omega
  clear h1 hst
  refine callsIn_of_wp Tryz.func107 rfl trivial ?_ rfl
  simp only [Tryz.ntmps107, List.size_toArray, List.length_cons, List.length_nil, Nat.reduceAdd, Nat.reduceSub, Array.replicate_succ, Array.replicate_zero, List.push_toArray, List.append_toArray, List.nil_append, List.cons_append]
  gi_wp2_with (refine ⟨trivial, ?_⟩; gi_at_call 51; refine (callsIn_wide.2 (erased_any _)).mono ?_; rintro e w1 ⟨ge, rfl, hge, hgz, hbe, hshe, hb⟩; have k1b := later_lt hb (World.block_lt_of_cell? _ _ k1) k1; refine Hid.out ?_)
  unfold Hid
  have hsz1 := hb.size
  have hk1 : (w1.alloc (.cells #[.slice (some ⟨ge, 0, none⟩) 54 54] 22)).cell? ⟨bo, 1, none⟩ = some (.bool true) := later (al (Below.refl _ w1) _) k1b
  have hj1 := hJ _ _ _ _ hj0 (Turns.of_below hb (Nat.le_refl _))
  obtain ⟨W2, hW2⟩ : ∃ W2, w1.alloc (.cells #[.slice (some ⟨ge, 0, none⟩) 54 54] 22) = W2 := ⟨_, rfl⟩
  have hz2' : W2.heap.size = w1.heap.size + 1 := by rw [← hW2]; simp
  obtain ⟨gp, hgp⟩ : ∃ g, w1.heap.size = g := ⟨_, rfl⟩
  obtain ⟨N1, hN1⟩ : ∃ N, W2.heap.size = N := ⟨_, rfl⟩
  have hz2 : N1 ≤ W2.heap.size := by omega
  have hg1 : N0 ≤ gp := by omega
  have hg2 : gp < N1 := by omega
  have hbt2 : Below w1.heap.size w1 W2 := by rw [← hW2]; exact al (Below.refl _ w1) _
  obtain ⟨ph, hph⟩ : ∃ ph : List Rw, [⟨some ⟨ge, 0, none⟩, 54, erasedL⟩] = ph := ⟨_, rfl⟩
  have HJ3 : Hid (J (54 * 0) S0 W2) := hJ _ _ _ _ hj1 (Turns.of_below hbt2 (Nat.le_refl _))
  have HCE : Hid (∀ p, p < 1 → W2.cell? ⟨gp, p, none⟩ = some (encR (ph.getD p rw0))) := fun p hp => by
    obtain rfl : p = 0 := by omega
    rw [← hph, ← hW2, ← hgp]
    exact cell_new w1 _ _ _ 0
  have HPH : Hid (∀ p, p < 1 → ∃ gr, (ph.getD p rw0).x = some ⟨gr, 0, none⟩ ∧ N0 ≤ gr ∧ gr < N1 ∧ (ph.getD p rw0).l.length = 54 ∧ Bts W2 (some ⟨gr, 0, none⟩) (ph.getD p rw0).l) := fun p hp => by
    obtain rfl : p = 0 := by omega
    rw [← hph]
    exact ⟨ge, rfl, by omega, by omega, erasedL_len, hbe.later hbt2⟩
  have HST : Hid (∀ p i, p < 1 → i < 54 → stepA d (54 * p + i) = (i, (ph.getD p rw0).l.getD i 0)) := fun p i hp hi => by
    obtain rfl : p = 0 := by omega
    rw [← hph]
    unfold stepA
    rw [if_pos (by omega)]
    show _ = (i, erasedL.getD i 0)
    rw [erasedL_at i hi, Nat.mul_zero, Nat.zero_add]
  have hmid : ∀ b, N0 ≤ b → b < N1 → ¬ (b < N0 ∨ N1 ≤ b) := fun b h1 h2 h => by omega
  clear hj0 hj1 hbe hshe hb k1 k1b hbt2 hph hge hgz hsz1 hz2' hN1 hW hJ hl0 hl hN0 hS
  rw [hW2] at hk1
  gi_wp2_with fail
  clear hW2 hgp hk1

  gi_wp2_with fail
  gi_loopw [27] (fun u27 wr => PhRel 1 N0 N1 W2 J u27 wr) (fun u27 _ => 1 - (intOf u27).toNat)
  case atStart => exact ⟨0, S0, by omega, rfl, HJ3.out, fun b hb => .inl (hS0 b hb), Turns.refl _ _⟩
  case round =>
    obtain ⟨p, S, hp, rfl, hj, hs, ht⟩ := hrel
    by_cases hlt : p < 1
    · have d1 : decide ((p : Int) < 1) = true := by simp; omega
      obtain ⟨gr, hrx, hr1, hr2, hrl, hrb⟩ := HPH.out p hlt
      have hcp : wr.cell? ⟨gp, p, none⟩ = some (encR (ph.getD p rw0)) := ht.cell (hmid gp hg1 hg2) (HCE.out p hlt)
      obtain ⟨r, hrv⟩ : ∃ r, ph.getD p rw0 = r := ⟨_, rfl⟩
      have hstp : ∀ i, i < 54 → stepA d (54 * p + i) = (i, r.l.getD i 0) := fun i hi => by rw [← hrv]; exact HST.out p i hlt hi
      rw [hrv] at hrx hrl hcp hrb
      have hcp' : wr.cell? ⟨gp, p, none⟩ = some (.slice (some ⟨gr, 0, none⟩) 54 r.c) := by rw [hcp]; unfold encR; rw [hrx, hrl]
      have HRL := Lib.hid hrl
      have HSTP := Lib.hid hstp
      have HRB := Lib.hid hrb
      clear hcp hrv hrb hrl hrx hstp
      gi_wp2_with fail
      obtain ⟨wo, rfl⟩ : ∃ wo : World, wo = wr := ⟨_, rfl⟩
      gi_loopw [33] (fun u33 wi => InRel54 (54 * p) N0 N1 W2 J u33 wi) (fun u33 _ => 54 - (intOf u33).toNat)
      case atStart => exact ⟨0, S, by omega, rfl, hj, hs, ht⟩
      case round =>
        clear hj hs ht hcp'
        obtain ⟨i, S, hi, rfl, hj, hs, ht⟩ := hrel
        by_cases hit : i < 54
        · have e1 : decide ((i : Int) < 54) = true := by simp; omega
          have hri : wr.cell? ⟨gr, i, none⟩ = some (.int .u8 ((r.l.getD i 0).toNat : Int)) := ht.cell (hmid gr hr1 hr2) (HRB.out.cell0 i (by rw [HRL.out]; omega))
          obtain ⟨v, hv⟩ : ∃ v, r.l.getD i 0 = v := ⟨_, rfl⟩
          have hst := HSTP.out i hit
          rw [hv] at hst hri
          obtain ⟨fn, tmps, assign, body, hyy, hR⟩ := hY (54 * p + i) S wr (by omega) hj
          rw [hst] at hyy
          dsimp only at hyy
          clear hj hst hv
          gi_wp2_with fail
          refine hR.mono ?_
          have hs' : ∀ b, ¬ (b < N0 ∨ N1 ≤ b) → ¬ (b ∈ S ∨ b = l) := fun b hb h => by
            rcases h with h | h
            · exact hb (hs b h)
            · subst h; exact hb (.inl hlN)
          have hszw : N1 ≤ wr.heap.size := Nat.le_trans hz2 ht.size
          rintro e W' ⟨S', hs1, htt, (⟨rfl, hj3⟩ | ⟨rfl, hj3⟩)⟩
          · have hsn : ∀ b, b ∈ S' → b < N0 ∨ N1 ≤ b := fun b hb => by
              rcases hs1 b hb with h | h
              · exact hs b h
              · exact .inr (by omega)
            have htn : Turns (fun b => b < N0 ∨ N1 ≤ b) W2 W' := ht.trans (htt.mono (fun b _ h => Decidable.byContradiction fun hc => hs' b hc h))
            have HJ4 := Lib.hid hj3
            clear hyy hR hri hs ht htt hs1 hs' hj3
            gi_wp2_with fail
            go_roundw
            case rel => exact ⟨i + 1, S', by omega, by go_num, HJ4.out, hsn, htn⟩
            case measure => simp [intOf]; omega
          · clear hyy hR hri
            gi_wp2_with fail
            refine bodyPost_ret (results_none rfl _ _ _) rfl ?_
            exact ⟨⟨_, rfl⟩, .inr ⟨_, S', by omega, hj3⟩⟩
        · obtain rfl : i = 54 := by omega
          have HJ4 : Hid (J (54 * (p + 1)) S wr) := hj
          clear hj
          gi_wp2_with fail
          go_roundw
          case rel => exact ⟨p + 1, S, by omega, by go_num, HJ4.out, hs, ht⟩
          case measure => simp [intOf]; omega
    · obtain rfl : p = 1 := by omega
      gi_wp2_with fail
      go_end0
      exact ⟨⟨_, rfl⟩, .inl ⟨_, hj⟩⟩
end

section
open Go.RowKit

set_option maxRecDepth 100000 in
set_option maxHeartbeats 2000000 in
theorem steps_wr (n : Nat) (hn : 1 ≤ n) (bo : Nat) (x : Option Addr) (d : List UInt8) (c : Nat) (w : World) (h1 : w.cell? ⟨bo, 1, none⟩ = some (.bool false)) (h2 : w.cell? ⟨bo, 2, none⟩ = some (.slice x d.length c)) (hx : Bts w x d) (hxn : x = none → c = 0) (hd : d.length ≤ 48) :
    Yields n Tryz.prog 107 #[.pointer (some ⟨bo, 0, none⟩)] (fun s : Nat × UInt8 => #[.agg #[.int .i64 (s.1 : Int), .int .u8 (s.2.toNat : Int)]]) 108 (stepA d) True (fun _ => False) w := by
  intro l J Jx S0 W hW hl0 hl hJ hJx hS hst hY hj0
  have k1 := hW.cell (fun e => e) h1
  have k2 := hW.cell (fun e => e) h2
  have kx := hx.turn hW (fun _ _ e => e)
  obtain ⟨N0, hN0⟩ : ∃ N, W.heap.size = N := ⟨_, rfl⟩
  have hS0 : ∀ b, b ∈ S0 → b < N0 := fun b hb => by have := (hS 0 S0 W hj0 b hb).1; omega
  have hlN : l < N0 := by omega
  clear h1 h2 hst hx
  refine callsIn_of_wp Tryz.func107 rfl trivial ?_ rfl
  simp only [Tryz.ntmps107, List.size_toArray, List.length_cons, List.length_nil, Nat.reduceAdd, Nat.reduceSub, Array.replicate_succ, Array.replicate_zero, List.push_toArray, List.append_toArray, List.nil_append, List.cons_append]
  gi_wp2_with (refine ⟨trivial, ?_⟩; gi_at_call 51; refine (callsIn_wide.2 (erased_any _)).mono ?_; rintro e w1 ⟨ge, rfl, hge, hgz, hbe, hshe, hb⟩; have k1b := later_lt hb (World.block_lt_of_cell? _ _ k1) k1; have k2b := later_lt hb (World.block_lt_of_cell? _ _ k2) k2; refine Hid.out ?_)
  unfold Hid
  have hsz1 := hb.size
  have kxb := kx.later hb
  have hk1 : (w1.alloc (.cells #[.slice (some ⟨ge, 0, none⟩) 54 54] 22)).cell? ⟨bo, 1, none⟩ = some (.bool false) := later (al (Below.refl _ w1) _) k1b
  have hk2 : (w1.alloc (.cells #[.slice (some ⟨ge, 0, none⟩) 54 54] 22)).cell? ⟨bo, 2, none⟩ = some (.slice x d.length c) := later (al (Below.refl _ w1) _) k2b
  have hkx : Bts (w1.alloc (.cells #[.slice (some ⟨ge, 0, none⟩) 54 54] 22)) x d := kxb.later (al (Below.refl _ w1) _)
  have hj1 := hJ _ _ _ _ hj0 (Turns.of_below hb (Nat.le_refl _))
  obtain ⟨Wa, hWa⟩ : ∃ W2, w1.alloc (.cells #[.slice (some ⟨ge, 0, none⟩) 54 54] 22) = W2 := ⟨_, rfl⟩
  have hza : Wa.heap.size = w1.heap.size + 1 := by rw [← hWa]; simp
  have hba : Below w1.heap.size w1 Wa := by rw [← hWa]; exact al (Below.refl _ w1) _
  have hoa : OwnsR N0 Wa (some ⟨w1.heap.size, 0, none⟩) 1 [⟨some ⟨ge, 0, none⟩, 54, erasedL⟩] := by rw [← hWa]; exact OwnsR.whole N0 w1.heap.size w1 _ _ rfl (by omega) rfl (by simp)
  have hjA := hJ _ _ _ _ hj1 (Turns.of_below hba (Nat.le_refl _))
  have hbeA := hbe.later hba
  obtain ⟨ga, hga⟩ : ∃ g, w1.heap.size = g := ⟨_, rfl⟩
  rw [hga] at hoa
  clear hj0 hj1 hbe hb k1 k1b k2 k2b kx kxb hba
  rw [hWa] at hk1 hk2 hkx
  gi_wp2_with (refine ⟨trivial, ?_⟩; gi_at_call 108; refine (callsIn_wide.2 (encode_yes x d c _ hkx hxn hd)).mono ?_; rintro e w2 ⟨xe, ce, rfl, ho, hb⟩; refine Hid.out ?_)
  unfold Hid
  have hzb := hb.size
  have hbeB := hbeA.later hb
  have hoaB : OwnsR N0 w2 (some ⟨ga, 0, none⟩) 1 [⟨some ⟨ge, 0, none⟩, 54, erasedL⟩] := hoa.turn (Turns.of_below hb (Nat.le_refl _)) (fun _ _ h => h)
  have hjB := hJ _ _ _ _ hjA (Turns.of_below hb (Nat.le_refl _))
  obtain ⟨gx, rfl⟩ := ho.some_of (by rw [encL_len d hd]; omega)
  have hgx := ho.low gx rfl
  have hEL := encL_len d hd
  have hoaC : ∀ ob, OwnsR N0 (w2.alloc ob) (some ⟨ga, 0, none⟩) 1 [⟨some ⟨ge, 0, none⟩, 54, erasedL⟩] := fun ob => hoaB.turn ((Turns.refl (fun _ => False) w2).alloc ob) (fun _ _ h => h)
  obtain ⟨r2, hr2⟩ : ∃ r : Rw, (⟨some ⟨gx, 0, none⟩, ce, encL d⟩ : Rw) = r := ⟨_, rfl⟩
  have hy2 : (w2.alloc (.cells #[.slice (some ⟨gx, 0, none⟩) 54 ce] 22)).cell? ⟨w2.heap.size, 0, none⟩ = some (encR r2) := by
    rw [cell_new, ← hr2]
    unfold encR
    rw [hEL]; rfl
  have hbx := ho.bts
  clear hoaB hoa hjA hbeA hWa hga hEL ho
  gi_wp2_with (gi_at_builtin; refine wpListIn_appR_full rfl _ _ rfl (rs := [⟨some ⟨ge, 0, none⟩, 54, erasedL⟩]) (OwnsR.cellsR (hoaC _)) rfl (by simp) (ad := ⟨w2.heap.size, 0, none⟩) (u := r2) rfl hy2 (by simp) ?_; intro x' cap' W2 h1 h2; refine Hid.out ?_)
  unfold Hid
  have h2s := h2.size
  have h2a : Turns (fun _ => False) w2 W2 := ((Turns.refl (fun _ => False) w2).alloc _).trans h2
  obtain ⟨gp, rfl⟩ := h1.some_of (by simp)
  have hgp := h1.low gp rfl
  rw [World.size_alloc] at h2s hgp
  obtain ⟨N1, hN1⟩ : ∃ N, W2.heap.size = N := ⟨_, rfl⟩
  have hz2 : N1 ≤ W2.heap.size := by omega
  have hg1 : N0 ≤ gp := by omega
  have hg2 : gp < N1 := by omega
  obtain ⟨ph, hph⟩ : ∃ ph : List Rw, [⟨some ⟨ge, 0, none⟩, 54, erasedL⟩] ++ [r2] = ph := ⟨_, rfl⟩
  rw [hph] at h1
  have HJ3 : Hid (J (54 * 0) S0 W2) := hJ _ _ _ _ hjB h2a
  have HCE : Hid (∀ p, p < 2 → W2.cell? ⟨gp, p, none⟩ = some (encR (ph.getD p rw0))) := fun p hp => by
    have hlen : ph.length = 2 := by rw [← hph]; rfl
    rcases h1.cellsR with h | ⟨b, o, hx, hc⟩
    · rw [h] at hlen; cases hlen
    · cases hx
      have := hc p (by omega)
      rwa [Nat.zero_add] at this
  have HPH : Hid (∀ p, p < 2 → ∃ gr, (ph.getD p rw0).x = some ⟨gr, 0, none⟩ ∧ N0 ≤ gr ∧ gr < N1 ∧ (ph.getD p rw0).l.length = 54 ∧ Bts W2 (some ⟨gr, 0, none⟩) (ph.getD p rw0).l) := fun p hp => by
    rw [← hph, ← hr2]
    rcases (by omega : p = 0 ∨ p = 1) with rfl | rfl
    · exact ⟨ge, rfl, by omega, by omega, erasedL_len, hbeB.turn h2a (fun _ _ h => h)⟩
    · exact ⟨gx, rfl, by omega, by omega, encL_len d hd, hbx.turn h2a (fun _ _ h => h)⟩
  have HST : Hid (∀ p i, p < 2 → i < 54 → stepA d (54 * p + i) = (i, (ph.getD p rw0).l.getD i 0)) := fun p i hp hi => by
    rw [← hph, ← hr2]
    unfold stepA
    rcases (by omega : p = 0 ∨ p = 1) with rfl | rfl
    · rw [if_pos (by omega)]
      show _ = (i, erasedL.getD i 0)
      rw [erasedL_at i hi, Nat.mul_zero, Nat.zero_add]
    · rw [if_neg (by omega)]
      show _ = (i, (encL d).getD i 0)
      rw [show 54 * 1 + i - 54 = i by omega]
  have hmid : ∀ b, N0 ≤ b → b < N1 → ¬ (b < N0 ∨ N1 ≤ b) := fun b h1 h2 h => by omega
  clear h1 h2 h2a h2s hgp hph hr2 hjB hbeB hbx hoaC hgx hzb hge hgz hsz1 hza hN1 hW hJ hl0 hl hN0 hS hy2 hshe hk1 hk2 hkx hxn

  gi_wp2_with fail
  gi_loopw [27] (fun u27 wr => PhRel 2 N0 N1 W2 J u27 wr) (fun u27 _ => 2 - (intOf u27).toNat)
  case atStart => exact ⟨0, S0, by omega, rfl, HJ3.out, fun b hb => .inl (hS0 b hb), Turns.refl _ _⟩
  case round =>
    obtain ⟨p, S, hp, rfl, hj, hs, ht⟩ := hrel
    by_cases hlt : p < 2
    · have d1 : decide ((p : Int) < 2) = true := by simp; omega
      obtain ⟨gr, hrx, hr1, hr2, hrl, hrb⟩ := HPH.out p hlt
      have hcp : wr.cell? ⟨gp, p, none⟩ = some (encR (ph.getD p rw0)) := ht.cell (hmid gp hg1 hg2) (HCE.out p hlt)
      obtain ⟨r, hrv⟩ : ∃ r, ph.getD p rw0 = r := ⟨_, rfl⟩
      have hstp : ∀ i, i < 54 → stepA d (54 * p + i) = (i, r.l.getD i 0) := fun i hi => by rw [← hrv]; exact HST.out p i hlt hi
      rw [hrv] at hrx hrl hcp hrb
      have hcp' : wr.cell? ⟨gp, p, none⟩ = some (.slice (some ⟨gr, 0, none⟩) 54 r.c) := by rw [hcp]; unfold encR; rw [hrx, hrl]
      have HRL := Lib.hid hrl
      have HSTP := Lib.hid hstp
      have HRB := Lib.hid hrb
      clear hcp hrv hrb hrl hrx hstp
      gi_wp2_with fail
      obtain ⟨wo, rfl⟩ : ∃ wo : World, wo = wr := ⟨_, rfl⟩
      gi_loopw [33] (fun u33 wi => InRel54 (54 * p) N0 N1 W2 J u33 wi) (fun u33 _ => 54 - (intOf u33).toNat)
      case atStart => exact ⟨0, S, by omega, rfl, hj, hs, ht⟩
      case round =>
        clear hj hs ht hcp'
        obtain ⟨i, S, hi, rfl, hj, hs, ht⟩ := hrel
        by_cases hit : i < 54
        · have e1 : decide ((i : Int) < 54) = true := by simp; omega
          have hri : wr.cell? ⟨gr, i, none⟩ = some (.int .u8 ((r.l.getD i 0).toNat : Int)) := ht.cell (hmid gr hr1 hr2) (HRB.out.cell0 i (by rw [HRL.out]; omega))
          obtain ⟨v, hv⟩ : ∃ v, r.l.getD i 0 = v := ⟨_, rfl⟩
          have hst := HSTP.out i hit
          rw [hv] at hst hri
          obtain ⟨fn, tmps, assign, body, hyy, hR⟩ := hY (54 * p + i) S wr (by omega) hj
          rw [hst] at hyy
          dsimp only at hyy
          clear hj hst hv
          gi_wp2_with fail
          refine hR.mono ?_
          have hs' : ∀ b, ¬ (b < N0 ∨ N1 ≤ b) → ¬ (b ∈ S ∨ b = l) := fun b hb h => by
            rcases h with h | h
            · exact hb (hs b h)
            · subst h; exact hb (.inl hlN)
          have hszw : N1 ≤ wr.heap.size := Nat.le_trans hz2 ht.size
          rintro e W' ⟨S', hs1, htt, (⟨rfl, hj3⟩ | ⟨rfl, hj3⟩)⟩
          · have hsn : ∀ b, b ∈ S' → b < N0 ∨ N1 ≤ b := fun b hb => by
              rcases hs1 b hb with h | h
              · exact hs b h
              · exact .inr (by omega)
            have htn : Turns (fun b => b < N0 ∨ N1 ≤ b) W2 W' := ht.trans (htt.mono (fun b _ h => Decidable.byContradiction fun hc => hs' b hc h))
            have HJ4 := Lib.hid hj3
            clear hyy hR hri hs ht htt hs1 hs' hj3
            gi_wp2_with fail
            go_roundw
            case rel => exact ⟨i + 1, S', by omega, by go_num, HJ4.out, hsn, htn⟩
            case measure => simp [intOf]; omega
          · clear hyy hR hri
            gi_wp2_with fail
            refine bodyPost_ret (results_none rfl _ _ _) rfl ?_
            exact ⟨⟨_, rfl⟩, .inr ⟨_, S', by omega, hj3⟩⟩
        · obtain rfl : i = 54 := by omega
          have HJ4 : Hid (J (54 * (p + 1)) S wr) := hj
          clear hj
          gi_wp2_with fail
          go_roundw
          case rel => exact ⟨p + 1, S, by omega, by go_num, HJ4.out, hs, ht⟩
          case measure => simp [intOf]; omega
    · obtain rfl : p = 2 := by omega
      gi_wp2_with fail
      go_end0
      exact ⟨⟨_, rfl⟩, .inl ⟨_, hj⟩⟩

theorem steps_in (n : Nat) (hn : 1 ≤ n) (bo : Nat) (er : Bool) (x : Option Addr) (d : List UInt8) (c : Nat) (w : World) (h1 : w.cell? ⟨bo, 1, none⟩ = some (.bool er)) (h2 : w.cell? ⟨bo, 2, none⟩ = some (.slice x d.length c)) (hx : Bts w x d) (hxn : x = none → c = 0) (hd : d.length ≤ 48) :
    Yields n Tryz.prog 107 #[.pointer (some ⟨bo, 0, none⟩)] (fun s : Nat × UInt8 => #[.agg #[.int .i64 (s.1 : Int), .int .u8 (s.2.toNat : Int)]]) (lenO er) (stepA d) True (fun _ => False) w := by
  cases er
  · exact steps_wr n hn bo x d c w h1 h2 hx hxn hd
  · exact steps_er n hn bo d w h1
end

section
open Go.RowKit

theorem getD_set {α : Type} (l : List α) (i j : Nat) (v d : α) (hi : i < l.length) : (l.set i v).getD j d = if i = j then v else l.getD j d := by
  rw [List.getD_eq_getElem?_getD, List.getElem?_set, List.getD_eq_getElem?_getD]
  by_cases h : i = j
  · subst h; rw [if_pos rfl, if_pos rfl, if_pos hi]; rfl
  · rw [if_neg h, if_neg h]
theorem OwnsS.apart_at {B : Nat} {w : World} {x : Option Addr} {cap : Nat} {rs : List Rw} (h : OwnsS B w x cap rs) {i j : Nat} (hi : i < rs.length) (hj : j < rs.length) (hij : i ≠ j) : Apart (rs.getD i rw0) (rs.getD j rw0) := by
  have hp := List.pairwise_iff_getElem.1 h.apart
  rw [List.getD_eq_getElem?_getD, List.getElem?_eq_getElem hi, List.getD_eq_getElem?_getD, List.getElem?_eq_getElem hj]
  show Apart rs[i] rs[j]
  rcases Nat.lt_or_gt_of_ne hij with h1 | h1
  · exact hp i j hi hj h1
  · intro b hb hc
    exact hp j i hj hi h1 b hc hb
/-- A byte of one of its blocks is written. -/
theorem OwnsS.setB {B : Nat} {w : World} {x : Option Addr} {cap : Nat} {rs : List Rw} (h : OwnsS B w x cap rs) (q g c : Nat) (l : List UInt8) (hq : q < rs.length) (hr : rs.getD q rw0 = ⟨some ⟨g, 0, none⟩, c, l⟩) (i : Nat) (v : UInt8) :
    OwnsS B (w.setCell ⟨g, i, none⟩ (.int .u8 (v.toNat : Int))) x cap (rs.set q ⟨some ⟨g, 0, none⟩, c, l.set i v⟩) := by
  have hm := getD_mem rs q rw0 hq
  rw [hr] at hm
  have hoq : OwnsB B w (some ⟨g, 0, none⟩) c l := h.each _ hm
  have ht : Turns (fun b => b = g) w (w.setCell ⟨g, i, none⟩ (.int .u8 (v.toNat : Int))) := (Turns.refl (fun b => b = g) w).setCell (p := ⟨g, i, none⟩) (fun _ => rfl) _
  have hrq : rs[q] = ⟨some ⟨g, 0, none⟩, c, l⟩ := by
    rw [List.getD_eq_getElem?_getD, List.getElem?_eq_getElem hq] at hr; exact hr
  have hmap : (rs.set q ⟨some ⟨g, 0, none⟩, c, l.set i v⟩).map encR = rs.map encR := by
    rw [List.map_set]
    apply List.ext_getElem (by simp)
    intro k h1 h2
    rw [List.getElem_set]
    by_cases e : q = k
    · subst e
      rw [if_pos rfl, List.getElem_map, hrq]
      unfold encR; simp
    · rw [if_neg e]
  have hmx : (rs.set q ⟨some ⟨g, 0, none⟩, c, l.set i v⟩).map (·.x) = rs.map (·.x) := by
    rw [List.map_set]
    apply List.ext_getElem (by simp)
    intro k h1 h2
    rw [List.getElem_set]
    by_cases e : q = k
    · subst e
      rw [if_pos rfl, List.getElem_map, hrq]
    · rw [if_neg e]
  refine ⟨?_, ?_, ?_⟩
  · have h1 : OwnsR B (w.setCell ⟨g, i, none⟩ (.int .u8 (v.toNat : Int))) x cap rs := h.row.turn ht (fun b hb e => by
      subst e
      exact h.row.apart hoq b hb rfl)
    unfold OwnsR at h1 ⊢
    rw [hmap, List.length_set]
    exact h1
  · intro r hr'
    obtain ⟨k, hk, rfl⟩ := List.getElem_of_mem hr'
    have hk2 : k < rs.length := by rw [List.length_set] at hk; exact hk
    rw [List.getElem_set]
    by_cases e : q = k
    · rw [if_pos e]
      exact hoq.set i v
    · rw [if_neg e]
      refine (h.each _ (List.getElem_mem hk2)).turn ht (fun b hb e2 => ?_)
      subst e2
      have := h.apart_at hk2 hq (fun e3 => e e3.symm)
      rw [hr, List.getD_eq_getElem?_getD, List.getElem?_eq_getElem hk2] at this
      exact this b hb rfl
  · have : ((rs.set q ⟨some ⟨g, 0, none⟩, c, l.set i v⟩).map (·.x)).Pairwise (fun a b => ∀ k, RowOf a k → ¬ RowOf b k) := by
      rw [hmx]
      exact (List.pairwise_map (f := fun r : Rw => r.x)).2 h.apart
    exact (List.pairwise_map (f := fun r : Rw => r.x)).1 this
theorem frozen_new (w : World) (C : Array Value) (T : TypeId) (i : Nat) : (w.alloc (.cells C T)).frozen? ⟨w.heap.size, i, none⟩ = false := by
  have h := heap_alloc_new w (.cells C T)
  unfold World.frozen?
  simp only [h]
  simp
theorem map_set_l (rs : List Rw) (q : Nat) (r : Rw) : (rs.set q r).map (·.l) = (rs.map (·.l)).set q r.l := List.map_set ..
theorem getD_map_l (rs : List Rw) (q : Nat) : (rs.map (·.l)).getD q [] = (rs.getD q rw0).l := by
  rw [List.getD_eq_getElem?_getD, List.getElem?_map, List.getD_eq_getElem?_getD]
  cases rs[q]? <;> rfl
end

section
open Go.RowKit

/-- The data that a block claims to hold. -/
def readD (b : List UInt8) : List UInt8 := (b.drop 1).take (b.getD 0 0).toNat
/-- The code of reading a block. -/
def readE (b : List UInt8) : Int := if b = erasedL then 6 else if b.getD 53 0 ≠ 0 then 370 else if 48 < (b.getD 0 0).toNat then 371 else if b = encL (readD b) then 0 else 371
/-- The code of Read. -/
def rdC (ls : List (List UInt8)) (i : Int) : Int := if vldS ls = true ∧ 0 ≤ i ∧ i < (ls.length : Int) then readE (ls.getD i.toNat []) else 2
/-- The data that Read returns. -/
def rdM (ls : List (List UInt8)) (i : Int) : List UInt8 := if rdC ls i = 0 then readD (ls.getD i.toNat []) else []
def ReadOf (ls : List (List UInt8)) (i : Int) (w : World) (e : Ending) (w' : World) : Prop := ∃ x cap, e = .returned (.tuple #[.slice x (rdM ls i).length cap, .int .i64 (rdC ls i)]) ∧ OwnsB w.heap.size w' x cap (rdM ls i) ∧ Below w.heap.size w w'
theorem Bts.mid {w : World} {g o : Nat} {l : List UInt8} (h : Bts w (some ⟨g, o, none⟩) l) (k n : Nat) : Bts w (some ⟨g, o + k, none⟩) ((l.drop k).take n) := by
  rcases h with h | ⟨b, o', hx, hc⟩
  · subst h; exact .inl (by simp)
  · cases hx
    refine .inr ⟨g, o + k, rfl, fun i hi => ?_⟩
    rw [List.length_take, List.length_drop] at hi
    have := hc (k + i) (by omega)
    rw [Nat.add_assoc, this, List.getD_eq_getElem?_getD, List.getD_eq_getElem?_getD, List.getElem?_take, if_pos (by omega), List.getElem?_drop]
theorem readD_len (b : List UInt8) (hb : b.length = 54) (h : (b.getD 0 0).toNat ≤ 48) : (readD b).length = (b.getD 0 0).toNat := by
  unfold readD; rw [List.length_take, List.length_drop]; omega
set_option maxRecDepth 20000 in
set_option maxHeartbeats 4000000 in
theorem read_any (x : Option Addr) (rs : List Rw) (c : Nat) (i : Int) (w : World) (hs : Rws w x rs) (hn : rs.length ≤ 1000) : Calls Tryz.prog 100 #[.agg #[.slice x rs.length c], .int .i64 i] w (ReadOf (rs.map (·.l)) i w) := by
  have hB := Below.refl w.heap.size w
  by_cases hv : vldS (rs.map (·.l)) = false
  · have HV : Hid (vldS (rs.map (·.l)) = false) := hv
    have HC : Hid (rdC (rs.map (·.l)) i = 2) := by show _ = _; unfold rdC; rw [if_neg (by rw [hv]; simp)]
    have HM : Hid (rdM (rs.map (·.l)) i = []) := by show _ = _; unfold rdM; rw [HC.out]; rfl
    clear hv
    go_enter Tryz.func100, Tryz.ntmps100
    go_wp2_with fail
    refine (valid_any x rs c _ (hs.later (al hB _)) hn).mono ?_
    rintro e w1 ⟨rfl, hb⟩
    rw [HV.out]
    have g0 := later (a := ⟨w.heap.size, 0, none⟩) (v := .slice x rs.length c) hb (by go_simp)
    have hB1 := thru (al hB _) hb
    clear hb
    go_wp2_with fail
    refine bodyPost_ret (v := .tuple #[.slice none 0 0, .int .i64 2]) (by simp [results, Tryz.results100, go_sem]) rfl ⟨none, 0, by rw [HM.out, HC.out]; rfl, by rw [HM.out]; exact OwnsB.nil _ _, hB1⟩
  · have hv1 : vldS (rs.map (·.l)) = true := by simpa using hv
    have HV : Hid (vldS (rs.map (·.l)) = true) := hv1
    by_cases h1 : i < 0
    · have HC : Hid (rdC (rs.map (·.l)) i = 2) := by show _ = _; unfold rdC; rw [if_neg (by omega)]
      have HM : Hid (rdM (rs.map (·.l)) i = []) := by show _ = _; unfold rdM; rw [HC.out]; rfl
      have a1 : decide (i < 0) = true := decide_eq_true h1
      go_enter Tryz.func100, Tryz.ntmps100
      go_wp2_with fail
      refine (valid_any x rs c _ (hs.later (al hB _)) hn).mono ?_
      rintro e w1 ⟨rfl, hb⟩
      rw [HV.out]
      have g0 := later (a := ⟨w.heap.size, 0, none⟩) (v := .slice x rs.length c) hb (by go_simp)
      have hB1 := thru (al hB _) hb
      clear hb
      go_wp2_with fail
      refine bodyPost_ret (v := .tuple #[.slice none 0 0, .int .i64 2]) (by simp [results, Tryz.results100, go_sem]) rfl ⟨none, 0, by rw [HM.out, HC.out]; rfl, by rw [HM.out]; exact OwnsB.nil _ _, hB1⟩
    · by_cases h2 : (rs.length : Int) ≤ i
      · have HC : Hid (rdC (rs.map (·.l)) i = 2) := by show _ = _; unfold rdC; rw [if_neg (by rw [List.length_map]; omega)]
        have HM : Hid (rdM (rs.map (·.l)) i = []) := by show _ = _; unfold rdM; rw [HC.out]; rfl
        have a1 : decide (i < 0) = false := decide_eq_false h1
        have a2 : decide ((rs.length : Int) ≤ i) = true := decide_eq_true h2
        go_enter Tryz.func100, Tryz.ntmps100
        go_wp2_with fail
        refine (valid_any x rs c _ (hs.later (al hB _)) hn).mono ?_
        rintro e w1 ⟨rfl, hb⟩
        rw [HV.out]
        have g0 := later (a := ⟨w.heap.size, 0, none⟩) (v := .slice x rs.length c) hb (by go_simp)
        have hB1 := thru (al hB _) hb
        clear hb
        go_wp2_with fail
        refine bodyPost_ret (v := .tuple #[.slice none 0 0, .int .i64 2]) (by simp [results, Tryz.results100, go_sem]) rfl ⟨none, 0, by rw [HM.out, HC.out]; rfl, by rw [HM.out]; exact OwnsB.nil _ _, hB1⟩
      · obtain ⟨j, rfl⟩ : ∃ j : Nat, i = (j : Int) := ⟨i.toNat, by omega⟩
        have hj : j < rs.length := by omega
        have a1 : decide ((j : Int) < 0) = false := decide_eq_false h1
        have a2 : decide ((rs.length : Int) ≤ (j : Int)) = false := decide_eq_false h2
        have a2n : decide (rs.length ≤ j) = false := decide_eq_false (by omega)
        have jB : (j : Int) < (rs.length : Int) := by omega
        obtain ⟨-, h54⟩ := (vldS_iff _).1 hv1
        obtain ⟨b0, o0, rfl, hcj, hrj⟩ := hs.at j hj
        obtain ⟨⟨xr, cr, l⟩, hr⟩ : ∃ r, rs.getD j rw0 = r := ⟨_, rfl⟩
        have hgl : (rs.map (·.l)).getD j [] = l := by rw [getD_map_l, hr]
        have hl : l.length = 54 := by rw [← hgl]; exact h54.getD j (by rw [List.length_map]; exact hj)
        have HIN : Hid (rdC (rs.map (·.l)) (j : Int) = readE l) := by
          show _ = _
          unfold rdC
          rw [if_pos ⟨hv1, by omega, by rw [List.length_map]; omega⟩, Int.toNat_natCast, hgl]
        have HGL := Lib.hid hgl
        rw [hr] at hcj hrj
        obtain ⟨hbt, hxn, hcr1, hcr2⟩ := hrj
        dsimp only at hbt hxn hcr1 hcr2
        obtain ⟨g, o, rfl, hcc⟩ : ∃ g o, xr = some ⟨g, o, none⟩ ∧ ∀ i, i < l.length → w.cell? ⟨g, o + i, none⟩ = some (encB (l.getD i 0)) := by
          rcases hbt with h | ⟨g, o, h1, h2⟩
          · subst h; cases hl
          · exact ⟨g, o, h1, h2⟩
        have hcj : w.cell? ⟨b0, o0 + j, none⟩ = some (.slice (some ⟨g, o, none⟩) 54 cr) := by rw [hcj]; unfold encR; rw [hl]
        have c0 : w.cell? ⟨g, o, none⟩ = some (.int .u8 ((l.getD 0 0).toNat : Int)) := by have := hcc 0 (by omega); rwa [Nat.add_zero] at this
        have c53 : w.cell? ⟨g, o + 53, none⟩ = some (.int .u8 ((l.getD 53 0).toNat : Int)) := hcc 53 (by omega)
        have hEQ : ∀ ge W, Bts W (some ⟨g, o, none⟩) l → Bts W (some ⟨ge, 0, none⟩) erasedL → Calls Tryz.prog 110 #[.slice (some ⟨g, o, none⟩) 54 cr, .slice (some ⟨ge, 0, none⟩) 54 54] W fun e w' => e = .returned (.bool (l == erasedL)) ∧ w' = W := fun ge W h1 h2 => by
          have := equal_any _ _ l erasedL cr 54 W h1 h2
          rwa [hl] at this
        rw [hl] at hcr1
        have HL := Lib.hid hl
        clear hr hgl hcc hxn h54 hv hv1 hl
        obtain ⟨z, hz⟩ : ∃ z, l.getD 53 0 = z := ⟨_, rfl⟩
        obtain ⟨n, hnn⟩ : ∃ n, (l.getD 0 0).toNat = n := ⟨_, rfl⟩
        rw [hz] at c53
        rw [hnn] at c0
        have HZ := Lib.hid hz
        have HN := Lib.hid hnn
        have hn256 : n < 256 := by rw [← hnn]; exact UInt8.toNat_lt _
        clear hz hnn
        by_cases he : l = erasedL
        · have HQ : Hid ((l == erasedL) = true) := by show _ = _; rw [beq_iff_eq]; exact he
          have HC : Hid (rdC (rs.map (·.l)) (j : Int) = 6) := by show _ = _; rw [HIN.out]; unfold readE; rw [if_pos he]
          have HM : Hid (rdM (rs.map (·.l)) (j : Int) = []) := by show _ = _; unfold rdM; rw [HC.out]; rfl
          clear he
          go_enter Tryz.func100, Tryz.ntmps100
          go_wp2_with fail
          refine (valid_any (some ⟨b0, o0, none⟩) rs c _ (hs.later (al hB _)) hn).mono ?_
          rintro e w1 ⟨rfl, hb⟩
          rw [HV.out]
          have g0 := later (a := ⟨w.heap.size, 0, none⟩) (v := .slice (some ⟨b0, o0, none⟩) rs.length c) hb (by go_simp)
          have hB1 := thru (al hB _) hb
          clear hb
          have e0 := later hB1 hcj
          have hl1 := hbt.later hB1
          have cz := later hB1 c0
          have cm := later hB1 c53
          go_wp2_with fail
          refine (erased_any _).mono ?_
          rintro e w2 ⟨ge, rfl, hge, hgz, hbe, hshe, hb⟩
          have hB2 := thru hB1 hb
          have hl2 := hl1.later hb
          replace cz := later hb cz
          replace cm := later hb cm
          clear hb hl1 e0
          go_wp2_with fail
          refine (hEQ ge w2 hl2 hbe).mono ?_
          rintro e w2' ⟨rfl, hw⟩
          obtain rfl : w2 = w2' := hw.symm
          clear hw
          rw [HQ.out]
          go_wp2_with fail
          refine bodyPost_ret (v := .tuple #[.slice none 0 0, .int .i64 6]) (by simp [results, Tryz.results100, go_sem]) rfl ⟨none, 0, by rw [HM.out, HC.out]; rfl, by rw [HM.out]; exact OwnsB.nil _ _, hB2⟩
        · have HQ : Hid ((l == erasedL) = false) := by show _ = _; rw [beq_eq_false_iff_ne]; exact he
          by_cases hm : z = 0
          · have z1 : ((z.toNat : Int) != 0) = false := by rw [hm]; rfl
            by_cases h48 : 48 < n
            · have d1 : decide (48 < n) = true := decide_eq_true h48
              have d2 : decide ((48 : Int) < (n : Int)) = true := decide_eq_true (by omega)
              have HC : Hid (rdC (rs.map (·.l)) (j : Int) = 371) := by show _ = _; rw [HIN.out]; unfold readE; rw [if_neg he, HZ.out, hm, if_neg (by simp), HN.out, if_pos h48]
              have HM : Hid (rdM (rs.map (·.l)) (j : Int) = []) := by show _ = _; unfold rdM; rw [HC.out]; rfl
              clear he hm h48
              go_enter Tryz.func100, Tryz.ntmps100
              go_wp2_with fail
              refine (valid_any (some ⟨b0, o0, none⟩) rs c _ (hs.later (al hB _)) hn).mono ?_
              rintro e w1 ⟨rfl, hb⟩
              rw [HV.out]
              have g0 := later (a := ⟨w.heap.size, 0, none⟩) (v := .slice (some ⟨b0, o0, none⟩) rs.length c) hb (by go_simp)
              have hB1 := thru (al hB _) hb
              clear hb
              have e0 := later hB1 hcj
              have hl1 := hbt.later hB1
              have cz := later hB1 c0
              have cm := later hB1 c53
              go_wp2_with fail
              refine (erased_any _).mono ?_
              rintro e w2 ⟨ge, rfl, hge, hgz, hbe, hshe, hb⟩
              have hB2 := thru hB1 hb
              have hl2 := hl1.later hb
              replace cz := later hb cz
              replace cm := later hb cm
              clear hb hl1 e0
              go_wp2_with fail
              refine (hEQ ge w2 hl2 hbe).mono ?_
              rintro e w2' ⟨rfl, hw⟩
              obtain rfl : w2 = w2' := hw.symm
              clear hw
              rw [HQ.out]
              go_wp2_with fail
              refine bodyPost_ret (v := .tuple #[.slice none 0 0, .int .i64 371]) (by simp [results, Tryz.results100, go_sem]) rfl ⟨none, 0, by rw [HM.out, HC.out]; rfl, by rw [HM.out]; exact OwnsB.nil _ _, hB2⟩
            · have d1 : decide (48 < n) = false := decide_eq_false h48
              have d2 : decide ((48 : Int) < (n : Int)) = false := decide_eq_false (by omega)
              have p1 : (1 : Int) ≤ 1 + (n : Int) := by omega
              have p2 : (1 : Int) + (n : Int) ≤ (cr : Int) := by omega
              have hdl : (readD l).length = n := by rw [readD_len l HL.out (by rw [HN.out]; omega), HN.out]
              obtain ⟨d, hd⟩ : ∃ d, readD l = d := ⟨_, rfl⟩
              have hdt : d = (l.drop 1).take n := by rw [← hd, ← HN.out]; rfl
              have HDT := Lib.hid hdt
              rw [hd] at hdl
              have hEN : ∀ W, Bts W (some ⟨g, o, none⟩) l → Calls Tryz.prog 108 #[.slice (some ⟨g, o + 1, none⟩) n (cr - 1)] W (EncOf d W) := fun W h1 => by
                have := encode_yes (some ⟨g, o + 1, none⟩) d (cr - 1) W (by rw [HDT.out]; exact h1.mid 1 n) (fun h => by cases h) (by omega)
                rwa [hdl] at this
              have hEQ2 : ∀ x3 c3 W, Bts W (some ⟨g, o, none⟩) l → Bts W x3 (encL d) → Calls Tryz.prog 110 #[.slice (some ⟨g, o, none⟩) 54 cr, .slice x3 54 c3] W fun e w' => e = .returned (.bool (l == encL d)) ∧ w' = W := fun x3 c3 W h1 h2 => by
                have := equal_any _ _ l (encL d) cr c3 W h1 h2
                rwa [HL.out, encL_len d (by omega)] at this
              have hCL : ∀ W, Bts W (some ⟨g, o, none⟩) l → Calls Tryz.prog 89 #[.slice (some ⟨g, o + 1, none⟩) n (cr - 1)] W (CloneOf d W) := fun W h1 => by
                have := clone_any (some ⟨g, o + 1, none⟩) d (cr - 1) W (by rw [HDT.out]; exact h1.mid 1 n) (by omega)
                rwa [hdl] at this
              have HD := Lib.hid hd
              clear hdt hdl hd
              by_cases hq : l = encL d
              · have HQ2 : Hid ((l == encL d) = true) := by show _ = _; rw [beq_iff_eq]; exact hq
                have HC : Hid (rdC (rs.map (·.l)) (j : Int) = 0) := by show _ = _; rw [HIN.out]; unfold readE; rw [if_neg he, HZ.out, hm, if_neg (by simp), HN.out, if_neg h48, HD.out, if_pos hq]
                have HM : Hid (rdM (rs.map (·.l)) (j : Int) = d) := by show _ = _; unfold rdM; rw [HC.out, if_pos rfl, Int.toNat_natCast, HGL.out, HD.out]
                clear he hm h48 hq
                go_enter Tryz.func100, Tryz.ntmps100
                go_wp2_with fail
                refine (valid_any (some ⟨b0, o0, none⟩) rs c _ (hs.later (al hB _)) hn).mono ?_
                rintro e w1 ⟨rfl, hb⟩
                rw [HV.out]
                have g0 := later (a := ⟨w.heap.size, 0, none⟩) (v := .slice (some ⟨b0, o0, none⟩) rs.length c) hb (by go_simp)
                have hB1 := thru (al hB _) hb
                clear hb
                have e0 := later hB1 hcj
                have hl1 := hbt.later hB1
                have cz := later hB1 c0
                have cm := later hB1 c53
                go_wp2_with fail
                refine (erased_any _).mono ?_
                rintro e w2 ⟨ge, rfl, hge, hgz, hbe, hshe, hb⟩
                have hB2 := thru hB1 hb
                have hl2 := hl1.later hb
                replace cz := later hb cz
                replace cm := later hb cm
                clear hb hl1 e0
                go_wp2_with fail
                refine (hEQ ge w2 hl2 hbe).mono ?_
                rintro e w2' ⟨rfl, hw⟩
                obtain rfl : w2 = w2' := hw.symm
                clear hw
                rw [HQ.out]
                go_wp2_with fail
                refine (hEN w2 hl2).mono ?_
                rintro e w3 ⟨x3, c3, rfl, ho3, hb⟩
                have hB3 := thru hB2 hb
                have hl3 := hl2.later hb
                have hx3 := ho3.bts
                clear hb ho3
                go_wp2_with fail
                refine (hEQ2 x3 c3 w3 hl3 hx3).mono ?_
                rintro e w3' ⟨rfl, hw⟩
                obtain rfl : w3 = w3' := hw.symm
                clear hw
                rw [HQ2.out]
                go_wp2_with fail
                refine (hCL w3 hl3).mono ?_
                rintro e w4 ⟨x4, c4, rfl, ho4, hb⟩
                have HO4 := Lib.hid ho4
                have hz3 := hB3.size
                have hB4 := thru hB3 hb
                clear ho4 hb
                go_wp2_with fail
                refine bodyPost_ret (v := .tuple #[.slice x4 d.length c4, .int .i64 0]) (by simp [results, Tryz.results100, go_sem]) rfl ⟨x4, c4, by rw [HM.out, HC.out], by rw [HM.out]; exact HO4.out.weaken hz3, hB4⟩
              · have HQ2 : Hid ((l == encL d) = false) := by show _ = _; rw [beq_eq_false_iff_ne]; exact hq
                have HC : Hid (rdC (rs.map (·.l)) (j : Int) = 371) := by show _ = _; rw [HIN.out]; unfold readE; rw [if_neg he, HZ.out, hm, if_neg (by simp), HN.out, if_neg h48, HD.out, if_neg hq]
                have HM : Hid (rdM (rs.map (·.l)) (j : Int) = []) := by show _ = _; unfold rdM; rw [HC.out]; rfl
                clear he hm h48 hq
                go_enter Tryz.func100, Tryz.ntmps100
                go_wp2_with fail
                refine (valid_any (some ⟨b0, o0, none⟩) rs c _ (hs.later (al hB _)) hn).mono ?_
                rintro e w1 ⟨rfl, hb⟩
                rw [HV.out]
                have g0 := later (a := ⟨w.heap.size, 0, none⟩) (v := .slice (some ⟨b0, o0, none⟩) rs.length c) hb (by go_simp)
                have hB1 := thru (al hB _) hb
                clear hb
                have e0 := later hB1 hcj
                have hl1 := hbt.later hB1
                have cz := later hB1 c0
                have cm := later hB1 c53
                go_wp2_with fail
                refine (erased_any _).mono ?_
                rintro e w2 ⟨ge, rfl, hge, hgz, hbe, hshe, hb⟩
                have hB2 := thru hB1 hb
                have hl2 := hl1.later hb
                replace cz := later hb cz
                replace cm := later hb cm
                clear hb hl1 e0
                go_wp2_with fail
                refine (hEQ ge w2 hl2 hbe).mono ?_
                rintro e w2' ⟨rfl, hw⟩
                obtain rfl : w2 = w2' := hw.symm
                clear hw
                rw [HQ.out]
                go_wp2_with fail
                refine (hEN w2 hl2).mono ?_
                rintro e w3 ⟨x3, c3, rfl, ho3, hb⟩
                have hB3 := thru hB2 hb
                have hl3 := hl2.later hb
                have hx3 := ho3.bts
                clear hb ho3
                go_wp2_with fail
                refine (hEQ2 x3 c3 w3 hl3 hx3).mono ?_
                rintro e w3' ⟨rfl, hw⟩
                obtain rfl : w3 = w3' := hw.symm
                clear hw
                rw [HQ2.out]
                go_wp2_with fail
                refine bodyPost_ret (v := .tuple #[.slice none 0 0, .int .i64 371]) (by simp [results, Tryz.results100, go_sem]) rfl ⟨none, 0, by rw [HM.out, HC.out]; rfl, by rw [HM.out]; exact OwnsB.nil _ _, hB3⟩
          · have z1 : ((z.toNat : Int) != 0) = true := by
              rw [bne_iff_ne]
              intro h
              exact hm (by rw [← UInt8.toNat_inj]; show z.toNat = 0; omega)
            have HC : Hid (rdC (rs.map (·.l)) (j : Int) = 370) := by show _ = _; rw [HIN.out]; unfold readE; rw [if_neg he, HZ.out, if_pos hm]
            have HM : Hid (rdM (rs.map (·.l)) (j : Int) = []) := by show _ = _; unfold rdM; rw [HC.out]; rfl
            clear he hm
            go_enter Tryz.func100, Tryz.ntmps100
            go_wp2_with fail
            refine (valid_any (some ⟨b0, o0, none⟩) rs c _ (hs.later (al hB _)) hn).mono ?_
            rintro e w1 ⟨rfl, hb⟩
            rw [HV.out]
            have g0 := later (a := ⟨w.heap.size, 0, none⟩) (v := .slice (some ⟨b0, o0, none⟩) rs.length c) hb (by go_simp)
            have hB1 := thru (al hB _) hb
            clear hb
            have e0 := later hB1 hcj
            have hl1 := hbt.later hB1
            have cz := later hB1 c0
            have cm := later hB1 c53
            go_wp2_with fail
            refine (erased_any _).mono ?_
            rintro e w2 ⟨ge, rfl, hge, hgz, hbe, hshe, hb⟩
            have hB2 := thru hB1 hb
            have hl2 := hl1.later hb
            replace cz := later hb cz
            replace cm := later hb cm
            clear hb hl1 e0
            go_wp2_with fail
            refine (hEQ ge w2 hl2 hbe).mono ?_
            rintro e w2' ⟨rfl, hw⟩
            obtain rfl : w2 = w2' := hw.symm
            clear hw
            rw [HQ.out]
            go_wp2_with fail
            refine bodyPost_ret (v := .tuple #[.slice none 0 0, .int .i64 370]) (by simp [results, Tryz.results100, go_sem]) rfl ⟨none, 0, by rw [HM.out, HC.out]; rfl, by rw [HM.out]; exact OwnsB.nil _ _, hB2⟩
end

section
open Go.RowKit

/-- own's rounds. -/
def OwnRel (rs0 : List Rw) (w : World) (b4 : Nat) (u9 : Value) (wr : World) : Prop :=
  ∃ j x c rs, j ≤ rs0.length ∧ u9 = .int .i64 (j : Int) ∧ OwnsS (b4 + 1) wr x c rs ∧ rs.map (·.l) = (rs0.map (·.l)).take j ∧ wr.cell? ⟨b4, 0, none⟩ = some (.slice x rs.length c) ∧ wr.frozen? ⟨b4, 0, none⟩ = false ∧ Below w.heap.size w wr ∧ b4 < wr.heap.size ∧ wr.cell? ⟨w.heap.size + 1, 0, none⟩ = some (.slice none 0 0) ∧ wr.frozen? ⟨w.heap.size + 1, 0, none⟩ = false
/-- A store of the call's own with these blocks. -/
def StoOf (ls : List (List UInt8)) (w : World) (e : Ending) (w' : World) : Prop := ∃ x c rs, e = .returned (.agg #[.slice x rs.length c]) ∧ OwnsS w.heap.size w' x c rs ∧ rs.map (·.l) = ls ∧ Below w.heap.size w w'
theorem lens_map {rs rs' : List Rw} (h : rs.map (·.l) = rs'.map (·.l)) : rs.length = rs'.length := by simpa using congrArg List.length h
set_option maxHeartbeats 4000000 in
theorem own_any (x0 : Option Addr) (rs0 : List Rw) (c0 : Nat) (w : World) (hs : Rws w x0 rs0) (hn : rs0.length ≤ 1000) (hl : ∀ r, r ∈ rs0 → r.l.length ≤ 100000) : Calls Tryz.prog 56 #[.agg #[.slice x0 rs0.length c0]] w (StoOf (rs0.map (·.l)) w) := by
  have hB := Below.refl w.heap.size w
  go_enter Tryz.func56, Tryz.ntmps56
  go_wp2_with fail
  obtain ⟨b4, hb4⟩ : ∃ b, w.heap.size + 1 + 1 = b := ⟨_, rfl⟩
  rw [hb4]
  go_loopw [9] (fun u9 wr => OwnRel rs0 w b4 u9 wr) (fun u9 _ => rs0.length - (intOf u9).toNat)
  case atStart => exact ⟨0, none, 0, [], by omega, rfl, OwnsS.nil _ _, rfl, by rw [← hb4]; go_simp, by rw [← hb4]; go_simp, al (al (al hB _) _) _, by simp <;> omega, later (al (Below.refl _ _) _) (by go_simp), (Below.frozen (al (Below.refl _ _) _) (by simp)).trans (by go_simp)⟩
  case round =>
    clear hB
    obtain ⟨j, xj, cj, rs, hj, rfl, ho, hm, c19, f19, hB, hzw, r19, g19⟩ := hrel
    have hlen : rs.length = j := by have := congrArg List.length hm; simp at this; omega
    by_cases hlt : j < rs0.length
    · have d1 : decide ((j : Int) < (rs0.length : Int)) = true := by simp; omega
      obtain ⟨b0, o0, rfl, hcj, hrj⟩ := hs.at j hlt
      have hll := hl _ (getD_mem rs0 j rw0 hlt)
      have htk : (rs0.map (·.l)).take (j + 1) = (rs0.map (·.l)).take j ++ [(rs0.getD j rw0).l] := by
        rw [List.take_succ_eq_append_getElem (by simpa using hlt), List.getD_eq_getElem?_getD, List.getElem?_eq_getElem hlt]; simp
      obtain ⟨rj, hrjv⟩ : ∃ r, rs0.getD j rw0 = r := ⟨_, rfl⟩
      rw [hrjv] at hcj hrj hll htk
      have hcw := later_lt hB (World.block_lt_of_cell? _ _ hcj) hcj
      replace hrj := hrj.later hB
      have HT := Lib.hid htk
      have hrl : rs.length ≤ 1000 := by omega
      clear hlen
      have HM := Lib.hid hm
      clear hcj htk hm hrjv
      go_wp2_with fail
      refine wp_region_schedB (B := b4) (fun X => X.cell? ⟨b4, 0, none⟩ = some (.slice xj rs.length cj) ∧ X.frozen? ⟨b4, 0, none⟩ = false ∧ OwnsS (b4 + 1) X xj cj rs ∧ Below wr.heap.size wr X ∧ b4 + 1 ≤ X.heap.size ∧ RwOk X rj) (.two [0, 2] 1 (.one [] 3 (.one [] 4 (.one [] 5 (.one [6] 7 (.done []))))) 3 (.two [] 1 (.one [] 4 (.one [] 5 (.one [6] 7 (.done [])))) 4 (.one [] 1 (.one [] 5 (.one [6] 7 (.done [])))))) (by kernel_rfl) (by kernel_rfl) (fun _ _ _ _ _ h => h) ⟨c19, f19, ho.turnB ((Turns.refl (fun _ => False) wr).drew) (fun _ _ _ e => e), (Below.refl _ _).drew, by simp <;> omega, hrj.later (Below.refl _ _).drew⟩ ?_
      clear c19 f19 ho hrj
      rintro X ⟨c19, f19, ho, ht, hzX, hrj⟩
      rw [wpSchedB]
      simp only [pick, List.map_cons, List.map_nil, Array.getD_eq_getD_getElem?, List.getElem?_toArray, List.getElem?_cons_succ, List.getElem?_cons_zero, Option.getD_some]
      repeat (first | go_big_quiet_step (fail) | quiet_step (fail))
      refine wpQuiet_nil ?_
      refine ⟨?_, ?_⟩
      · refine heavyB_want (by rfl) (fun K' hK' => ?_)
        go_simp
        refine hK' _ _ (Below.refl _ _) ?_
        clear hK' K'
        try simp only [Act.put, List.setIfInBounds_toArray, List.set_cons_zero, List.set_cons_succ]
        rw [wpSchedB]
        simp only [pick, List.map_nil, Array.getD_eq_getD_getElem?, List.getElem?_toArray, List.getElem?_cons_succ, List.getElem?_cons_zero, Option.getD_some]
        refine wpQuiet_nil ?_
        refine heavyB_want (by rfl) (fun K' hK' => ?_)
        go_simp
        refine (clone_any rj.x rj.l rj.c _ hrj.1 hll).mono ?_
        rintro e X1 ⟨xu, cu, rfl, hu0, hb⟩
        refine hK' _ _ (hb.mono (by omega)) ?_
        clear hK' K'
        have hap : ∀ r, r ∈ rs → Apart r ⟨xu, cu, rj.l⟩ := fun r hr b h1 h2 => by have h3 := ((ho.each r hr).low b h1).2; have h4 := (hu0.low b h2).1; omega
        have hu : OwnsB (b4 + 1) X1 xu cu rj.l := hu0.weaken (by omega)
        clear hu0
        replace c19 := later hb c19
        replace f19 := (Below.frozen hb (by simp <;> omega)).trans f19
        replace ho := ho.later hb
        replace ht := thru ht hb
        have hz1 := hb.size
        replace hzX : b4 + 1 ≤ X1.heap.size := by omega
        clear hb hz1 hrj
        try simp only [Act.put, List.setIfInBounds_toArray, List.set_cons_zero, List.set_cons_succ]
        rw [wpSchedB]
        simp only [pick, List.map_nil, Array.getD_eq_getD_getElem?, List.getElem?_toArray, List.getElem?_cons_succ, List.getElem?_cons_zero, Option.getD_some]
        refine wpQuiet_nil ?_
        refine heavyB_want (by rfl) (fun K' hK' => ?_)
        go_simp
        refine hK' _ _ ((Below.refl _ _).alloc (by omega) _) ?_
        clear hK' K'
        have hq1 := al (Below.refl _ X1) (.cells #[.slice xu rj.l.length cu] 22)
        have ny : (X1.alloc (.cells #[.slice xu rj.l.length cu] 22)).cell? ⟨X1.heap.size, 0, none⟩ = some (.slice xu rj.l.length cu) := by go_simp
        replace c19 := later hq1 c19
        replace f19 := (Below.frozen hq1 (by simp <;> omega)).trans f19
        replace ho := ho.later hq1
        replace hu := hu.later hq1
        replace ht := thru ht hq1
        have hzy : X1.heap.size < (X1.alloc (.cells #[.slice xu rj.l.length cu] 22)).heap.size := by simp
        obtain ⟨X2, hX2⟩ : ∃ Z : World, X1.alloc (.cells #[.slice xu rj.l.length cu] 22) = Z := ⟨_, rfl⟩
        rw [hX2] at ny c19 f19 ho hu ht hzy
        rw [hX2]
        clear hX2 hq1
        try simp only [Act.put, List.setIfInBounds_toArray, List.set_cons_zero, List.set_cons_succ]
        rw [wpSchedB]
        simp only [pick, List.map_nil, Array.getD_eq_getD_getElem?, List.getElem?_toArray, List.getElem?_cons_succ, List.getElem?_cons_zero, Option.getD_some]
        refine wpQuiet_nil ?_
        refine heavyB_want (by rfl) (fun K' hK' => ?_)
        refine wp_appR _ _ rfl (B := b4 + 1) (rs := rs) (cap := cj) (xa := xj) ho.row rfl (ad := ⟨X1.heap.size, 0, none⟩) (u := ⟨xu, cu, rj.l⟩) rfl ny (by omega) (by omega) (fun x' c' X3 h1 h2 h3 => hK' _ _ (h2.mono (by omega)) ?_)
        clear hK' K'
        replace c19 := later_lt h2 (a := ⟨b4, 0, none⟩) (by simp <;> omega) c19
        replace f19 := (h2.frozen (p := ⟨b4, 0, none⟩) (by simp <;> omega)).trans f19
        have ht3 : Below (b4 + 1) wr X3 := (ht.mono (by omega)).trans h2
        have ho3 := ho.app h1 h3 hu hap
        clear ho hu h2 h3 ny ht
        try simp only [Act.put, List.setIfInBounds_toArray, List.set_cons_zero, List.set_cons_succ]
        rw [wpSchedB]
        simp only [pick, List.map_cons, List.map_nil, Array.getD_eq_getD_getElem?, List.getElem?_toArray, List.getElem?_cons_succ, List.getElem?_cons_zero, Option.getD_some]
        repeat (first | go_big_quiet_step (fail) | quiet_step (fail))
        refine wpQuiet_nil ?_
        refine heavyB_want (by rfl) (fun K' hK' => ?_)
        go_simp
        refine hK' _ _ ((Below.refl _ _).setCell (p := ⟨b4, 0, none⟩) (Nat.le_refl _) _) ?_
        clear hK' K'
        try simp only [Act.put, List.setIfInBounds_toArray, List.set_cons_zero, List.set_cons_succ]
        rw [wpSchedB]
        simp only [List.map_nil]
        refine wpQuiet_nil ?_
        have hz3 : b4 < X3.heap.size := by have := ht3.size; omega
        have hB3 : Below w.heap.size w X3 := hB.trans (ht3.mono (by omega))
        have r19 := later_lt ht3 (a := ⟨w.heap.size + 1, 0, none⟩) (by simp <;> omega) r19
        have g19 := (ht3.frozen (p := ⟨w.heap.size + 1, 0, none⟩) (by simp <;> omega)).trans g19
        clear ht3
        go_wp2_with fail
        exact ⟨⟨j + 1, x', c', rs ++ [⟨xu, cu, rj.l⟩], by omega, by go_num, ho3.turnB ((Turns.refl (fun b => b = b4) X3).setCell (p := ⟨b4, 0, none⟩) (fun _ => rfl) _) (fun b hb _ e => by have e' : b = b4 := e; omega), by rw [HT.out, List.map_append, HM.out]; rfl, by rw [World.cell?_setCell_same' _ _ _ (by rw [c19]; rfl)]; simp, by rw [World.frozen?_setCell]; exact f19, hB3.setCell (p := ⟨b4, 0, none⟩) (by simp <;> omega) _, by simp <;> omega, by go_simp, by go_simp⟩, by simp [intOf]; omega⟩
      · refine heavyB_want (by rfl) (fun K' hK' => ?_)
        go_simp
        refine (clone_any rj.x rj.l rj.c _ hrj.1 hll).mono ?_
        rintro e X1 ⟨xu, cu, rfl, hu0, hb⟩
        refine hK' _ _ (hb.mono (by omega)) ?_
        clear hK' K'
        have hap : ∀ r, r ∈ rs → Apart r ⟨xu, cu, rj.l⟩ := fun r hr b h1 h2 => by have h3 := ((ho.each r hr).low b h1).2; have h4 := (hu0.low b h2).1; omega
        have hu : OwnsB (b4 + 1) X1 xu cu rj.l := hu0.weaken (by omega)
        clear hu0
        replace c19 := later hb c19
        replace f19 := (Below.frozen hb (by simp <;> omega)).trans f19
        replace ho := ho.later hb
        replace ht := thru ht hb
        have hz1 := hb.size
        replace hzX : b4 + 1 ≤ X1.heap.size := by omega
        clear hb hz1 hrj
        try simp only [Act.put, List.setIfInBounds_toArray, List.set_cons_zero, List.set_cons_succ]
        rw [wpSchedB]
        simp only [pick, List.map_nil, Array.getD_eq_getD_getElem?, List.getElem?_toArray, List.getElem?_cons_succ, List.getElem?_cons_zero, Option.getD_some]
        refine wpQuiet_nil ?_
        refine ⟨?_, ?_⟩
        · refine heavyB_want (by rfl) (fun K' hK' => ?_)
          go_simp
          refine hK' _ _ (Below.refl _ _) ?_
          clear hK' K'
          try simp only [Act.put, List.setIfInBounds_toArray, List.set_cons_zero, List.set_cons_succ]
          rw [wpSchedB]
          simp only [pick, List.map_nil, Array.getD_eq_getD_getElem?, List.getElem?_toArray, List.getElem?_cons_succ, List.getElem?_cons_zero, Option.getD_some]
          refine wpQuiet_nil ?_
          refine heavyB_want (by rfl) (fun K' hK' => ?_)
          go_simp
          refine hK' _ _ ((Below.refl _ _).alloc (by omega) _) ?_
          clear hK' K'
          have hq1 := al (Below.refl _ X1) (.cells #[.slice xu rj.l.length cu] 22)
          have ny : (X1.alloc (.cells #[.slice xu rj.l.length cu] 22)).cell? ⟨X1.heap.size, 0, none⟩ = some (.slice xu rj.l.length cu) := by go_simp
          replace c19 := later hq1 c19
          replace f19 := (Below.frozen hq1 (by simp <;> omega)).trans f19
          replace ho := ho.later hq1
          replace hu := hu.later hq1
          replace ht := thru ht hq1
          have hzy : X1.heap.size < (X1.alloc (.cells #[.slice xu rj.l.length cu] 22)).heap.size := by simp
          obtain ⟨X2, hX2⟩ : ∃ Z : World, X1.alloc (.cells #[.slice xu rj.l.length cu] 22) = Z := ⟨_, rfl⟩
          rw [hX2] at ny c19 f19 ho hu ht hzy
          rw [hX2]
          clear hX2 hq1
          try simp only [Act.put, List.setIfInBounds_toArray, List.set_cons_zero, List.set_cons_succ]
          rw [wpSchedB]
          simp only [pick, List.map_nil, Array.getD_eq_getD_getElem?, List.getElem?_toArray, List.getElem?_cons_succ, List.getElem?_cons_zero, Option.getD_some]
          refine wpQuiet_nil ?_
          refine heavyB_want (by rfl) (fun K' hK' => ?_)
          refine wp_appR _ _ rfl (B := b4 + 1) (rs := rs) (cap := cj) (xa := xj) ho.row rfl (ad := ⟨X1.heap.size, 0, none⟩) (u := ⟨xu, cu, rj.l⟩) rfl ny (by omega) (by omega) (fun x' c' X3 h1 h2 h3 => hK' _ _ (h2.mono (by omega)) ?_)
          clear hK' K'
          replace c19 := later_lt h2 (a := ⟨b4, 0, none⟩) (by simp <;> omega) c19
          replace f19 := (h2.frozen (p := ⟨b4, 0, none⟩) (by simp <;> omega)).trans f19
          have ht3 : Below (b4 + 1) wr X3 := (ht.mono (by omega)).trans h2
          have ho3 := ho.app h1 h3 hu hap
          clear ho hu h2 h3 ny ht
          try simp only [Act.put, List.setIfInBounds_toArray, List.set_cons_zero, List.set_cons_succ]
          rw [wpSchedB]
          simp only [pick, List.map_cons, List.map_nil, Array.getD_eq_getD_getElem?, List.getElem?_toArray, List.getElem?_cons_succ, List.getElem?_cons_zero, Option.getD_some]
          repeat (first | go_big_quiet_step (fail) | quiet_step (fail))
          refine wpQuiet_nil ?_
          refine heavyB_want (by rfl) (fun K' hK' => ?_)
          go_simp
          refine hK' _ _ ((Below.refl _ _).setCell (p := ⟨b4, 0, none⟩) (Nat.le_refl _) _) ?_
          clear hK' K'
          try simp only [Act.put, List.setIfInBounds_toArray, List.set_cons_zero, List.set_cons_succ]
          rw [wpSchedB]
          simp only [List.map_nil]
          refine wpQuiet_nil ?_
          have hz3 : b4 < X3.heap.size := by have := ht3.size; omega
          have hB3 : Below w.heap.size w X3 := hB.trans (ht3.mono (by omega))
          have r19 := later_lt ht3 (a := ⟨w.heap.size + 1, 0, none⟩) (by simp <;> omega) r19
          have g19 := (ht3.frozen (p := ⟨w.heap.size + 1, 0, none⟩) (by simp <;> omega)).trans g19
          clear ht3
          go_wp2_with fail
          exact ⟨⟨j + 1, x', c', rs ++ [⟨xu, cu, rj.l⟩], by omega, by go_num, ho3.turnB ((Turns.refl (fun b => b = b4) X3).setCell (p := ⟨b4, 0, none⟩) (fun _ => rfl) _) (fun b hb _ e => by have e' : b = b4 := e; omega), by rw [HT.out, List.map_append, HM.out]; rfl, by rw [World.cell?_setCell_same' _ _ _ (by rw [c19]; rfl)]; simp, by rw [World.frozen?_setCell]; exact f19, hB3.setCell (p := ⟨b4, 0, none⟩) (by simp <;> omega) _, by simp <;> omega, by go_simp, by go_simp⟩, by simp [intOf]; omega⟩
        · refine heavyB_want (by rfl) (fun K' hK' => ?_)
          go_simp
          refine hK' _ _ ((Below.refl _ _).alloc (by omega) _) ?_
          clear hK' K'
          have hq1 := al (Below.refl _ X1) (.cells #[.slice xu rj.l.length cu] 22)
          have ny : (X1.alloc (.cells #[.slice xu rj.l.length cu] 22)).cell? ⟨X1.heap.size, 0, none⟩ = some (.slice xu rj.l.length cu) := by go_simp
          replace c19 := later hq1 c19
          replace f19 := (Below.frozen hq1 (by simp <;> omega)).trans f19
          replace ho := ho.later hq1
          replace hu := hu.later hq1
          replace ht := thru ht hq1
          have hzy : X1.heap.size < (X1.alloc (.cells #[.slice xu rj.l.length cu] 22)).heap.size := by simp
          obtain ⟨X2, hX2⟩ : ∃ Z : World, X1.alloc (.cells #[.slice xu rj.l.length cu] 22) = Z := ⟨_, rfl⟩
          rw [hX2] at ny c19 f19 ho hu ht hzy
          rw [hX2]
          clear hX2 hq1
          try simp only [Act.put, List.setIfInBounds_toArray, List.set_cons_zero, List.set_cons_succ]
          rw [wpSchedB]
          simp only [pick, List.map_nil, Array.getD_eq_getD_getElem?, List.getElem?_toArray, List.getElem?_cons_succ, List.getElem?_cons_zero, Option.getD_some]
          refine wpQuiet_nil ?_
          refine heavyB_want (by rfl) (fun K' hK' => ?_)
          go_simp
          refine hK' _ _ (Below.refl _ _) ?_
          clear hK' K'
          try simp only [Act.put, List.setIfInBounds_toArray, List.set_cons_zero, List.set_cons_succ]
          rw [wpSchedB]
          simp only [pick, List.map_nil, Array.getD_eq_getD_getElem?, List.getElem?_toArray, List.getElem?_cons_succ, List.getElem?_cons_zero, Option.getD_some]
          refine wpQuiet_nil ?_
          refine heavyB_want (by rfl) (fun K' hK' => ?_)
          refine wp_appR _ _ rfl (B := b4 + 1) (rs := rs) (cap := cj) (xa := xj) ho.row rfl (ad := ⟨X1.heap.size, 0, none⟩) (u := ⟨xu, cu, rj.l⟩) rfl ny (by omega) (by omega) (fun x' c' X3 h1 h2 h3 => hK' _ _ (h2.mono (by omega)) ?_)
          clear hK' K'
          replace c19 := later_lt h2 (a := ⟨b4, 0, none⟩) (by simp <;> omega) c19
          replace f19 := (h2.frozen (p := ⟨b4, 0, none⟩) (by simp <;> omega)).trans f19
          have ht3 : Below (b4 + 1) wr X3 := (ht.mono (by omega)).trans h2
          have ho3 := ho.app h1 h3 hu hap
          clear ho hu h2 h3 ny ht
          try simp only [Act.put, List.setIfInBounds_toArray, List.set_cons_zero, List.set_cons_succ]
          rw [wpSchedB]
          simp only [pick, List.map_cons, List.map_nil, Array.getD_eq_getD_getElem?, List.getElem?_toArray, List.getElem?_cons_succ, List.getElem?_cons_zero, Option.getD_some]
          repeat (first | go_big_quiet_step (fail) | quiet_step (fail))
          refine wpQuiet_nil ?_
          refine heavyB_want (by rfl) (fun K' hK' => ?_)
          go_simp
          refine hK' _ _ ((Below.refl _ _).setCell (p := ⟨b4, 0, none⟩) (Nat.le_refl _) _) ?_
          clear hK' K'
          try simp only [Act.put, List.setIfInBounds_toArray, List.set_cons_zero, List.set_cons_succ]
          rw [wpSchedB]
          simp only [List.map_nil]
          refine wpQuiet_nil ?_
          have hz3 : b4 < X3.heap.size := by have := ht3.size; omega
          have hB3 : Below w.heap.size w X3 := hB.trans (ht3.mono (by omega))
          have r19 := later_lt ht3 (a := ⟨w.heap.size + 1, 0, none⟩) (by simp <;> omega) r19
          have g19 := (ht3.frozen (p := ⟨w.heap.size + 1, 0, none⟩) (by simp <;> omega)).trans g19
          clear ht3
          go_wp2_with fail
          exact ⟨⟨j + 1, x', c', rs ++ [⟨xu, cu, rj.l⟩], by omega, by go_num, ho3.turnB ((Turns.refl (fun b => b = b4) X3).setCell (p := ⟨b4, 0, none⟩) (fun _ => rfl) _) (fun b hb _ e => by have e' : b = b4 := e; omega), by rw [HT.out, List.map_append, HM.out]; rfl, by rw [World.cell?_setCell_same' _ _ _ (by rw [c19]; rfl)]; simp, by rw [World.frozen?_setCell]; exact f19, hB3.setCell (p := ⟨b4, 0, none⟩) (by simp <;> omega) _, by simp <;> omega, by go_simp, by go_simp⟩, by simp [intOf]; omega⟩
    · obtain rfl : j = rs0.length := by omega
      have HM : Hid (rs.map (·.l) = rs0.map (·.l)) := by show _ = _; rw [hm, List.take_of_length_le (by simp)]
      clear hm
      rw [hlen] at c19
      go_wp2_with fail
      have er : (wr.setCell ⟨w.heap.size + 1, 0, none⟩ (.slice xj rs0.length cj)).cell? ⟨w.heap.size + 1, 0, none⟩ = some (.slice xj rs0.length cj) := World.cell?_setCell_same' _ _ _ (by rw [r19]; rfl)
      refine bodyPost_ret (v := .agg #[.slice xj rs0.length cj]) (by simp [results, Tryz.results56, go_sem, er]) rfl ⟨xj, cj, rs, by rw [hlen], (ho.weaken (by omega)).turn ((Turns.refl (fun b => b = w.heap.size + 1) wr).setCell (p := ⟨w.heap.size + 1, 0, none⟩) (fun _ => rfl) _) (fun b hb e => by have h0 := (ho.row.low b hb).1; have e' : b = w.heap.size + 1 := e; omega) (fun r hr b hb e => by have h0 := ((ho.each r hr).low b hb).1; have e' : b = w.heap.size + 1 := e; omega), HM.out, hB.setCell (p := ⟨w.heap.size + 1, 0, none⟩) (by simp <;> omega) _⟩
end

section
open Go.RowKit

def NewB (B : Nat) (w : World) (r : Rw) : Prop := ∃ g, r = ⟨some ⟨g, 0, none⟩, 54, erasedL⟩ ∧ B ≤ g ∧ Bts w (some ⟨g, 0, none⟩) erasedL ∧ ∃ k, w.shape? g = some (134, k)
theorem shape_lt {w : World} {r : Nat} {p : TypeId × Nat} (hs : w.shape? r = some p) : r < w.heap.size := by
  unfold World.shape? at hs
  cases hq : w.heap[r]? with
  | none => rw [hq] at hs; cases hs
  | some ob => exact (Array.getElem?_eq_some_iff.1 hq).1
theorem NewB.turn {B : Nat} {w w' : World} {r : Rw} {T : Nat → Prop} (h : NewB B w r) (ht : Turns T w w') (hT : ∀ b, RowOf r.x b → ¬ T b) : NewB B w' r := by
  obtain ⟨g, rfl, hg, hbt, k, hk⟩ := h
  exact ⟨g, rfl, hg, hbt.turn ht (fun a ha => by cases ha; exact hT g rfl), k, shape_turn ht (hT g rfl) hk⟩
theorem NewB.low {B : Nat} {w : World} {r : Rw} (h : NewB B w r) : ∀ b, RowOf r.x b → B ≤ b ∧ b < w.heap.size := by
  obtain ⟨g, rfl, hg, _, k, hk⟩ := h
  intro b hb
  cases hb
  exact ⟨hg, shape_lt hk⟩
theorem NewB.later {B : Nat} {w w' : World} {r : Rw} (h : NewB B w r) (hb : Below w.heap.size w w') : NewB B w' r := h.turn (Turns.of_below hb (Nat.le_refl _)) (fun _ _ h => h)
theorem NewB.rwOk {B : Nat} {w : World} {r : Rw} (h : NewB B w r) : RwOk w r := by
  obtain ⟨g, rfl, _, hb, _⟩ := h
  exact ⟨hb, fun h => by simp at h, show erasedL.length ≤ 54 by decide, show 54 ≤ 9223372036854775807 by decide⟩
theorem OwnsR.apartN {B B' : Nat} {w : World} {x : Option Addr} {cap : Nat} {rs : List Rw} {r : Rw} (h : OwnsR B w x cap rs) (k : NewB B' w r) : ∀ b, RowOf x b → ¬ RowOf r.x b := by
  intro b hb hy
  obtain ⟨g, rfl, _, _, k, hk⟩ := k
  cases hy
  rcases h.2 with ⟨hv, _⟩ | ⟨g2, cap', cur, hv, _, hg, _⟩
  · simp only [Value.slice.injEq] at hv
    rw [hv.1] at hb; cases hb
  · simp only [Value.slice.injEq] at hv
    rw [hv.1] at hb; cases hb
    unfold World.shape? at hk
    rw [hg] at hk
    simp at hk
/-- A row of erased blocks, all new. -/
structure OwnsN (B : Nat) (w : World) (x : Option Addr) (cap : Nat) (rs : List Rw) : Prop where
  row : OwnsR B w x cap rs
  each : ∀ r, r ∈ rs → NewB B w r
theorem OwnsN.turnB {B : Nat} {w w' : World} {x : Option Addr} {cap : Nat} {rs : List Rw} {T : Nat → Prop} (h : OwnsN B w x cap rs) (ht : Turns T w w') (hT : ∀ b, B ≤ b → b < w.heap.size → ¬ T b) : OwnsN B w' x cap rs :=
  ⟨h.row.turn ht (fun b hb => hT b (h.row.low b hb).1 (h.row.low b hb).2), fun r hr => (h.each r hr).turn ht (fun b hb => hT b ((h.each r hr).low b hb).1 ((h.each r hr).low b hb).2)⟩
theorem OwnsN.later {B : Nat} {w w' : World} {x : Option Addr} {cap : Nat} {rs : List Rw} (h : OwnsN B w x cap rs) (hb : Below w.heap.size w w') : OwnsN B w' x cap rs :=
  h.turnB (Turns.of_below hb (Nat.le_refl _)) (fun _ _ _ h => h)
theorem OwnsN.rws {B : Nat} {w : World} {x : Option Addr} {cap : Nat} {rs : List Rw} (h : OwnsN B w x cap rs) : Rws w x rs := ⟨h.row.cellsR, fun r hr => (h.each r hr).rwOk⟩
theorem OwnsN.app {B : Nat} {w w' : World} {xa x' : Option Addr} {cap cap' : Nat} {rs : List Rw} {u : Rw} (h : OwnsN B w xa cap rs) (h1 : OwnsR B w' x' cap' (rs ++ [u])) (ht : Turns (RowOf xa) w w') (hu : NewB B w u) : OwnsN B w' x' cap' (rs ++ [u]) := by
  refine ⟨h1, fun r hr => ?_⟩
  rcases List.mem_append.1 hr with hr | hr
  · exact (h.each r hr).turn ht (fun b hb hx => h.row.apartN (h.each r hr) b hx hb)
  · obtain rfl : r = u := by simpa using hr
    exact hu.turn ht (fun b hb hx => h.row.apartN hu b hx hb)
theorem OwnsN.ls {B : Nat} {w : World} {x : Option Addr} {cap : Nat} {rs : List Rw} (h : OwnsN B w x cap rs) : rs.map (·.l) = List.replicate rs.length erasedL := by
  rw [List.eq_replicate_iff]
  refine ⟨by simp, fun l hl => ?_⟩
  obtain ⟨r, hr, rfl⟩ := List.mem_map.1 hl
  obtain ⟨g, rfl, _⟩ := h.each r hr
  rfl
def NewRel (n : Nat) (w : World) (b4 : Nat) (u13 : Value) (wr : World) : Prop :=
  ∃ rs x c, rs.length ≤ n ∧ u13 = .int .i64 (rs.length : Int) ∧ OwnsN (b4 + 1) wr x c rs ∧ wr.cell? ⟨b4, 0, none⟩ = some (.slice x rs.length c) ∧ wr.frozen? ⟨b4, 0, none⟩ = false ∧ Below w.heap.size w wr ∧ b4 < wr.heap.size ∧ wr.cell? ⟨w.heap.size, 0, none⟩ = some (.slice none 0 0) ∧ wr.frozen? ⟨w.heap.size, 0, none⟩ = false
def NewOf (n : Nat) (w : World) (e : Ending) (w' : World) : Prop := ∃ x c rs, e = .returned (.tuple #[.agg #[.slice x rs.length c], .int .i64 0]) ∧ rs.length = n ∧ OwnsN w.heap.size w' x c rs ∧ Below w.heap.size w w'
set_option maxHeartbeats 4000000 in
theorem new_yes (n : Nat) (w : World) (hn : 1 ≤ n ∧ n ≤ 64) : Calls Tryz.prog 21 #[.int .i64 (n : Int)] w (NewOf n w) := by
  have hB := Below.refl w.heap.size w
  have d1 : decide ((n : Int) < 1) = false := decide_eq_false (by omega)
  have d2 : decide (64 < (n : Int)) = false := decide_eq_false (by omega)
  have d1n : decide (n < 1) = false := decide_eq_false (by omega)
  have d2n : decide (64 < n) = false := decide_eq_false (by omega)
  go_enter Tryz.func21, Tryz.ntmps21
  go_wp2_with fail
  obtain ⟨b4, hb4⟩ : ∃ b, w.heap.size + 1 = b := ⟨_, rfl⟩
  rw [hb4]
  go_loopw [13] (fun u13 wr => NewRel n w b4 u13 wr) (fun u13 _ => n - (intOf u13).toNat)
  case atStart => exact ⟨[], none, 0, by simp, rfl, ⟨OwnsR.nil _ _, fun r hr => by simp at hr⟩, by rw [← hb4]; go_simp, by rw [← hb4]; go_simp, al (al hB _) _, by simp <;> omega, by go_simp, by go_simp⟩
  case round =>
    clear hB d1 d2 d1n d2n
    obtain ⟨rs, xj, cj, hj, rfl, ho, c19, f19, hB, hzw, r19, g19⟩ := hrel
    by_cases hlt : rs.length < n
    · have d1 : decide ((rs.length : Int) < (n : Int)) = true := by simp; omega
      have hrl : rs.length ≤ 1000 := by omega
      go_wp2_with fail
      refine wp_region_schedB (B := b4) (fun X => X.cell? ⟨b4, 0, none⟩ = some (.slice xj rs.length cj) ∧ X.frozen? ⟨b4, 0, none⟩ = false ∧ OwnsN (b4 + 1) X xj cj rs ∧ Below wr.heap.size wr X ∧ b4 + 1 ≤ X.heap.size) (.two [0] 1 (.one [] 2 (.one [] 3 (.one [] 4 (.one [5] 6 (.done []))))) 2 (.two [] 1 (.one [] 3 (.one [] 4 (.one [5] 6 (.done [])))) 3 (.one [] 1 (.one [] 4 (.one [5] 6 (.done [])))))) (by kernel_rfl) (by kernel_rfl) (fun _ _ _ _ _ h => h) ⟨c19, f19, ho.turnB ((Turns.refl (fun _ => False) wr).drew) (fun _ _ _ e => e), (Below.refl _ _).drew, by simp <;> omega⟩ ?_
      clear c19 f19 ho
      rintro X ⟨c19, f19, ho, ht, hzX⟩
      rw [wpSchedB]
      simp only [pick, List.map_cons, List.map_nil, Array.getD_eq_getD_getElem?, List.getElem?_toArray, List.getElem?_cons_succ, List.getElem?_cons_zero, Option.getD_some]
      repeat (first | go_big_quiet_step (fail) | quiet_step (fail))
      refine wpQuiet_nil ?_
      refine ⟨?_, ?_⟩
      · refine heavyB_want (by rfl) (fun K' hK' => ?_)
        go_simp
        refine hK' _ _ (Below.refl _ _) ?_
        clear hK' K'
        try simp only [Act.put, List.setIfInBounds_toArray, List.set_cons_zero, List.set_cons_succ]
        rw [wpSchedB]
        simp only [pick, List.map_nil, Array.getD_eq_getD_getElem?, List.getElem?_toArray, List.getElem?_cons_succ, List.getElem?_cons_zero, Option.getD_some]
        refine wpQuiet_nil ?_
        refine heavyB_want (by rfl) (fun K' hK' => ?_)
        go_simp
        refine (erased_any _).mono ?_
        rintro e X1 ⟨g, rfl, hg, hgz, hbt, hsh, hb⟩
        refine hK' _ _ (hb.mono (by omega)) ?_
        clear hK' K'
        have hu : NewB (b4 + 1) X1 ⟨some ⟨g, 0, none⟩, 54, erasedL⟩ := ⟨g, rfl, by omega, hbt, hsh⟩
        clear hbt hsh
        replace c19 := later hb c19
        replace f19 := (Below.frozen hb (by simp <;> omega)).trans f19
        replace ho := ho.later hb
        replace ht := thru ht hb
        have hz1 := hb.size
        replace hzX : b4 + 1 ≤ X1.heap.size := by omega
        clear hb hz1 
        try simp only [Act.put, List.setIfInBounds_toArray, List.set_cons_zero, List.set_cons_succ]
        rw [wpSchedB]
        simp only [pick, List.map_nil, Array.getD_eq_getD_getElem?, List.getElem?_toArray, List.getElem?_cons_succ, List.getElem?_cons_zero, Option.getD_some]
        refine wpQuiet_nil ?_
        refine heavyB_want (by rfl) (fun K' hK' => ?_)
        go_simp
        refine hK' _ _ ((Below.refl _ _).alloc (by omega) _) ?_
        clear hK' K'
        have hq1 := al (Below.refl _ X1) (.cells #[.slice (some ⟨g, 0, none⟩) 54 54] 22)
        have ny : (X1.alloc (.cells #[.slice (some ⟨g, 0, none⟩) 54 54] 22)).cell? ⟨X1.heap.size, 0, none⟩ = some (.slice (some ⟨g, 0, none⟩) 54 54) := by go_simp
        replace c19 := later hq1 c19
        replace f19 := (Below.frozen hq1 (by simp <;> omega)).trans f19
        replace ho := ho.later hq1
        replace hu := hu.later hq1
        replace ht := thru ht hq1
        have hzy : X1.heap.size < (X1.alloc (.cells #[.slice (some ⟨g, 0, none⟩) 54 54] 22)).heap.size := by simp
        obtain ⟨X2, hX2⟩ : ∃ Z : World, X1.alloc (.cells #[.slice (some ⟨g, 0, none⟩) 54 54] 22) = Z := ⟨_, rfl⟩
        rw [hX2] at ny c19 f19 ho hu ht hzy
        rw [hX2]
        clear hX2 hq1
        try simp only [Act.put, List.setIfInBounds_toArray, List.set_cons_zero, List.set_cons_succ]
        rw [wpSchedB]
        simp only [pick, List.map_nil, Array.getD_eq_getD_getElem?, List.getElem?_toArray, List.getElem?_cons_succ, List.getElem?_cons_zero, Option.getD_some]
        refine wpQuiet_nil ?_
        refine heavyB_want (by rfl) (fun K' hK' => ?_)
        refine wp_appR _ _ rfl (B := b4 + 1) (rs := rs) (cap := cj) (xa := xj) ho.row rfl (ad := ⟨X1.heap.size, 0, none⟩) (u := ⟨some ⟨g, 0, none⟩, 54, erasedL⟩) rfl ny (by omega) (by omega) (fun x' c' X3 h1 h2 h3 => hK' _ _ (h2.mono (by omega)) ?_)
        clear hK' K'
        replace c19 := later_lt h2 (a := ⟨b4, 0, none⟩) (by simp <;> omega) c19
        replace f19 := (h2.frozen (p := ⟨b4, 0, none⟩) (by simp <;> omega)).trans f19
        have ht3 : Below (b4 + 1) wr X3 := (ht.mono (by omega)).trans h2
        have ho3 := ho.app h1 h3 hu
        have hlen1 : ((rs ++ [⟨some ⟨g, 0, none⟩, 54, erasedL⟩] : List Rw).length : Int) = (rs.length : Int) + 1 := by simp
        clear ho hu h2 h3 ny ht
        try simp only [Act.put, List.setIfInBounds_toArray, List.set_cons_zero, List.set_cons_succ]
        rw [wpSchedB]
        simp only [pick, List.map_cons, List.map_nil, Array.getD_eq_getD_getElem?, List.getElem?_toArray, List.getElem?_cons_succ, List.getElem?_cons_zero, Option.getD_some]
        repeat (first | go_big_quiet_step (fail) | quiet_step (fail))
        refine wpQuiet_nil ?_
        refine heavyB_want (by rfl) (fun K' hK' => ?_)
        go_simp
        refine hK' _ _ ((Below.refl _ _).setCell (p := ⟨b4, 0, none⟩) (Nat.le_refl _) _) ?_
        clear hK' K'
        try simp only [Act.put, List.setIfInBounds_toArray, List.set_cons_zero, List.set_cons_succ]
        rw [wpSchedB]
        simp only [List.map_nil]
        refine wpQuiet_nil ?_
        have hz3 : b4 < X3.heap.size := by have := ht3.size; omega
        have hB3 : Below w.heap.size w X3 := hB.trans (ht3.mono (by omega))
        have r19 := later_lt ht3 (a := ⟨w.heap.size, 0, none⟩) (by simp <;> omega) r19
        have g19 := (ht3.frozen (p := ⟨w.heap.size, 0, none⟩) (by simp <;> omega)).trans g19
        clear ht3
        go_wp2_with fail
        exact ⟨⟨rs ++ [⟨some ⟨g, 0, none⟩, 54, erasedL⟩], x', c', by simp; omega, by rw [hlen1], ho3.turnB ((Turns.refl (fun b => b = b4) X3).setCell (p := ⟨b4, 0, none⟩) (fun _ => rfl) _) (fun b hb _ e => by have e' : b = b4 := e; omega), by rw [World.cell?_setCell_same' _ _ _ (by rw [c19]; rfl)]; simp, by rw [World.frozen?_setCell]; exact f19, hB3.setCell (p := ⟨b4, 0, none⟩) (by simp <;> omega) _, by simp <;> omega, by go_simp, by go_simp⟩, by simp [intOf]; omega⟩
      · refine heavyB_want (by rfl) (fun K' hK' => ?_)
        go_simp
        refine (erased_any _).mono ?_
        rintro e X1 ⟨g, rfl, hg, hgz, hbt, hsh, hb⟩
        refine hK' _ _ (hb.mono (by omega)) ?_
        clear hK' K'
        have hu : NewB (b4 + 1) X1 ⟨some ⟨g, 0, none⟩, 54, erasedL⟩ := ⟨g, rfl, by omega, hbt, hsh⟩
        clear hbt hsh
        replace c19 := later hb c19
        replace f19 := (Below.frozen hb (by simp <;> omega)).trans f19
        replace ho := ho.later hb
        replace ht := thru ht hb
        have hz1 := hb.size
        replace hzX : b4 + 1 ≤ X1.heap.size := by omega
        clear hb hz1 
        try simp only [Act.put, List.setIfInBounds_toArray, List.set_cons_zero, List.set_cons_succ]
        rw [wpSchedB]
        simp only [pick, List.map_nil, Array.getD_eq_getD_getElem?, List.getElem?_toArray, List.getElem?_cons_succ, List.getElem?_cons_zero, Option.getD_some]
        refine wpQuiet_nil ?_
        refine ⟨?_, ?_⟩
        · refine heavyB_want (by rfl) (fun K' hK' => ?_)
          go_simp
          refine hK' _ _ (Below.refl _ _) ?_
          clear hK' K'
          try simp only [Act.put, List.setIfInBounds_toArray, List.set_cons_zero, List.set_cons_succ]
          rw [wpSchedB]
          simp only [pick, List.map_nil, Array.getD_eq_getD_getElem?, List.getElem?_toArray, List.getElem?_cons_succ, List.getElem?_cons_zero, Option.getD_some]
          refine wpQuiet_nil ?_
          refine heavyB_want (by rfl) (fun K' hK' => ?_)
          go_simp
          refine hK' _ _ ((Below.refl _ _).alloc (by omega) _) ?_
          clear hK' K'
          have hq1 := al (Below.refl _ X1) (.cells #[.slice (some ⟨g, 0, none⟩) 54 54] 22)
          have ny : (X1.alloc (.cells #[.slice (some ⟨g, 0, none⟩) 54 54] 22)).cell? ⟨X1.heap.size, 0, none⟩ = some (.slice (some ⟨g, 0, none⟩) 54 54) := by go_simp
          replace c19 := later hq1 c19
          replace f19 := (Below.frozen hq1 (by simp <;> omega)).trans f19
          replace ho := ho.later hq1
          replace hu := hu.later hq1
          replace ht := thru ht hq1
          have hzy : X1.heap.size < (X1.alloc (.cells #[.slice (some ⟨g, 0, none⟩) 54 54] 22)).heap.size := by simp
          obtain ⟨X2, hX2⟩ : ∃ Z : World, X1.alloc (.cells #[.slice (some ⟨g, 0, none⟩) 54 54] 22) = Z := ⟨_, rfl⟩
          rw [hX2] at ny c19 f19 ho hu ht hzy
          rw [hX2]
          clear hX2 hq1
          try simp only [Act.put, List.setIfInBounds_toArray, List.set_cons_zero, List.set_cons_succ]
          rw [wpSchedB]
          simp only [pick, List.map_nil, Array.getD_eq_getD_getElem?, List.getElem?_toArray, List.getElem?_cons_succ, List.getElem?_cons_zero, Option.getD_some]
          refine wpQuiet_nil ?_
          refine heavyB_want (by rfl) (fun K' hK' => ?_)
          refine wp_appR _ _ rfl (B := b4 + 1) (rs := rs) (cap := cj) (xa := xj) ho.row rfl (ad := ⟨X1.heap.size, 0, none⟩) (u := ⟨some ⟨g, 0, none⟩, 54, erasedL⟩) rfl ny (by omega) (by omega) (fun x' c' X3 h1 h2 h3 => hK' _ _ (h2.mono (by omega)) ?_)
          clear hK' K'
          replace c19 := later_lt h2 (a := ⟨b4, 0, none⟩) (by simp <;> omega) c19
          replace f19 := (h2.frozen (p := ⟨b4, 0, none⟩) (by simp <;> omega)).trans f19
          have ht3 : Below (b4 + 1) wr X3 := (ht.mono (by omega)).trans h2
          have ho3 := ho.app h1 h3 hu
          have hlen1 : ((rs ++ [⟨some ⟨g, 0, none⟩, 54, erasedL⟩] : List Rw).length : Int) = (rs.length : Int) + 1 := by simp
          clear ho hu h2 h3 ny ht
          try simp only [Act.put, List.setIfInBounds_toArray, List.set_cons_zero, List.set_cons_succ]
          rw [wpSchedB]
          simp only [pick, List.map_cons, List.map_nil, Array.getD_eq_getD_getElem?, List.getElem?_toArray, List.getElem?_cons_succ, List.getElem?_cons_zero, Option.getD_some]
          repeat (first | go_big_quiet_step (fail) | quiet_step (fail))
          refine wpQuiet_nil ?_
          refine heavyB_want (by rfl) (fun K' hK' => ?_)
          go_simp
          refine hK' _ _ ((Below.refl _ _).setCell (p := ⟨b4, 0, none⟩) (Nat.le_refl _) _) ?_
          clear hK' K'
          try simp only [Act.put, List.setIfInBounds_toArray, List.set_cons_zero, List.set_cons_succ]
          rw [wpSchedB]
          simp only [List.map_nil]
          refine wpQuiet_nil ?_
          have hz3 : b4 < X3.heap.size := by have := ht3.size; omega
          have hB3 : Below w.heap.size w X3 := hB.trans (ht3.mono (by omega))
          have r19 := later_lt ht3 (a := ⟨w.heap.size, 0, none⟩) (by simp <;> omega) r19
          have g19 := (ht3.frozen (p := ⟨w.heap.size, 0, none⟩) (by simp <;> omega)).trans g19
          clear ht3
          go_wp2_with fail
          exact ⟨⟨rs ++ [⟨some ⟨g, 0, none⟩, 54, erasedL⟩], x', c', by simp; omega, by rw [hlen1], ho3.turnB ((Turns.refl (fun b => b = b4) X3).setCell (p := ⟨b4, 0, none⟩) (fun _ => rfl) _) (fun b hb _ e => by have e' : b = b4 := e; omega), by rw [World.cell?_setCell_same' _ _ _ (by rw [c19]; rfl)]; simp, by rw [World.frozen?_setCell]; exact f19, hB3.setCell (p := ⟨b4, 0, none⟩) (by simp <;> omega) _, by simp <;> omega, by go_simp, by go_simp⟩, by simp [intOf]; omega⟩
        · refine heavyB_want (by rfl) (fun K' hK' => ?_)
          go_simp
          refine hK' _ _ ((Below.refl _ _).alloc (by omega) _) ?_
          clear hK' K'
          have hq1 := al (Below.refl _ X1) (.cells #[.slice (some ⟨g, 0, none⟩) 54 54] 22)
          have ny : (X1.alloc (.cells #[.slice (some ⟨g, 0, none⟩) 54 54] 22)).cell? ⟨X1.heap.size, 0, none⟩ = some (.slice (some ⟨g, 0, none⟩) 54 54) := by go_simp
          replace c19 := later hq1 c19
          replace f19 := (Below.frozen hq1 (by simp <;> omega)).trans f19
          replace ho := ho.later hq1
          replace hu := hu.later hq1
          replace ht := thru ht hq1
          have hzy : X1.heap.size < (X1.alloc (.cells #[.slice (some ⟨g, 0, none⟩) 54 54] 22)).heap.size := by simp
          obtain ⟨X2, hX2⟩ : ∃ Z : World, X1.alloc (.cells #[.slice (some ⟨g, 0, none⟩) 54 54] 22) = Z := ⟨_, rfl⟩
          rw [hX2] at ny c19 f19 ho hu ht hzy
          rw [hX2]
          clear hX2 hq1
          try simp only [Act.put, List.setIfInBounds_toArray, List.set_cons_zero, List.set_cons_succ]
          rw [wpSchedB]
          simp only [pick, List.map_nil, Array.getD_eq_getD_getElem?, List.getElem?_toArray, List.getElem?_cons_succ, List.getElem?_cons_zero, Option.getD_some]
          refine wpQuiet_nil ?_
          refine heavyB_want (by rfl) (fun K' hK' => ?_)
          go_simp
          refine hK' _ _ (Below.refl _ _) ?_
          clear hK' K'
          try simp only [Act.put, List.setIfInBounds_toArray, List.set_cons_zero, List.set_cons_succ]
          rw [wpSchedB]
          simp only [pick, List.map_nil, Array.getD_eq_getD_getElem?, List.getElem?_toArray, List.getElem?_cons_succ, List.getElem?_cons_zero, Option.getD_some]
          refine wpQuiet_nil ?_
          refine heavyB_want (by rfl) (fun K' hK' => ?_)
          refine wp_appR _ _ rfl (B := b4 + 1) (rs := rs) (cap := cj) (xa := xj) ho.row rfl (ad := ⟨X1.heap.size, 0, none⟩) (u := ⟨some ⟨g, 0, none⟩, 54, erasedL⟩) rfl ny (by omega) (by omega) (fun x' c' X3 h1 h2 h3 => hK' _ _ (h2.mono (by omega)) ?_)
          clear hK' K'
          replace c19 := later_lt h2 (a := ⟨b4, 0, none⟩) (by simp <;> omega) c19
          replace f19 := (h2.frozen (p := ⟨b4, 0, none⟩) (by simp <;> omega)).trans f19
          have ht3 : Below (b4 + 1) wr X3 := (ht.mono (by omega)).trans h2
          have ho3 := ho.app h1 h3 hu
          have hlen1 : ((rs ++ [⟨some ⟨g, 0, none⟩, 54, erasedL⟩] : List Rw).length : Int) = (rs.length : Int) + 1 := by simp
          clear ho hu h2 h3 ny ht
          try simp only [Act.put, List.setIfInBounds_toArray, List.set_cons_zero, List.set_cons_succ]
          rw [wpSchedB]
          simp only [pick, List.map_cons, List.map_nil, Array.getD_eq_getD_getElem?, List.getElem?_toArray, List.getElem?_cons_succ, List.getElem?_cons_zero, Option.getD_some]
          repeat (first | go_big_quiet_step (fail) | quiet_step (fail))
          refine wpQuiet_nil ?_
          refine heavyB_want (by rfl) (fun K' hK' => ?_)
          go_simp
          refine hK' _ _ ((Below.refl _ _).setCell (p := ⟨b4, 0, none⟩) (Nat.le_refl _) _) ?_
          clear hK' K'
          try simp only [Act.put, List.setIfInBounds_toArray, List.set_cons_zero, List.set_cons_succ]
          rw [wpSchedB]
          simp only [List.map_nil]
          refine wpQuiet_nil ?_
          have hz3 : b4 < X3.heap.size := by have := ht3.size; omega
          have hB3 : Below w.heap.size w X3 := hB.trans (ht3.mono (by omega))
          have r19 := later_lt ht3 (a := ⟨w.heap.size, 0, none⟩) (by simp <;> omega) r19
          have g19 := (ht3.frozen (p := ⟨w.heap.size, 0, none⟩) (by simp <;> omega)).trans g19
          clear ht3
          go_wp2_with fail
          exact ⟨⟨rs ++ [⟨some ⟨g, 0, none⟩, 54, erasedL⟩], x', c', by simp; omega, by rw [hlen1], ho3.turnB ((Turns.refl (fun b => b = b4) X3).setCell (p := ⟨b4, 0, none⟩) (fun _ => rfl) _) (fun b hb _ e => by have e' : b = b4 := e; omega), by rw [World.cell?_setCell_same' _ _ _ (by rw [c19]; rfl)]; simp, by rw [World.frozen?_setCell]; exact f19, hB3.setCell (p := ⟨b4, 0, none⟩) (by simp <;> omega) _, by simp <;> omega, by go_simp, by go_simp⟩, by simp [intOf]; omega⟩
    · obtain rfl : rs.length = n := by omega
      go_wp2_with fail
      have er : (wr.setCell ⟨w.heap.size, 0, none⟩ (.slice xj rs.length cj)).cell? ⟨w.heap.size, 0, none⟩ = some (.slice xj rs.length cj) := World.cell?_setCell_same' _ _ _ (by rw [r19]; rfl)
      refine bodyPost_ret (v := .tuple #[.agg #[.slice xj rs.length cj], .int .i64 0]) (by simp [results, Tryz.results21, go_sem, er]) rfl ⟨xj, cj, rs, rfl, rfl, ?_, hB.setCell (p := ⟨w.heap.size, 0, none⟩) (by simp <;> omega) _⟩
      have ho2 := ho.turnB ((Turns.refl (fun b => b = w.heap.size) wr).setCell (p := ⟨w.heap.size, 0, none⟩) (fun _ => rfl) (.slice xj rs.length cj)) (fun b hb _ e => by have e' : b = w.heap.size := e; omega)
      exact ⟨ho2.row.weaken (by omega), fun r hr => by obtain ⟨g, h1, h2, h3⟩ := ho2.each r hr; exact ⟨g, h1, by omega, h3⟩⟩
end

end Go.Proofs.YtapefonhgkjgnaaGreat
