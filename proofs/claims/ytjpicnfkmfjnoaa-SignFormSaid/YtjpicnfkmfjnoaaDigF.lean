/- WALKS of the digest layer: the reference's numbers (Left, Right, Byte, Add, Finish, Of). -/
import Derived.Test.YtjpicnfkmfjnoaaDigB
import Derived.Test.YtjpicnfkmfjnoaaAppend
namespace Go.Proofs.Ytjpicnfkmfjnoaa
open Go.RowKit

theorem dbl (x : D64) (j : Nat) : x <<< j + x <<< j = x <<< (j + 1) := by
  rw [BitVec.shiftLeft_add, show ∀ y : D64, y <<< 1 = y + y from fun y => by
    apply BitVec.eq_of_toNat_eq
    simp [BitVec.toNat_add, BitVec.toNat_shiftLeft, Nat.shiftLeft_eq]; omega]
theorem half1 (x : D64) (j : Nat) : num (x >>> j) / 2 = num (x >>> (j + 1)) := by
  rw [BitVec.shiftRight_add]; exact shr_of (x >>> j) 1
theorem rot_add (x : D64) : x <<< 20 + x >>> 44 = Dig.rot x := by
  unfold Dig.rot
  refine BitVec.add_eq_or_of_and_eq_zero _ _ ?_
  apply BitVec.eq_of_getLsbD_eq
  intro i hi
  by_cases h : i < 20
  · simp [h]
  · rw [BitVec.getLsbD_and, BitVec.getLsbD_ushiftRight, BitVec.getLsbD_of_ge x (44 + i) (by omega)]; simp

/-- Shifts by names that simp does not open. -/
def shl (x : D64) (k : Nat) : D64 := x <<< k
def shr (x : D64) (k : Nat) : D64 := x >>> k

theorem left_any (x : D64) (k : Nat) (w : World) (hk : k ≤ 1000) :
    Calls Try.prog 60 #[.int .u64 (num x), .int .i64 (k : Int)] w fun e w' => e = .returned (.int .u64 (num (shl x k))) ∧ w' = w := by
  have hz : x = shl x 0 := by simp [shl]
  have HZ := Lib.hid hz
  clear hz
  go_enter Try.func60, Try.ntmps60
  go_wp2_with fail
  go_loop [0, 5] (fun s i => ∃ j : Nat, j ≤ k ∧ i = .int .i64 (j : Int) ∧ s = .int .u64 (num (shl x j))) (fun _ i => k - (intOf i).toNat)
  case atStart => exact ⟨0, Nat.zero_le _, rfl, by rw [← HZ.out]⟩
  case round =>
    obtain ⟨j, hj, rfl, rfl⟩ := hrel
    by_cases hlt : j < k
    · go_wp2_with fail
      go_round
      case rel => exact ⟨j + 1, by omega, by go_num, by unfold shl; rw [dbl]⟩
      case measure => simp [intOf]; omega
    · obtain rfl : j = k := by omega
      go_wp2_with fail
      go_ret
      exact ⟨rfl, rfl⟩

theorem right_any (x : D64) (k : Nat) (w : World) (hk : k ≤ 1000) :
    Calls Try.prog 61 #[.int .u64 (num x), .int .i64 (k : Int)] w fun e w' => e = .returned (.int .u64 (num (shr x k))) ∧ w' = w := by
  have hz : x = shr x 0 := by simp [shr]
  have HZ := Lib.hid hz
  clear hz
  have hnn := fun j : Nat => num_nonneg (shr x j)
  go_enter Try.func61, Try.ntmps61
  go_wp2_with fail
  go_loop [0, 5] (fun s i => ∃ j : Nat, j ≤ k ∧ i = .int .i64 (j : Int) ∧ s = .int .u64 (num (shr x j))) (fun _ i => k - (intOf i).toNat)
  case atStart => exact ⟨0, Nat.zero_le _, rfl, by rw [← HZ.out]⟩
  case round =>
    obtain ⟨j, hj, rfl, rfl⟩ := hrel
    have h0 := hnn j
    have h1 := num_lt (shr x j)
    by_cases hlt : j < k
    · go_wp2_with fail
      go_round
      case rel => exact ⟨j + 1, by omega, by go_num, by unfold shr; rw [half1]⟩
      case measure => simp [intOf]; omega
    · obtain rfl : j = k := by omega
      go_wp2_with fail
      go_ret
      exact ⟨rfl, rfl⟩

theorem byte_any (x : D64) (v : UInt8) (w : World) :
    Calls Try.prog 62 #[.int .u64 (num x), .int .u8 (v.toNat : Int)] w fun e w' => e = .returned (.int .u64 (num (Dig.step x v))) ∧ w' = w := by
  have hv : (v.toNat : Int) = num (Dig.ofB v) := by unfold num Dig.ofB; simp
  obtain ⟨z, hz⟩ : ∃ z, x ^^^ Dig.ofB v = z := ⟨_, rfl⟩
  obtain ⟨y, hy⟩ : ∃ y, z + shl z 28 = y := ⟨_, rfl⟩
  have hr : Dig.step x v = shl y 20 + shr y 44 := by
    have := rot_add y
    unfold shl shr; rw [this, ← hy]; unfold Dig.step; rw [hz]; rfl
  have HR := Lib.hid hr
  clear hr
  go_enter Try.func62, Try.ntmps62
  go_wp2_with fail
  refine (left_any _ 28 _ (by omega)).mono ?_
  rintro e w' ⟨rfl, rfl⟩
  go_wp2_with fail
  refine (left_any _ 20 _ (by omega)).mono ?_
  rintro e w' ⟨rfl, rfl⟩
  go_wp2_with fail
  refine (right_any _ 44 _ (by omega)).mono ?_
  rintro e w' ⟨rfl, rfl⟩
  go_wp2_with fail
  go_ret
  rw [HR.out]
  exact ⟨rfl, rfl⟩

theorem refAdd_any (x : D64) (y : Option Addr) (l : List UInt8) (c : Nat) (w : World) (hl : l.length ≤ 100000) (hy : Bts w y l) :
    Calls Try.prog 56 #[.int .u64 (num x), .slice y l.length c] w fun e w' => e = .returned (.int .u64 (num (Dig.addL x l))) ∧ w' = w := by
  have hz : x = Dig.addL x (l.take 0) := rfl
  have HZ := Lib.hid hz
  clear hz
  go_enter Try.func56, Try.ntmps56
  go_wp2_with fail
  go_loop [0, 5] (fun s i => ∃ j : Nat, j ≤ l.length ∧ i = .int .i64 (j : Int) ∧ s = .int .u64 (num (Dig.addL x (l.take j)))) (fun _ i => l.length - (intOf i).toNat)
  case atStart => exact ⟨0, Nat.zero_le _, rfl, by rw [← HZ.out]⟩
  case round =>
    obtain ⟨j, hj, rfl, rfl⟩ := hrel
    by_cases hlt : j < l.length
    · obtain ⟨b, o, rfl, hcl⟩ := hy.resolve_left (by intro e; subst e; simp at hlt)
      have hcj := hcl j hlt
      obtain ⟨v, hv⟩ : ∃ v, l.getD j 0 = v := ⟨_, rfl⟩
      rw [hv] at hcj
      unfold encB at hcj
      have HV := Lib.hid hv
      clear hcl hv
      go_wp2_with fail
      refine (byte_any _ v _).mono ?_
      rintro e w1 ⟨rfl, rfl⟩
      go_wp2_with fail
      go_round
      case rel => exact ⟨j + 1, by omega, by go_num, by rw [take_succ_getD l j hlt, HV.out, Dig.addL_snoc]⟩
      case measure => simp [intOf]; omega
    · obtain rfl : j = l.length := by omega
      go_wp2_with fail
      go_ret
      exact ⟨rfl, rfl⟩

theorem refFin_any (x : D64) (n : Int) (w : World) :
    Calls Try.prog 55 #[.int .u64 (num x), .int .i64 n] w fun e w' => e = .returned (.int .u64 (num (Dig.fin x n))) ∧ w' = w := by
  have hn := wrap_num n
  obtain ⟨a, ha⟩ : ∃ a, x ^^^ BitVec.ofInt 64 n = a := ⟨_, rfl⟩
  obtain ⟨b, hb⟩ : ∃ b, a + shl a 36 = b := ⟨_, rfl⟩
  obtain ⟨c, hc⟩ : ∃ c, b ^^^ shr b 28 = c := ⟨_, rfl⟩
  obtain ⟨d, hd⟩ : ∃ d, c + shl c 36 = d := ⟨_, rfl⟩
  have hr : Dig.fin x n = d ^^^ shr d 28 := by
    rw [← hd, ← hc, ← hb, ← ha]; rfl
  have HR := Lib.hid hr
  clear hr
  go_enter Try.func55, Try.ntmps55
  go_wp2_with fail
  refine (left_any _ 36 _ (by omega)).mono ?_
  rintro e w' ⟨rfl, rfl⟩
  go_wp2_with fail
  refine (right_any _ 28 _ (by omega)).mono ?_
  rintro e w' ⟨rfl, rfl⟩
  go_wp2_with fail
  refine (left_any _ 36 _ (by omega)).mono ?_
  rintro e w' ⟨rfl, rfl⟩
  go_wp2_with fail
  refine (right_any _ 28 _ (by omega)).mono ?_
  rintro e w' ⟨rfl, rfl⟩
  go_wp2_with fail
  go_ret
  rw [HR.out]
  exact ⟨rfl, rfl⟩

theorem refOf_any (y : Option Addr) (l : List UInt8) (c : Nat) (w : World) (hl : l.length ≤ 100000) (hy : Bts w y l) :
    Calls Try.prog 35 #[.slice y l.length c] w fun e w' => e = .returned (.int .u64 (num (Dig.ofL l))) ∧ w' = w := by
  have hz := start_num
  have HZ : Hid (num (Dig.fin (Dig.addL Dig.start l) l.length) = num (Dig.ofL l)) := rfl
  go_enter Try.func35, Try.ntmps35
  go_wp2_with fail
  refine (refAdd_any _ _ _ _ _ hl hy).mono ?_
  rintro e w' ⟨rfl, rfl⟩
  go_wp2_with fail
  refine (refFin_any _ _ _).mono ?_
  rintro e w' ⟨rfl, rfl⟩
  go_wp2_with fail
  go_ret
  rw [HZ.out]
  exact ⟨rfl, rfl⟩

def RefBytesOf (l : List UInt8) (w : World) (e : Ending) (w' : World) : Prop := ∃ x cap, e = .returned (.slice x l.length cap) ∧ OwnsB w.heap.size w' x cap l ∧ Below w.heap.size w w'

theorem tdiv_num (x : D64) (k : Nat) (_hk : k < 64) : IntKind.u64.wrap ((num x).tdiv ((2 ^ k : Nat) : Int)) = num (x >>> k) := by
  have h0 := num_nonneg x
  rw [Int.tdiv_eq_ediv_of_nonneg h0, shr_of x k]
  exact u64_wrap _
@[go_sem] theorem tdiv_256 (x : D64) : IntKind.u64.wrap ((num x).tdiv 256) = num (x >>> 8) := tdiv_num x 8 (by decide)
@[go_sem] theorem tdiv_16 (x : D64) : IntKind.u64.wrap ((num x).tdiv 16) = num (x >>> 4) := tdiv_num x 4 (by decide)
@[go_sem] theorem tmod_256 (x : D64) : (num x).tmod 256 % 256 = ((lowB x).toNat : Int) := by
  have h0 := num_nonneg x
  rw [Int.tmod_eq_emod_of_nonneg h0, ← u8_low]
  simp [IntKind.wrap, IntKind.bits, IntKind.signed]
theorem num_mod256 (x : D64) : IntKind.u8.wrap (num x % 256) = ((lowB x).toNat : Int) := by
  rw [← u8_low]; simp [IntKind.wrap, IntKind.bits, IntKind.signed]
theorem div256 (x : D64) (j : Nat) : num (x >>> (8 * j)) / 256 = num (x >>> (8 * (j + 1))) := by
  rw [Nat.mul_add, Nat.mul_one, BitVec.shiftRight_add]; exact shr_8 _
theorem bytes_take (d : D64) (j : Nat) (h : j < 8) : (Dig.bytes d).take (j + 1) = (Dig.bytes d).take j ++ [lowB (d >>> (8 * j))] := by
  rw [List.take_add_one]
  congr 1
  unfold Dig.bytes
  rw [List.getElem?_map, List.getElem?_range h]; rfl

def RefBRel (d : D64) (w : World) (u0 u3 u4 : Value) (wr : World) : Prop :=
  ∃ (j : Nat) (x : Option Addr) (cap : Nat), j ≤ 8 ∧ u4 = .int .i64 (j : Int) ∧ u0 = .int .u64 (num (d >>> (8 * j))) ∧ u3 = .slice x ((Dig.bytes d).take j).length cap ∧ OwnsB w.heap.size wr x cap ((Dig.bytes d).take j) ∧ Below w.heap.size w wr

set_option maxHeartbeats 1000000 in
theorem refBytes_any (d : D64) (w : World) : Calls Try.prog 36 #[.int .u64 (num d)] w (RefBytesOf (Dig.bytes d) w) := by
  go_enter Try.func36, Try.ntmps36
  go_wp2_with fail
  go_loopw [0, 3, 4] (fun u0 u3 u4 wr => RefBRel d w u0 u3 u4 wr) (fun _ _ u4 _ => 8 - (intOf u4).toNat)
  case atStart => exact ⟨0, none, 0, Nat.zero_le _, rfl, by simp, rfl, OwnsB.nil _ _, Below.refl _ _⟩
  case round =>
    obtain ⟨j, x, cap, hj, rfl, rfl, rfl, hown, hB⟩ := hrel
    by_cases hlt : j < 8
    · obtain ⟨z, hz⟩ : ∃ z, d >>> (8 * j) = z := ⟨_, rfl⟩
      have hd : (d >>> (8 * j)) >>> 8 = d >>> (8 * (j + 1)) := by rw [Nat.mul_add, Nat.mul_one, BitVec.shiftRight_add]
      have ht := bytes_take d j hlt
      obtain ⟨l, hl⟩ : ∃ l, (Dig.bytes d).take j = l := ⟨_, rfl⟩
      have hll : l.length ≤ 8 := by rw [← hl]; simp; omega
      rw [hl] at hown ht
      rw [hz] at hd ht
      rw [hl, hz]
      obtain ⟨lm, hlm⟩ : ∃ lm, l ++ [lowB z] = lm := ⟨_, rfl⟩
      rw [hlm] at ht
      have HT := Lib.hid ht
      have HO := Lib.hid hown
      have HD := Lib.hid hd
      clear hz hown ht hl hd
      go_wp2_with (at_builtin; refine wpList_app rfl _ _ rfl (B := w.heap.size) (l := l) (y := some ⟨wr.heap.size, 0, none⟩) (m := [lowB z]) (HO.out.turn ((Turns.refl (fun _ => False) wr).alloc _) (fun _ _ h => h)) rfl rfl (bts_one wr (lowB z) _ _) (fun h => by cases h) (by simp; omega) hlm (by have := hB.size; simp; omega) ?_; intro x' cap' w1 h1 h2 _)
      clear hlm
      have HN := Lib.hid h1
      have HN := Lib.hid h1
      have hB2 := (al hB _).trans h2
      clear h1 h2 HO hB
      go_wp2_with fail
      go_roundw
      case rel => exact ⟨j + 1, x', cap', by omega, by go_num, by rw [HD.out], by rw [HT.out], by rw [HT.out]; exact HN.out, hB2⟩
      case measure => simp [intOf]; omega
    · obtain rfl : j = 8 := by omega
      have HO := Lib.hid hown
      clear hown
      go_wp2_with fail
      go_ret
      have h := HO.out
      rw [show (Dig.bytes d).take 8 = Dig.bytes d from List.take_of_length_le (by rw [Dig.bytes_length]; omega)] at h ⊢
      exact ⟨_, _, rfl, h, hB⟩

end Go.Proofs.Ytjpicnfkmfjnoaa
