/- Texts of the layers below, under one roof: DigF. -/
import Derived.Test.YtapefonhgkjgnaaGreatLdA
set_option maxRecDepth 20000
namespace Go.Proofs.YtapefonhgkjgnaaGreat

section
open Go.RowKit

theorem left_any (x : D64) (k : Nat) (w : World) (hk : k ≤ 1000) :
    Calls Tryz.prog 95 #[.int .u64 (num x), .int .i64 (k : Int)] w fun e w' => e = .returned (.int .u64 (num (shl x k))) ∧ w' = w := by
  have hz : x = shl x 0 := by simp [shl]
  have HZ := Lib.hid hz
  clear hz
  go_enter Tryz.func95, Tryz.ntmps95
  go_wp2_with fail
  go_loop [0, 5] (fun s i => ∃ j : Nat, j ≤ k ∧ i = .int .i64 (j : Int) ∧ s = .int .u64 (num (shl x j))) (fun _ i => k - (intOf i).toNat)
  case atStart => exact ⟨0, Nat.zero_le _, rfl, by rw [← HZ.out]⟩
  case round =>
    obtain ⟨j, hj, rfl, rfl⟩ := hrel
    by_cases hlt : j < k
    · go_wp2_with fail
      go_round
      case rel => exact ⟨j + 1, by omega, by go_num, by unfold shl; rw [dbl]⟩
      case measure => simp [intOf]; omega
    · obtain rfl : j = k := by omega
      go_wp2_with fail
      go_ret
      exact ⟨rfl, rfl⟩

theorem right_any (x : D64) (k : Nat) (w : World) (hk : k ≤ 1000) :
    Calls Tryz.prog 96 #[.int .u64 (num x), .int .i64 (k : Int)] w fun e w' => e = .returned (.int .u64 (num (shr x k))) ∧ w' = w := by
  have hz : x = shr x 0 := by simp [shr]
  have HZ := Lib.hid hz
  clear hz
  have hnn := fun j : Nat => num_nonneg (shr x j)
  go_enter Tryz.func96, Tryz.ntmps96
  go_wp2_with fail
  go_loop [0, 5] (fun s i => ∃ j : Nat, j ≤ k ∧ i = .int .i64 (j : Int) ∧ s = .int .u64 (num (shr x j))) (fun _ i => k - (intOf i).toNat)
  case atStart => exact ⟨0, Nat.zero_le _, rfl, by rw [← HZ.out]⟩
  case round =>
    obtain ⟨j, hj, rfl, rfl⟩ := hrel
    have h0 := hnn j
    have h1 := num_lt (shr x j)
    by_cases hlt : j < k
    · go_wp2_with fail
      go_round
      case rel => exact ⟨j + 1, by omega, by go_num, by unfold shr; rw [half1]⟩
      case measure => simp [intOf]; omega
    · obtain rfl : j = k := by omega
      go_wp2_with fail
      go_ret
      exact ⟨rfl, rfl⟩

theorem byte_any (x : D64) (v : UInt8) (w : World) :
    Calls Tryz.prog 97 #[.int .u64 (num x), .int .u8 (v.toNat : Int)] w fun e w' => e = .returned (.int .u64 (num (Dig.step x v))) ∧ w' = w := by
  have hv : (v.toNat : Int) = num (Dig.ofB v) := by unfold num Dig.ofB; simp
  obtain ⟨z, hz⟩ : ∃ z, x ^^^ Dig.ofB v = z := ⟨_, rfl⟩
  obtain ⟨y, hy⟩ : ∃ y, z + shl z 28 = y := ⟨_, rfl⟩
  have hr : Dig.step x v = shl y 20 + shr y 44 := by
    have := rot_add y
    unfold shl shr; rw [this, ← hy]; unfold Dig.step; rw [hz]; rfl
  have HR := Lib.hid hr
  clear hr
  go_enter Tryz.func97, Tryz.ntmps97
  go_wp2_with fail
  refine (left_any _ 28 _ (by omega)).mono ?_
  rintro e w' ⟨rfl, rfl⟩
  go_wp2_with fail
  refine (left_any _ 20 _ (by omega)).mono ?_
  rintro e w' ⟨rfl, rfl⟩
  go_wp2_with fail
  refine (right_any _ 44 _ (by omega)).mono ?_
  rintro e w' ⟨rfl, rfl⟩
  go_wp2_with fail
  go_ret
  rw [HR.out]
  exact ⟨rfl, rfl⟩

theorem refAdd_any (x : D64) (y : Option Addr) (l : List UInt8) (c : Nat) (w : World) (hl : l.length ≤ 100000) (hy : Bts w y l) :
    Calls Tryz.prog 77 #[.int .u64 (num x), .slice y l.length c] w fun e w' => e = .returned (.int .u64 (num (Dig.addL x l))) ∧ w' = w := by
  have hz : x = Dig.addL x (l.take 0) := rfl
  have HZ := Lib.hid hz
  clear hz
  go_enter Tryz.func77, Tryz.ntmps77
  go_wp2_with fail
  go_loop [0, 5] (fun s i => ∃ j : Nat, j ≤ l.length ∧ i = .int .i64 (j : Int) ∧ s = .int .u64 (num (Dig.addL x (l.take j)))) (fun _ i => l.length - (intOf i).toNat)
  case atStart => exact ⟨0, Nat.zero_le _, rfl, by rw [← HZ.out]⟩
  case round =>
    obtain ⟨j, hj, rfl, rfl⟩ := hrel
    by_cases hlt : j < l.length
    · obtain ⟨b, o, rfl, hcl⟩ := hy.resolve_left (by intro e; subst e; simp at hlt)
      have hcj := hcl j hlt
      obtain ⟨v, hv⟩ : ∃ v, l.getD j 0 = v := ⟨_, rfl⟩
      rw [hv] at hcj
      unfold encB at hcj
      have HV := Lib.hid hv
      clear hcl hv
      go_wp2_with fail
      refine (byte_any _ v _).mono ?_
      rintro e w1 ⟨rfl, rfl⟩
      go_wp2_with fail
      go_round
      case rel => exact ⟨j + 1, by omega, by go_num, by rw [take_succ_getD l j hlt, HV.out, Dig.addL_snoc]⟩
      case measure => simp [intOf]; omega
    · obtain rfl : j = l.length := by omega
      go_wp2_with fail
      go_ret
      exact ⟨rfl, rfl⟩

theorem refFin_any (x : D64) (n : Int) (w : World) :
    Calls Tryz.prog 76 #[.int .u64 (num x), .int .i64 n] w fun e w' => e = .returned (.int .u64 (num (Dig.fin x n))) ∧ w' = w := by
  have hn := wrap_num n
  obtain ⟨a, ha⟩ : ∃ a, x ^^^ BitVec.ofInt 64 n = a := ⟨_, rfl⟩
  obtain ⟨b, hb⟩ : ∃ b, a + shl a 36 = b := ⟨_, rfl⟩
  obtain ⟨c, hc⟩ : ∃ c, b ^^^ shr b 28 = c := ⟨_, rfl⟩
  obtain ⟨d, hd⟩ : ∃ d, c + shl c 36 = d := ⟨_, rfl⟩
  have hr : Dig.fin x n = d ^^^ shr d 28 := by
    rw [← hd, ← hc, ← hb, ← ha]; rfl
  have HR := Lib.hid hr
  clear hr
  go_enter Tryz.func76, Tryz.ntmps76
  go_wp2_with fail
  refine (left_any _ 36 _ (by omega)).mono ?_
  rintro e w' ⟨rfl, rfl⟩
  go_wp2_with fail
  refine (right_any _ 28 _ (by omega)).mono ?_
  rintro e w' ⟨rfl, rfl⟩
  go_wp2_with fail
  refine (left_any _ 36 _ (by omega)).mono ?_
  rintro e w' ⟨rfl, rfl⟩
  go_wp2_with fail
  refine (right_any _ 28 _ (by omega)).mono ?_
  rintro e w' ⟨rfl, rfl⟩
  go_wp2_with fail
  go_ret
  rw [HR.out]
  exact ⟨rfl, rfl⟩

theorem refOf_any (y : Option Addr) (l : List UInt8) (c : Nat) (w : World) (hl : l.length ≤ 100000) (hy : Bts w y l) :
    Calls Tryz.prog 40 #[.slice y l.length c] w fun e w' => e = .returned (.int .u64 (num (Dig.ofL l))) ∧ w' = w := by
  have hz := start_num
  have HZ : Hid (num (Dig.fin (Dig.addL Dig.start l) l.length) = num (Dig.ofL l)) := rfl
  go_enter Tryz.func40, Tryz.ntmps40
  go_wp2_with fail
  refine (refAdd_any _ _ _ _ _ hl hy).mono ?_
  rintro e w' ⟨rfl, rfl⟩
  go_wp2_with fail
  refine (refFin_any _ _ _).mono ?_
  rintro e w' ⟨rfl, rfl⟩
  go_wp2_with fail
  go_ret
  rw [HZ.out]
  exact ⟨rfl, rfl⟩

set_option maxHeartbeats 1000000 in
theorem refBytes_any (d : D64) (w : World) : Calls Tryz.prog 50 #[.int .u64 (num d)] w (RefBytesOf (Dig.bytes d) w) := by
  go_enter Tryz.func50, Tryz.ntmps50
  go_wp2_with fail
  go_loopw [0, 3, 4] (fun u0 u3 u4 wr => RefBRel d w u0 u3 u4 wr) (fun _ _ u4 _ => 8 - (intOf u4).toNat)
  case atStart => exact ⟨0, none, 0, Nat.zero_le _, rfl, by simp, rfl, OwnsB.nil _ _, Below.refl _ _⟩
  case round =>
    obtain ⟨j, x, cap, hj, rfl, rfl, rfl, hown, hB⟩ := hrel
    by_cases hlt : j < 8
    · obtain ⟨z, hz⟩ : ∃ z, d >>> (8 * j) = z := ⟨_, rfl⟩
      have hd : (d >>> (8 * j)) >>> 8 = d >>> (8 * (j + 1)) := by rw [Nat.mul_add, Nat.mul_one, BitVec.shiftRight_add]
      have ht := bytes_take d j hlt
      obtain ⟨l, hl⟩ : ∃ l, (Dig.bytes d).take j = l := ⟨_, rfl⟩
      have hll : l.length ≤ 8 := by rw [← hl]; simp; omega
      rw [hl] at hown ht
      rw [hz] at hd ht
      rw [hl, hz]
      obtain ⟨lm, hlm⟩ : ∃ lm, l ++ [lowB z] = lm := ⟨_, rfl⟩
      rw [hlm] at ht
      have HT := Lib.hid ht
      have HO := Lib.hid hown
      have HD := Lib.hid hd
      clear hz hown ht hl hd
      go_wp2_with (at_builtin; refine wpList_app rfl _ _ rfl (B := w.heap.size) (l := l) (y := some ⟨wr.heap.size, 0, none⟩) (m := [lowB z]) (HO.out.turn ((Turns.refl (fun _ => False) wr).alloc _) (fun _ _ h => h)) rfl rfl (bts_one wr (lowB z) _ _) (fun h => by cases h) (by simp; omega) hlm (by have := hB.size; simp; omega) ?_; intro x' cap' w1 h1 h2 _)
      clear hlm
      have HN := Lib.hid h1
      have HN := Lib.hid h1
      have hB2 := (al hB _).trans h2
      clear h1 h2 HO hB
      go_wp2_with fail
      go_roundw
      case rel => exact ⟨j + 1, x', cap', by omega, by go_num, by rw [HD.out], by rw [HT.out], by rw [HT.out]; exact HN.out, hB2⟩
      case measure => simp [intOf]; omega
    · obtain rfl : j = 8 := by omega
      have HO := Lib.hid hown
      clear hown
      go_wp2_with fail
      go_ret
      have h := HO.out
      rw [show (Dig.bytes d).take 8 = Dig.bytes d from List.take_of_length_le (by rw [Dig.bytes_length]; omega)] at h ⊢
      exact ⟨_, _, rfl, h, hB⟩
end

section
open Go.RowKit
theorem refPair_any (a b : D64) (w : World) : Calls Tryz.prog 75 #[.int .u64 (num a), .int .u64 (num b)] w (NumOf (Dig.pair a b) w) := by
  have HP : Hid (num (Dig.ofL (Dig.bytes a ++ Dig.bytes b)) = num (Dig.pair a b)) := rfl
  obtain ⟨la, hla⟩ : ∃ l, Dig.bytes a = l := ⟨_, rfl⟩
  obtain ⟨lb, hlb⟩ : ∃ l, Dig.bytes b = l := ⟨_, rfl⟩
  have na : la.length = 8 := by rw [← hla]; exact Dig.bytes_length _
  have nb : lb.length = 8 := by rw [← hlb]; exact Dig.bytes_length _
  have ca := refBytes_any a
  have cb := refBytes_any b
  rw [hla] at ca HP
  rw [hlb] at cb HP
  have HA := Lib.hid na
  have HB := Lib.hid nb
  clear hla hlb na nb
  obtain ⟨l, hl⟩ : ∃ l, la ++ lb = l := ⟨_, rfl⟩
  go_enter Tryz.func75, Tryz.ntmps75
  go_wp2_with fail
  refine (ca _).mono ?_
  rintro e w1 ⟨b1, c1, rfl, y1, hb1⟩
  have Y1 := Lib.hid y1
  clear ca y1
  go_wp2_with fail
  refine (cb _).mono ?_
  rintro e w2 ⟨b2, c2, rfl, y2, hb2⟩
  have Y2 := Lib.hid y2
  clear cb y2
  go_wp2_with (at_builtin; refine wpList_app rfl _ _ rfl (l := la) (B := w.heap.size) (Y1.out.later hb2) rfl (m := lb) rfl Y2.out.bts Y2.out.none_cap (by have := HA.out; have := HB.out; omega) hl (by have := hb1.size; have := hb2.size; omega) ?_; intro x' cap' w3 h1 h2 _)
  have y3 := h1.bts
  have hB := (thru hb1 hb2).trans h2
  clear Y1 Y2 h1 h2 hb1 hb2
  have hll : l.length ≤ 100000 := by rw [← hl]; have := HA.out; have := HB.out; simp; omega
  rw [hl] at HP
  clear hl
  go_wp2_with fail
  refine (refOf_any _ l _ _ hll y3).mono ?_
  rintro e w4 ⟨rfl, rfl⟩
  rw [HP.out]
  clear y3 hll
  go_wp2_with fail
  go_ret
  exact ⟨rfl, hB⟩
end

end Go.Proofs.YtapefonhgkjgnaaGreat
