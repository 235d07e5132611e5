/- WALKS of the laws of the digest layer: DigestPair. -/
import Derived.Test.YtmlmgpliajffnaaLawB5
namespace Go.Proofs.Ytmlmgpliajffnaa
open Go.RowKit

theorem byteAt_bit (d : D64) (i k : Nat) (hk : k < 8) : (Dig.byteAt d i).toBitVec.getLsbD k = d.getLsbD (8 * i + k) := by
  unfold Dig.byteAt
  simp [hk]
theorem byteAt_xor (a : D64) (v : UInt8) (i j : Nat) (hi : i < 8) (hj : j < 8) : Dig.byteAt (a ^^^ Dig.ofB v <<< (8 * j)) i = if i = j then Dig.byteAt a j ^^^ v else Dig.byteAt a i := by
  apply UInt8.toBitVec_inj.1
  apply BitVec.eq_of_getLsbD_eq
  intro k hk
  rw [byteAt_bit _ _ _ hk, BitVec.getLsbD_xor, BitVec.getLsbD_shiftLeft]
  by_cases h : i = j
  · subst h
    rw [if_pos rfl]
    rw [UInt8.toBitVec_xor, BitVec.getLsbD_xor, byteAt_bit _ _ _ hk]
    have h1 : 8 * i + k < 64 := by omega
    have h2 : ¬ 8 * i + k < 8 * i := by omega
    simp only [h1, h2, decide_true, decide_false, Bool.not_false, Bool.true_and, Nat.add_sub_cancel_left]
    unfold Dig.ofB
    rw [BitVec.getLsbD_setWidth]
    simp [show k < 64 by omega]
  · rw [if_neg h, byteAt_bit _ _ _ hk]
    by_cases h2 : 8 * i + k < 8 * j
    · simp [h2]
    · have : (Dig.ofB v).getLsbD (8 * i + k - 8 * j) = false := by
        unfold Dig.ofB
        rw [BitVec.getLsbD_setWidth]
        simp
        intro _
        exact BitVec.getLsbD_of_ge _ _ (by omega)
      rw [this]; simp
theorem bytes_xor (a : D64) (v : UInt8) (j : Nat) (hj : j < 8) : Dig.bytes (a ^^^ Dig.ofB v <<< (8 * j)) = (Dig.bytes a).set j (Dig.byteAt a j ^^^ v) := by
  unfold Dig.bytes
  apply List.ext_getElem
  · simp
  · intro i h1 h2
    simp at h1
    rw [List.getElem_set]
    simp only [List.getElem_map, List.getElem_range]
    rw [byteAt_xor a v i j h1 hj]
    by_cases h : i = j
    · subst h; simp
    · rw [if_neg h, if_neg (fun e => h e.symm)]
theorem bytes_at (a : D64) (j : Nat) (hj : j < 8) : (Dig.bytes a)[j]'(by rw [Dig.bytes_length]; exact hj) = Dig.byteAt a j := by
  unfold Dig.bytes; simp
theorem xor_self_iff (x v : UInt8) : x ^^^ v = x ↔ v = 0 := by
  constructor
  · intro h
    have := congrArg (x ^^^ ·) h
    simpa [← UInt8.xor_assoc] using this
  · intro h; rw [h]; simp
theorem pair_left (a b : D64) (v : UInt8) (j : Nat) (hj : j < 8) : Dig.pair (a ^^^ Dig.ofB v <<< (8 * j)) b = Dig.pair a b ↔ v = 0 := by
  have hl : j < (Dig.bytes a ++ Dig.bytes b).length := by simp [Dig.bytes_length]; omega
  have := Dig.ofL_set (Dig.bytes a ++ Dig.bytes b) j hl (Dig.byteAt a j ^^^ v)
  unfold Dig.pair
  rw [bytes_xor a v j hj, ← List.set_append_left _ _ (by rw [Dig.bytes_length]; exact hj), this, List.getElem_append_left (by rw [Dig.bytes_length]; exact hj), bytes_at a j hj]
  exact xor_self_iff _ _
theorem pair_right (a b : D64) (v : UInt8) (j : Nat) (hj : j < 8) : Dig.pair a (b ^^^ Dig.ofB v <<< (8 * j)) = Dig.pair a b ↔ v = 0 := by
  have hl : 8 + j < (Dig.bytes a ++ Dig.bytes b).length := by simp [Dig.bytes_length]; omega
  have := Dig.ofL_set (Dig.bytes a ++ Dig.bytes b) (8 + j) hl (Dig.byteAt b j ^^^ v)
  have e : (Dig.bytes a ++ Dig.bytes b).set (8 + j) (Dig.byteAt b j ^^^ v) = Dig.bytes a ++ (Dig.bytes b).set j (Dig.byteAt b j ^^^ v) := by
    rw [List.set_append_right _ _ (by rw [Dig.bytes_length]; omega), Dig.bytes_length, Nat.add_sub_cancel_left]
  unfold Dig.pair
  rw [bytes_xor b v j hj, ← e, this, List.getElem_append_right (by rw [Dig.bytes_length]; omega)]
  simp only [Dig.bytes_length, Nat.add_sub_cancel_left]
  rw [bytes_at b j hj]
  exact xor_self_iff _ _

set_option maxHeartbeats 1000000 in
theorem pair_law (a b : D64) (at_ v : UInt8) (w : World) :
    Calls Try.prog 9 #[.int .u64 (num a), .int .u64 (num b), .int .u8 (at_.toNat : Int), .int .u8 (v.toNat : Int)] w (YesOf w) := by
  have HP : Hid (num (Dig.ofL (Dig.bytes a ++ Dig.bytes b)) = num (Dig.pair a b)) := rfl
  have hj : at_.toNat % 8 < 8 := Nat.mod_lt _ (by decide)
  have p1 := pair_left a b v _ hj
  have p2 := pair_right a b v _ hj
  obtain ⟨s, hs⟩ : ∃ s, Dig.ofB v <<< (8 * (at_.toNat % 8)) = s := ⟨_, rfl⟩
  have hsh : IntKind.u64.wrap (IntKind.u64.wrap (v.toNat : Int) * 2 ^ (8 * (at_.toNat % 8))) = num s := by
    rw [u8_num v, u64_wrap, ← hs, ← shl_of]; simp
  rw [hs] at p1 p2
  have q1 : (Dig.pair (a ^^^ s) b == Dig.pair a b) = (v == 0) := by rw [Bool.eq_iff_iff]; simpa using p1
  have q2 : (Dig.pair a (b ^^^ s) == Dig.pair a b) = (v == 0) := by rw [Bool.eq_iff_iff]; simpa using p2
  have h0v := u8_eq0 v
  obtain ⟨la, hla⟩ : ∃ l, Dig.bytes a = l := ⟨_, rfl⟩
  obtain ⟨lb, hlb⟩ : ∃ l, Dig.bytes b = l := ⟨_, rfl⟩
  have na : la.length = 8 := by rw [← hla]; exact Dig.bytes_length _
  have nb : lb.length = 8 := by rw [← hlb]; exact Dig.bytes_length _
  have ca := bytes_any a
  have cb := bytes_any b
  rw [hla] at ca HP
  rw [hlb] at cb HP
  have HA := Lib.hid na
  have HB := Lib.hid nb
  clear hla hlb na nb p1 p2 hs hj
  obtain ⟨l, hl⟩ : ∃ l, la ++ lb = l := ⟨_, rfl⟩
  have hll : (l.length : Int) ≤ 100000 := by rw [← hl]; have := HA.out; have := HB.out; simp; omega
  rw [hl] at HP
  cases hb8 : (bits BinOp.and .u8 (at_.toNat : Int) 8 == 0) with
  | true =>
    go_enter Try.func9, Try.ntmps9
    go_wp2_with fail
    refine (ca _).mono ?_
    rintro e w1 ⟨b1, rfl, y1, hb1⟩
    clear ca
    go_wp2_with fail
    refine (cb _).mono ?_
    rintro e w2 ⟨b2, rfl, y2, hb2⟩
    clear cb
    have z1 := y1.later hb2
    go_wp2_with (at_builtin; refine wpList_app_full rfl _ _ rfl (l := la) (cap := la.length) rfl z1 (fun h => by cases h) (m := lb) rfl y2 (by have := HB.out; omega) (by have := HA.out; have := HB.out; omega) hl ?_; intro x' cap' w3 h1 h2; clear hl)
    have y3 := h1.bts
    have hB := thru (thru hb1 hb2) h2
    clear h1 h2 hb1 hb2 z1 y1 y2
    refine (pair_any _ _ _).mono ?_
    rintro e w4 ⟨rfl, hb⟩
    replace y3 := y3.later hb
    replace hB := thru hB hb
    clear hb
    go_wp2_with fail
    refine (of_any _ l _ _ hll y3).mono ?_
    rintro e w5 ⟨rfl, hb⟩
    rw [HP.out]
    replace hB := thru hB hb
    clear hb y3
    go_wp2_with fail
    refine (pair_any _ _ _).mono ?_
    rintro e w6 ⟨rfl, hb⟩
    replace hB := thru hB hb
    clear hb
    go_wp2_with fail
    refine (pair_any _ _ _).mono ?_
    rintro e w7 ⟨rfl, hb⟩
    replace hB := thru hB hb
    clear hb
    go_wp2_with fail
    refine (awake_any _).mono ?_
    rintro e w' ⟨rfl, hb⟩
    go_wp2_with fail
    go_ret
    exact ⟨rfl, thru hB hb⟩
  | false =>
    go_enter Try.func9, Try.ntmps9
    go_wp2_with fail
    refine (ca _).mono ?_
    rintro e w1 ⟨b1, rfl, y1, hb1⟩
    clear ca
    go_wp2_with fail
    refine (cb _).mono ?_
    rintro e w2 ⟨b2, rfl, y2, hb2⟩
    clear cb
    have z1 := y1.later hb2
    go_wp2_with (at_builtin; refine wpList_app_full rfl _ _ rfl (l := la) (cap := la.length) rfl z1 (fun h => by cases h) (m := lb) rfl y2 (by have := HB.out; omega) (by have := HA.out; have := HB.out; omega) hl ?_; intro x' cap' w3 h1 h2; clear hl)
    have y3 := h1.bts
    have hB := thru (thru hb1 hb2) h2
    clear h1 h2 hb1 hb2 z1 y1 y2
    refine (pair_any _ _ _).mono ?_
    rintro e w4 ⟨rfl, hb⟩
    replace y3 := y3.later hb
    replace hB := thru hB hb
    clear hb
    go_wp2_with fail
    refine (of_any _ l _ _ hll y3).mono ?_
    rintro e w5 ⟨rfl, hb⟩
    rw [HP.out]
    replace hB := thru hB hb
    clear hb y3
    go_wp2_with fail
    refine (pair_any _ _ _).mono ?_
    rintro e w6 ⟨rfl, hb⟩
    replace hB := thru hB hb
    clear hb
    go_wp2_with fail
    refine (pair_any _ _ _).mono ?_
    rintro e w7 ⟨rfl, hb⟩
    replace hB := thru hB hb
    clear hb
    go_wp2_with fail
    refine (awake_any _).mono ?_
    rintro e w' ⟨rfl, hb⟩
    go_wp2_with fail
    go_ret
    exact ⟨rfl, thru hB hb⟩

end Go.Proofs.Ytmlmgpliajffnaa
