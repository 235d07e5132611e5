/- Plain facts on numbers read from bytes. No program is in sight here. -/
import Derived.Test.YtjpicnfkmfjnoaaPureSign
namespace Go.Proofs.Ytjpicnfkmfjnoaa.Sgn
open Dig

/-- The number of n bytes from place o on. -/
def wd (l : List UInt8) : Nat → Nat → D
  | _, 0 => 0#64
  | o, n + 1 => wd l (o + 1) n <<< 8 ||| ofB (l.getD o 0)
theorem ofB_bit (b : UInt8) (j : Nat) (hj : j < 64) : (ofB b).getLsbD j = b.toBitVec.getLsbD j := by
  unfold ofB
  rw [BitVec.getLsbD_setWidth, decide_eq_true hj, Bool.true_and]
theorem wd_bit (l : List UInt8) : ∀ n o j, j < 64 → (wd l o n).getLsbD j = (decide (j < 8 * n) && (l.getD (o + j / 8) 0).toBitVec.getLsbD (j % 8))
  | 0, o, j, _ => by simp [wd]
  | n + 1, o, j, hj => by
    show (wd l (o + 1) n <<< 8 ||| ofB (l.getD o 0)).getLsbD j = _
    rw [BitVec.getLsbD_or, BitVec.getLsbD_shiftLeft, ofB_bit _ _ hj]
    by_cases h8 : j < 8
    · rw [show j / 8 = 0 by omega, show j % 8 = j by omega, Nat.add_zero]
      simp [h8, show j < 8 * (n + 1) by omega]
    · rw [BitVec.getLsbD_of_ge (l.getD o 0).toBitVec j (by omega), wd_bit l n (o + 1) (j - 8) (by omega), show o + 1 + (j - 8) / 8 = o + j / 8 by omega, show (j - 8) % 8 = j % 8 by omega]
      have : decide (j - 8 < 8 * n) = decide (j < 8 * (n + 1)) := by
        by_cases h : j - 8 < 8 * n
        · rw [decide_eq_true h, decide_eq_true (by omega)]
        · rw [decide_eq_false h, decide_eq_false (by omega)]
      rw [this]
      simp [h8, hj]
theorem wd_snoc (l : List UInt8) (o n : Nat) : wd l o (n + 1) = wd l o n ||| ofB (l.getD (o + n) 0) <<< (8 * n) := by
  apply BitVec.eq_of_getLsbD_eq
  intro j hj
  rw [BitVec.getLsbD_or, BitVec.getLsbD_shiftLeft, wd_bit _ _ _ _ hj, wd_bit _ _ _ _ hj]
  by_cases h1 : j < 8 * n
  · simp [h1, show j < 8 * (n + 1) by omega]
  · rw [ofB_bit _ _ (by omega)]
    by_cases h2 : j < 8 * (n + 1)
    · rw [show j / 8 = n by omega, show j - 8 * n = j % 8 by omega]
      simp [h1, h2, hj]
    · rw [BitVec.getLsbD_of_ge (l.getD (o + n) 0).toBitVec (j - 8 * n) (by omega)]
      simp [h1, h2]
theorem horner (x : D) (b : UInt8) : 256#64 * x + ofB b = x <<< 8 ||| ofB b := by
  have h0 : 256#64 * x = x <<< 8 := by rw [BitVec.mul_comm, shl_mul]; rfl
  rw [h0]
  apply BitVec.add_eq_or_of_and_eq_zero
  apply BitVec.eq_of_getLsbD_eq
  intro j hj
  rw [BitVec.getLsbD_and, BitVec.getLsbD_shiftLeft, ofB_bit _ _ hj]
  by_cases h8 : j < 8
  · simp [h8]
  · rw [BitVec.getLsbD_of_ge b.toBitVec j (by omega)]
    simp
theorem wd_bytes (x : D) (l : List UInt8) (o : Nat) (h : ∀ i, i < 8 → l.getD (o + i) 0 = byteAt x i) : wd l o 8 = x := by
  apply BitVec.eq_of_getLsbD_eq
  intro j hj
  rw [wd_bit _ _ _ _ hj, h (j / 8) (by omega), decide_eq_true (by omega), Bool.true_and]
  show ((x >>> (8 * (j / 8))).setWidth 8).getLsbD (j % 8) = _
  rw [BitVec.getLsbD_setWidth, decide_eq_true (by omega), Bool.true_and, BitVec.getLsbD_ushiftRight]
  rw [show 8 * (j / 8) + j % 8 = j by omega]
theorem bytes_getD (x : D) (r : Nat) (hr : r < 8) : (bytes x).getD r 0 = byteAt x r := by
  unfold bytes
  rw [List.getD_eq_getElem?_getD, List.getElem?_map, List.getElem?_range hr]; rfl
theorem ends_getD (e : Nat → D) (i r : Nat) (hr : r < 8) : ∀ n, i < n → (ends e n).getD (8 * i + r) 0 = byteAt (e i) r
  | 0, h => absurd h (Nat.not_lt_zero _)
  | n + 1, h => by
    show (ends e n ++ bytes (e n)).getD _ 0 = _
    have hl := ends_length e n
    by_cases hi : i < n
    · rw [List.getD_eq_getElem?_getD, List.getElem?_append_left (by omega), ← List.getD_eq_getElem?_getD]
      exact ends_getD e i r hr n hi
    · obtain rfl : i = n := by omega
      rw [List.getD_eq_getElem?_getD, List.getElem?_append_right (by omega), hl, Nat.add_sub_cancel_left, ← List.getD_eq_getElem?_getD, bytes_getD _ _ hr]

/-- The bytes of a signature. -/
def enc (key : Nat) (f : Nat → D) (p : List D) : List UInt8 := [UInt8.ofNat key, UInt8.ofNat p.length] ++ ends f 18 ++ ends (fun j => p.getD j 0#64) p.length
theorem enc_length (key : Nat) (f : Nat → D) (p : List D) : (enc key f p).length = 146 + 8 * p.length := by
  unfold enc
  rw [List.length_append, List.length_append, ends_length, ends_length]
  simp
  try omega
theorem enc_0 (key : Nat) (f : Nat → D) (p : List D) : (enc key f p).getD 0 0 = UInt8.ofNat key := rfl
theorem enc_1 (key : Nat) (f : Nat → D) (p : List D) : (enc key f p).getD 1 0 = UInt8.ofNat p.length := rfl
theorem enc_chain (key : Nat) (f : Nat → D) (p : List D) (i : Nat) (hi : i < 18) : wd (enc key f p) (2 + 8 * i) 8 = f i := by
  refine wd_bytes _ _ _ fun r hr => ?_
  unfold enc
  have hl := ends_length f 18
  rw [List.getD_eq_getElem?_getD, List.getElem?_append_left (by simp; omega), List.getElem?_append_right (by simp; omega), ← List.getD_eq_getElem?_getD]
  rw [show 2 + 8 * i + r - [UInt8.ofNat key, UInt8.ofNat p.length].length = 8 * i + r by simp; omega]
  exact ends_getD f i r hr 18 hi
theorem enc_path (key : Nat) (f : Nat → D) (p : List D) (i : Nat) (hi : i < p.length) : wd (enc key f p) (146 + 8 * i) 8 = p.getD i 0#64 := by
  refine wd_bytes _ _ _ fun r hr => ?_
  unfold enc
  have hl := ends_length f 18
  rw [List.getD_eq_getElem?_getD, List.getElem?_append_right (by simp; omega), ← List.getD_eq_getElem?_getD]
  rw [show 146 + 8 * i + r - ([UInt8.ofNat key, UInt8.ofNat p.length] ++ ends f 18).length = 8 * i + r by simp; omega]
  exact ends_getD (fun j => p.getD j 0#64) i r hr p.length hi
/-- The path that n words from place 146 on give. -/
def wds (l : List UInt8) (n : Nat) : List D := (List.range n).map fun j => wd l (146 + 8 * j) 8
theorem wds_length (l : List UInt8) (n : Nat) : (wds l n).length = n := by unfold wds; simp
theorem wds_succ (l : List UInt8) (n : Nat) : wds l (n + 1) = wds l n ++ [wd l (146 + 8 * n) 8] := by unfold wds; rw [List.range_succ, List.map_append]; rfl
theorem wds_enc (key : Nat) (f : Nat → D) (p : List D) : wds (enc key f p) p.length = p := by
  apply List.ext_getElem?
  intro i
  unfold wds
  by_cases h2 : i < p.length
  · rw [List.getElem?_map, List.getElem?_range h2, List.getElem?_eq_getElem h2]
    have := enc_path key f p i h2
    rw [List.getD_eq_getElem?_getD, List.getElem?_eq_getElem h2] at this
    exact congrArg some this
  · rw [List.getElem?_eq_none (by simp; omega), List.getElem?_eq_none (by omega)]

end Go.Proofs.Ytjpicnfkmfjnoaa.Sgn
