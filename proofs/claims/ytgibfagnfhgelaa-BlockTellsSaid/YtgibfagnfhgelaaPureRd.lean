/- What Read answers, in plain lists. -/
import Derived.Test.YtgibfagnfhgelaaBlkM
namespace Go.Proofs.Ytgibfagnfhgelaa
open Go.RowKit

theorem encL_at0 (d : List UInt8) : (encL d).getD 0 0 = UInt8.ofNat d.length := by
  unfold encL base49
  rw [List.getD_eq_getElem?_getD]; simp
theorem encL_at53 (d : List UInt8) (h : d.length ≤ 48) : (encL d).getD 53 0 = 0 := by
  have hl : (base49 d ++ Crc.trailer (Crc.sum (base49 d))).length = 53 := by rw [List.length_append, base49_len d h, Crc.trailer_length]
  unfold encL
  rw [List.getD_eq_getElem?_getD, List.getElem?_append_right (by omega), hl]
  rfl
theorem encL_ne (d : List UInt8) (h : d.length ≤ 48) : encL d ≠ erasedL := fun e => by
  have h1 := encL_at53 d h
  rw [e, erasedL_at 53 (by omega)] at h1
  exact absurd h1 (by decide)
theorem readD_encL (d : List UInt8) (h : d.length ≤ 48) : readD (encL d) = d := by
  unfold readD
  rw [encL_at0, UInt8.toNat_ofNat', Nat.mod_eq_of_lt (by omega)]
  unfold encL base49
  rw [List.cons_append, List.cons_append, List.drop_succ_cons, List.drop_zero, List.append_assoc, List.append_assoc]
  exact List.take_left
theorem readE_encL (d : List UInt8) (h : d.length ≤ 48) : readE (encL d) = 0 := by
  unfold readE
  rw [if_neg (encL_ne d h), encL_at53 d h, if_neg (by simp), encL_at0, UInt8.toNat_ofNat', Nat.mod_eq_of_lt (by omega), if_neg (by omega), readD_encL d h, if_pos rfl]
theorem readE_erased : readE erasedL = 6 := by unfold readE; rw [if_pos rfl]
/-- Reading a written block whose next operation was cut. -/
theorem readE_cut1 (d b : List UInt8) (k : Nat) (hb : b.length = 54) (h53 : b.getD 53 0 = 0) (h1 : 1 ≤ k) (h2 : k ≤ 53) : readE (doN d k b) = 371 := by
  have a0 : (doN d k b).getD 0 0 = 255 := by rw [doN_at d k b 0 hb (by omega) (by omega), if_neg (by omega), if_pos (by omega)]
  have a53 : (doN d k b).getD 53 0 = 0 := by rw [doN_at d k b 53 hb (by omega) (by omega), if_neg (by omega), if_neg (by omega), h53]
  unfold readE
  rw [if_neg (fun e => by rw [e, erasedL_at 53 (by omega)] at a53; exact absurd a53 (by decide)), a53, if_neg (by simp), a0, if_pos (by decide)]
theorem readE_cut2 (d b : List UInt8) (k : Nat) (hb : b.length = 54) (hd : d.length ≤ 48) (h1 : 55 ≤ k) (h2 : k ≤ 107) : readE (doN d k b) = 370 := by
  have a0 : (doN d k b).getD 0 0 = UInt8.ofNat d.length := by rw [doN_at d k b 0 hb (by omega) (by omega), if_pos (by omega), encL_at0]
  have a53 : (doN d k b).getD 53 0 = 255 := by rw [doN_at d k b 53 hb (by omega) (by omega), if_neg (by omega), if_pos (by omega)]
  unfold readE
  rw [if_neg (fun e => by
    rw [e, erasedL_at 0 (by omega)] at a0
    have := congrArg UInt8.toNat a0
    rw [UInt8.toNat_ofNat', Nat.mod_eq_of_lt (by omega)] at this
    have h255 : (255 : UInt8).toNat = 255 := rfl
    omega), a53, if_pos (by decide)]
theorem rdC_in (ls : List (List UInt8)) (j : Nat) (hv : vldS ls = true) (hj : j < ls.length) : rdC ls (j : Int) = readE (ls.getD j []) := by
  unfold rdC; rw [if_pos ⟨hv, by omega, by omega⟩, Int.toNat_natCast]
theorem rdM_in (ls : List (List UInt8)) (j : Nat) : rdM ls (j : Int) = if rdC ls (j : Int) = 0 then readD (ls.getD j []) else [] := by
  unfold rdM; rw [Int.toNat_natCast]

end Go.Proofs.Ytgibfagnfhgelaa
