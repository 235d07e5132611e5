/- Plain facts on bursts in bytes, and on trailers of four bytes. No program is in sight here. -/
import Derived.Test.YtgibfagnfhgelaaPureCrc
namespace Go.Proofs.Ytgibfagnfhgelaa.Crc

/-- The byte with bit j alone. -/
def mask8 (j : Nat) : UInt8 := ⟨1#8 <<< j⟩
/-- Bit k is turned over. -/
def flipB (l : List UInt8) (k : Nat) : List UInt8 := l.set (k / 8) (l.getD (k / 8) 0 ^^^ mask8 (k % 8))
theorem flipB_length (l : List UInt8) (k : Nat) : (flipB l k).length = l.length := List.length_set
theorem mask8_bit (j i : Nat) (hi : i < 8) : (mask8 j).toBitVec.getLsbD i = decide (i = j) := by
  unfold mask8
  rw [BitVec.getLsbD_shiftLeft]
  by_cases h : i = j
  · subst h; simp [hi]
  · by_cases h2 : i < j
    · simp [h2, h]
    · have : ¬ i - j = 0 := by omega
      simp [h2, h, this]
theorem bitAt_flipB (l : List UInt8) (k i : Nat) (hk : k < 8 * l.length) : bitAt (flipB l k) i = (bitAt l i ^^ decide (i = k)) := by
  unfold bitAt flipB
  by_cases h : i / 8 = k / 8
  · have hl : k / 8 < l.length := by omega
    rw [h, List.getD_eq_getElem?_getD (l := l.set _ _), List.getElem?_set_self hl, Option.getD_some, UInt8.toBitVec_xor, BitVec.getLsbD_xor, mask8_bit _ _ (Nat.mod_lt _ (by decide))]
    congr 1
    rw [decide_eq_decide]
    omega
  · rw [List.getD_eq_getElem?_getD (l := l.set _ _), List.getElem?_set_ne (by omega), ← List.getD_eq_getElem?_getD]
    have : ¬ i = k := by rintro rfl; exact h rfl
    simp [this]

/-- Round i of a burst of the pattern p from bit c on. -/
def flipS (p : W) (c : Nat) (l : List UInt8) (i : Nat) : List UInt8 := if p.getLsbD i = true ∧ c + i < 8 * l.length then flipB l (c + i) else l
def flipN (p : W) (c : Nat) (l : List UInt8) : Nat → List UInt8
  | 0 => l
  | n + 1 => flipS p c (flipN p c l n) n
theorem flipN_length (p : W) (c : Nat) (l : List UInt8) : ∀ n, (flipN p c l n).length = l.length
  | 0 => rfl
  | n + 1 => by
    rw [flipN, flipS]
    split
    · rw [flipB_length, flipN_length p c l n]
    · exact flipN_length p c l n
theorem bitAt_flipN (p : W) (c : Nat) (l : List UInt8) (i : Nat) (hi : i < 8 * l.length) : ∀ n, bitAt (flipN p c l n) i = (bitAt l i ^^ (decide (c ≤ i ∧ i < c + n) && p.getLsbD (i - c)))
  | 0 => by
    have : decide (c ≤ i ∧ i < c + 0) = false := decide_eq_false (by omega)
    rw [this]; simp [flipN]
  | n + 1 => by
    rw [flipN, flipS]
    have ih := bitAt_flipN p c l i hi n
    have hl := flipN_length p c l n
    split
    · rename_i h
      rw [bitAt_flipB _ _ _ h.2, ih]
      by_cases he : i = c + n
      · subst he
        have h1 : ¬ (c ≤ c + n ∧ c + n < c + n) := by omega
        have h2 : c ≤ c + n ∧ c + n < c + (n + 1) := by omega
        simp [h2, h.1]
      · have h1 : (c ≤ i ∧ i < c + n) ↔ (c ≤ i ∧ i < c + (n + 1)) := by omega
        simp [he, h1]
    · rename_i h
      rw [ih]
      by_cases he : i = c + n
      · subst he
        have hp : p.getLsbD n = false := by
          cases hp : p.getLsbD n with
          | false => rfl
          | true => exact absurd ⟨hp, by rw [hl]; exact hi⟩ h
        simp [hp]
      · have h1 : (c ≤ i ∧ i < c + n) ↔ (c ≤ i ∧ i < c + (n + 1)) := by omega
        simp [h1]

/-- A burst changes the sum. -/
theorem sum_flip (p : W) (c : Nat) (l : List UInt8) (hc : c < 8 * l.length) (hp : p.getLsbD 0 = true) : sum (flipN p c l 32) ≠ sum l := by
  refine sum_burst _ _ (flipN_length p c l 32) (c : Int) c (by rw [flipN_length]; exact hc) ?_ ?_
  · rw [bitAt_flipN p c l c hc]
    have : decide (c ≤ c ∧ c < c + 32) = true := decide_eq_true (by omega)
    rw [this, Nat.sub_self, hp]
    cases bitAt l c <;> decide
  · intro i hi h
    rw [flipN_length] at hi
    rw [bitAt_flipN p c l i hi] at h
    by_cases h1 : c ≤ i ∧ i < c + 32
    · omega
    · simp [h1] at h

theorem trailer_length (s : W) : (trailer s).length = 4 := rfl
/-- What differs from a sequence with its trailer in a burst is none such. -/
theorem flip_whole (p : W) (c : Nat) (l m : List UInt8) (t : W) (hc : c < 8 * (l.length + 4)) (hp : p.getLsbD 0 = true) (h : flipN p c (l ++ trailer (sum l)) 32 = m ++ trailer t) : t ≠ sum m := by
  rintro rfl
  have h1 := sum_flip p c (l ++ trailer (sum l)) (by rw [List.length_append, trailer_length]; exact hc) hp
  rw [h, sum_whole, sum_whole] at h1
  exact h1 rfl
theorem split4 (l : List UInt8) (n : Nat) (h : l.length = n + 4) : ∃ m p q r s, l = m ++ [p, q, r, s] ∧ m.length = n := by
  have hd : (l.drop n).length = 4 := by simp; omega
  match hx : l.drop n, hd with
  | [p, q, r, s], _ => exact ⟨l.take n, p, q, r, s, by rw [← hx, List.take_append_drop], by simp; omega⟩

/-- The bytewise exclusive or of three. -/
theorem xorL3_getD (a b c : List UInt8) (i n : Nat) (ha : a.length = n) (hb : b.length = n) (hc : c.length = n) (hi : i < n) : (xorL (xorL a b) c).getD i 0 = (a.getD i 0 ^^^ b.getD i 0) ^^^ c.getD i 0 := by
  subst ha
  simp [xorL, List.getElem?_zipWith, List.getElem?_eq_getElem hi, List.getElem?_eq_getElem (show i < b.length by omega), List.getElem?_eq_getElem (show i < c.length by omega)]

end Go.Proofs.Ytgibfagnfhgelaa.Crc
