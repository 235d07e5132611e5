/- Plain facts on digits with their checksum, chains, and a tree of pairs. No program is in sight here. -/
import Derived.Test.YtjpicnfkmfjnoaaPureDigest
namespace Go.Proofs.Ytjpicnfkmfjnoaa.Sgn
open Dig

/-- Digit i of a number. -/
def dg (d : D) (i : Nat) : Nat := (d >>> (4 * i)).toNat % 16
theorem dg_lt (d : D) (i : Nat) : dg d i < 16 := Nat.mod_lt _ (by decide)
/-- What the first n digits lack of 15. -/
def lack (d : D) : Nat → Nat
  | 0 => 0
  | n + 1 => lack d n + (15 - dg d n)
theorem lack_le (d : D) : ∀ n, lack d n ≤ 15 * n
  | 0 => Nat.le_refl _
  | n + 1 => by have := lack_le d n; show lack d n + _ ≤ _; omega
/-- Digit i of a number, or of its checksum. -/
def dig (d : D) (i : Nat) : Nat := if i < 16 then dg d i else if i = 16 then lack d 16 % 16 else lack d 16 / 16
theorem dig_le (d : D) (i : Nat) : dig d i ≤ 15 := by
  unfold dig
  have := dg_lt d i
  have := lack_le d 16
  split
  · omega
  · split <;> omega
theorem dig_low (d : D) (i : Nat) (h : i < 16) : dig d i = dg d i := if_pos h
theorem dig_16 (d : D) : dig d 16 = lack d 16 % 16 := rfl
theorem dig_17 (d : D) : dig d 17 = lack d 16 / 16 := rfl

theorem dg_bit (d : D) (i k : Nat) (hk : k < 4) : (dg d i).testBit k = d.getLsbD (4 * i + k) := by
  unfold dg
  rw [show (16 : Nat) = 2 ^ 4 from rfl, Nat.testBit_mod_two_pow, decide_eq_true hk, Bool.true_and]
  show (d >>> (4 * i)).getLsbD k = _
  rw [BitVec.getLsbD_ushiftRight]
theorem dg_ext {d e : D} (h : ∀ i, i < 16 → dg d i = dg e i) : d = e := by
  apply BitVec.eq_of_getLsbD_eq
  intro j hj
  have : (dg d (j / 4)).testBit (j % 4) = (dg e (j / 4)).testBit (j % 4) := by rw [h (j / 4) (by omega)]
  rw [dg_bit _ _ _ (Nat.mod_lt _ (by decide)), dg_bit _ _ _ (Nat.mod_lt _ (by decide)), show 4 * (j / 4) + j % 4 = j by omega] at this
  exact this

theorem lack_mono {d e : D} : ∀ n, (∀ i, i < n → dg d i ≤ dg e i) → lack e n ≤ lack d n
  | 0, _ => Nat.le_refl _
  | n + 1, h => by
    have h1 := lack_mono n (fun i hi => h i (by omega))
    have h2 := h n (by omega)
    show lack e n + _ ≤ lack d n + _
    omega
theorem lack_strict {d e : D} : ∀ n, (∀ i, i < n → dg d i ≤ dg e i) → (∃ i, i < n ∧ dg d i < dg e i) → lack e n < lack d n
  | 0, _, h => by obtain ⟨i, hi, _⟩ := h; omega
  | n + 1, h, h3 => by
    have h1 := lack_mono n (fun i hi => h i (by omega))
    have h2 := h n (by omega)
    have hd := dg_lt d n
    have he := dg_lt e n
    show lack e n + _ < lack d n + _
    by_cases h4 : dg d n < dg e n
    · omega
    · obtain ⟨i, hi, hl⟩ := h3
      by_cases h5 : i = n
      · subst h5; exact absurd hl h4
      · have := lack_strict n (fun i hi => h i (by omega)) ⟨i, by omega, hl⟩
        omega
/-- Of two numbers that differ each has a digit that is smaller than the other's. -/
theorem dig_less {d e : D} (h : d ≠ e) : ∃ i, i < 18 ∧ dig d i < dig e i := by
  apply Classical.byContradiction
  intro hn
  have hall : ∀ i, i < 18 → dig e i ≤ dig d i := fun i hi => Classical.byContradiction fun h1 => hn ⟨i, hi, by omega⟩
  have hlow : ∀ i, i < 16 → dg e i ≤ dg d i := fun i hi => by have := hall i (by omega); rwa [dig_low _ _ hi, dig_low _ _ hi] at this
  have h16 := hall 16 (by omega)
  have h17 := hall 17 (by omega)
  rw [dig_16, dig_16] at h16
  rw [dig_17, dig_17] at h17
  have hs : lack e 16 ≤ lack d 16 := by omega
  by_cases hx : ∃ i, i < 16 ∧ dg e i < dg d i
  · have := lack_strict 16 hlow hx
    omega
  · refine h (dg_ext fun i hi => ?_)
    have := hlow i hi
    have : ¬ dg e i < dg d i := fun h2 => hx ⟨i, hi, h2⟩
    omega
/-- The number of its first n digits. -/
def num4 (d : D) : Nat → D
  | 0 => 0#64
  | n + 1 => num4 d n ||| BitVec.ofNat 64 (dg d n) <<< (4 * n)
theorem num4_bit (d : D) (j : Nat) (hj : j < 64) : ∀ n, (num4 d n).getLsbD j = (decide (j < 4 * n) && d.getLsbD j)
  | 0 => by simp [num4]
  | n + 1 => by
    show (num4 d n ||| BitVec.ofNat 64 (dg d n) <<< (4 * n)).getLsbD j = _
    rw [BitVec.getLsbD_or, num4_bit d j hj n, BitVec.getLsbD_shiftLeft]
    by_cases h1 : j < 4 * n
    · simp [h1, show j < 4 * (n + 1) by omega]
    · by_cases h2 : j < 4 * (n + 1)
      · have hk : j - 4 * n < 4 := by omega
        have e : (BitVec.ofNat 64 (dg d n)).getLsbD (j - 4 * n) = d.getLsbD j := by
          rw [BitVec.getLsbD_ofNat, dg_bit _ _ _ hk, show 4 * n + (j - 4 * n) = j by omega]
          simp; omega
        simp [h1, h2, hj, e]
      · have e : (BitVec.ofNat 64 (dg d n)).getLsbD (j - 4 * n) = false := by
          rw [BitVec.getLsbD_ofNat]
          have : (dg d n).testBit (j - 4 * n) = false := Nat.testBit_lt_two_pow (Nat.lt_of_lt_of_le (dg_lt d n) (Nat.pow_le_pow_right (n := 2) (by decide) (show 4 ≤ j - 4 * n by omega)))
          rw [this]; simp
        simp [h1, h2, e]
theorem num4_all (d : D) : num4 d 16 = d := by
  apply BitVec.eq_of_getLsbD_eq
  intro j hj
  rw [num4_bit d j hj, decide_eq_true (by omega), Bool.true_and]

/-! ### Chains -/
def stepS (i k : UInt8) (x : D) : D := ofL (i :: k :: bytes x)
/-- n steps from position f on. -/
def adv (i : UInt8) (f : Nat) : Nat → D → D
  | 0, x => x
  | n + 1, x => stepS i (UInt8.ofNat (f + n)) (adv i f n x)
theorem adv_add (i : UInt8) (f m : Nat) (x : D) : ∀ n, adv i f (m + n) x = adv i (f + m) n (adv i f m x)
  | 0 => rfl
  | n + 1 => by
    show stepS i (UInt8.ofNat (f + (m + n))) (adv i f (m + n) x) = stepS i (UInt8.ofNat (f + m + n)) _
    rw [adv_add i f m x n, Nat.add_assoc]
/-- The secret of a chain: a, b the two bytes of the key. -/
def sec (seed : D) (a b i : UInt8) : D := ofL (bytes seed ++ [a, b, i])
def val (seed : D) (a b : UInt8) (i n : Nat) : D := adv (UInt8.ofNat i) 0 n (sec seed a b (UInt8.ofNat i))
theorem val_add (seed : D) (a b : UInt8) (i m n : Nat) : val seed a b i (m + n) = adv (UInt8.ofNat i) m n (val seed a b i m) := by
  unfold val
  rw [adv_add, Nat.zero_add]
/-- The bytes of the first n values. -/
def ends (e : Nat → D) : Nat → List UInt8
  | 0 => []
  | n + 1 => ends e n ++ bytes (e n)
theorem ends_length (e : Nat → D) : ∀ n, (ends e n).length = 8 * n
  | 0 => rfl
  | n + 1 => by show (ends e n ++ bytes (e n)).length = _; rw [List.length_append, ends_length e n, bytes_length]; omega
theorem ends_congr {e f : Nat → D} : ∀ n, (∀ i, i < n → e i = f i) → ends e n = ends f n
  | 0, _ => rfl
  | n + 1, h => by show ends e n ++ _ = ends f n ++ _; rw [ends_congr n (fun i hi => h i (by omega)), h n (by omega)]
/-- The digest of the last values. -/
def pubE (e : Nat → D) : D := ofL (ends e 18)
theorem pubE_congr {e f : Nat → D} (h : ∀ i, i < 18 → e i = f i) : pubE e = pubE f := by unfold pubE; rw [ends_congr 18 h]
def pub (seed : D) (a b : UInt8) : D := pubE fun i => val seed a b i 15

/-! ### The tree -/
/-- The two low bytes of a key. -/
def keyA (q : Nat) : UInt8 := UInt8.ofNat q
def keyB (q : Nat) : UInt8 := UInt8.ofNat (q / 256)
def node (seed : D) : Nat → Nat → D
  | 0, q => pub seed (keyA q) (keyB q)
  | l + 1, i => pair (node seed l (2 * i)) (node seed l (2 * i + 1))
/-- The row of a level in a tree of height h. -/
def row (seed : D) (h l : Nat) : List D := (List.range (2 ^ (h - l))).map (node seed l)
theorem row_length (seed : D) (h l : Nat) : (row seed h l).length = 2 ^ (h - l) := by unfold row; simp
theorem row_getD (seed : D) (h l i : Nat) (hi : i < 2 ^ (h - l)) : (row seed h l).getD i 0#64 = node seed l i := by
  unfold row
  rw [List.getD_eq_getElem?_getD, List.getElem?_map, List.getElem?_range hi]; rfl
/-- The neighbour. -/
def sib (q : Nat) : Nat := if q % 2 = 0 then q + 1 else q - 1
def path (seed : D) (h q : Nat) : List D := (List.range h).map fun l => node seed l (sib (q / 2 ^ l))
theorem path_length (seed : D) (h q : Nat) : (path seed h q).length = h := by unfold path; simp
/-- The way up, with the first j of the path. -/
def up (q : Nat) (p : List D) (x : D) : Nat → D
  | 0 => x
  | j + 1 => if q / 2 ^ j % 2 = 0 then pair (up q p x j) (p.getD j 0#64) else pair (p.getD j 0#64) (up q p x j)
theorem up_node (seed : D) (h q : Nat) : ∀ j, j ≤ h → up q (path seed h q) (node seed 0 q) j = node seed j (q / 2 ^ j)
  | 0, _ => by show node seed 0 q = _; rw [Nat.pow_zero, Nat.div_one]
  | j + 1, hj => by
    have hp : (path seed h q).getD j 0#64 = node seed j (sib (q / 2 ^ j)) := by
      unfold path
      rw [List.getD_eq_getElem?_getD, List.getElem?_map, List.getElem?_range (by omega)]; rfl
    show (if q / 2 ^ j % 2 = 0 then _ else _) = _
    rw [up_node seed h q j (by omega), hp]
    have e : q / 2 ^ (j + 1) = q / 2 ^ j / 2 := by rw [Nat.pow_succ, Nat.div_div_eq_div_mul]
    rw [e]
    obtain ⟨t, ht⟩ : ∃ t, q / 2 ^ j = t := ⟨_, rfl⟩
    rw [ht]
    unfold sib
    show _ = pair (node seed j (2 * (t / 2))) (node seed j (2 * (t / 2) + 1))
    by_cases h2 : t % 2 = 0
    · rw [if_pos h2, if_pos h2, show 2 * (t / 2) = t by omega]
    · rw [if_neg h2, if_neg h2, show 2 * (t / 2) = t - 1 by omega, show t - 1 + 1 = t by omega]
theorem up_root (seed : D) (h q : Nat) (hq : q < 2 ^ h) : up q (path seed h q) (node seed 0 q) h = node seed h 0 := by
  rw [up_node seed h q h (Nat.le_refl _), Nat.div_eq_of_lt hq]

end Go.Proofs.Ytjpicnfkmfjnoaa.Sgn
