/- Plain facts on the set bits of a word, one after the other, and on bursts at any place. No program is in sight here. -/
import Derived.Test.YtjnjjnkanbnliaaDoorPureBurst
namespace Go.Proofs.YtjnjjnkanbnliaaDoor.Crc

/-- The set bits of m from j on. -/
def bitsF (m : W) (j : Nat) : List Nat := (List.range' j (32 - j)).filter fun i => m.getLsbD i
theorem bitsF_step (m : W) (j : Nat) (h : j < 32) : bitsF m j = if m.getLsbD j = true then j :: bitsF m (j + 1) else bitsF m (j + 1) := by
  unfold bitsF
  rw [show 32 - j = (32 - (j + 1)) + 1 by omega, List.range'_succ, List.filter_cons]
theorem bitsF_end (m : W) : bitsF m 32 = [] := rfl
/-- The first set bit from j on. -/
theorem bitsF_cons (m : W) : ∀ (n j : Nat), 32 - j = n → j ≤ 32 → ∀ t r, bitsF m j = t :: r → j ≤ t ∧ t < 32 ∧ m.getLsbD t = true ∧ (∀ i, j ≤ i → i < t → m.getLsbD i = false) ∧ r = bitsF m (t + 1)
  | 0, j, hn, hj, t, r, h => by
    obtain rfl : j = 32 := by omega
    rw [bitsF_end] at h; cases h
  | n + 1, j, hn, hj, t, r, h => by
    rw [bitsF_step m j (by omega)] at h
    split at h
    · rename_i hb
      simp only [List.cons.injEq] at h
      obtain ⟨rfl, rfl⟩ := h
      exact ⟨Nat.le_refl _, by omega, hb, fun i h1 h2 => by omega, rfl⟩
    · rename_i hb
      obtain ⟨h1, h2, h3, h4, h5⟩ := bitsF_cons m n (j + 1) (by omega) (by omega) t r h
      refine ⟨by omega, h2, h3, fun i h6 h7 => ?_, h5⟩
      by_cases he : i = j
      · subst he; exact eq_false_of_ne_true hb
      · exact h4 i (by omega) h7
theorem bitsF_nil (m : W) : ∀ (n j : Nat), 32 - j = n → j ≤ 32 → bitsF m j = [] → ∀ i, j ≤ i → m.getLsbD i = false
  | 0, j, hn, hj, h, i, hi => BitVec.getLsbD_of_ge _ _ (by omega)
  | n + 1, j, hn, hj, h, i, hi => by
    rw [bitsF_step m j (by omega)] at h
    split at h
    · cases h
    · rename_i hb
      by_cases he : i = j
      · subst he; exact eq_false_of_ne_true hb
      · exact bitsF_nil m n (j + 1) (by omega) (by omega) h i (by omega)

/-- What is left of m from bit j on. -/
def restF (m : W) (j : Nat) : W := (m >>> j) <<< j
theorem restF_bit (m : W) (j i : Nat) : (restF m j).getLsbD i = (decide (j ≤ i) && m.getLsbD i) := by
  unfold restF
  rw [BitVec.getLsbD_shiftLeft, BitVec.getLsbD_ushiftRight]
  by_cases h : j ≤ i
  · by_cases h2 : i < 32
    · have e : j + (i - j) = i := by omega
      simp [h, h2, show ¬ i < j by omega, e]
    · simp [h, h2, BitVec.getLsbD_of_ge m i (by omega)]
  · simp [h, show i < j by omega]
theorem restF_zero (m : W) : restF m 0 = m := by unfold restF; simp
theorem restF_nil (m : W) (j : Nat) (hj : j ≤ 32) (h : bitsF m j = []) : restF m j = 0#32 := by
  apply BitVec.eq_of_getLsbD_eq
  intro i hi
  rw [restF_bit, BitVec.getLsbD_zero]
  by_cases h1 : j ≤ i
  · rw [bitsF_nil m _ j rfl hj h i h1]; simp
  · simp [h1]
theorem restF_ne (m : W) (j t : Nat) (r : List Nat) (hj : j ≤ 32) (h : bitsF m j = t :: r) : restF m j ≠ 0#32 := by
  obtain ⟨h1, h2, h3, _⟩ := bitsF_cons m _ j rfl hj t r h
  intro e
  have := congrArg (fun x : W => x.getLsbD t) e
  simp [restF_bit, h1, h3] at this
theorem low_one (m : W) (j t : Nat) (r : List Nat) (hj : j ≤ 32) (h : bitsF m j = t :: r) : restF m j &&& -(restF m j) = 1#32 <<< t := by
  obtain ⟨h1, h2, h3, h4, _⟩ := bitsF_cons m _ j rfl hj t r h
  apply BitVec.eq_of_getLsbD_eq
  intro i hi
  rw [BitVec.getLsbD_and, BitVec.getLsbD_neg, BitVec.getLsbD_shiftLeft]
  have hx : ∀ k, (restF m j).getLsbD k = (decide (j ≤ k) && m.getLsbD k) := restF_bit m j
  by_cases hit : i = t
  · subst hit
    have : ¬ ∃ k, k < i ∧ (restF m j).getLsbD k = true := by
      rintro ⟨k, hk, e⟩
      rw [hx] at e
      simp only [Bool.and_eq_true, decide_eq_true_eq] at e
      rw [h4 k e.1 hk] at e
      cases e.2
    rw [hx]
    simp [h1, h3, hi, this]
  · by_cases hlt : i < t
    · have e : (restF m j).getLsbD i = false := by
        rw [hx]
        by_cases hji : j ≤ i
        · rw [h4 i hji hlt]; simp
        · simp [hji]
      rw [e]
      simp [hlt]
    · have : ∃ k, k < i ∧ (restF m j).getLsbD k = true := ⟨t, by omega, by rw [hx]; simp [h1, h3]⟩
      have hb1 : (1#32).getLsbD (i - t) = false := by
        have : ¬ i - t = 0 := by omega
        simp [this]
      rw [hb1]
      cases he : (restF m j).getLsbD i <;> simp [this, hi]
theorem clear_one (m : W) (j t : Nat) (r : List Nat) (hj : j ≤ 32) (h : bitsF m j = t :: r) : restF m j &&& (restF m j - 1#32) = restF m (t + 1) := by
  obtain ⟨h1, h2, h3, h4, _⟩ := bitsF_cons m _ j rfl hj t r h
  have hx : ∀ k, (restF m j).getLsbD k = (decide (j ≤ k) && m.getLsbD k) := restF_bit m j
  have hn : restF m j - 1#32 = ~~~(-(restF m j)) := by rw [BitVec.not_neg]
  rw [hn]
  apply BitVec.eq_of_getLsbD_eq
  intro i hi
  rw [BitVec.getLsbD_and, BitVec.getLsbD_not, BitVec.getLsbD_neg, restF_bit m (t + 1)]
  by_cases hlt : i ≤ t
  · have : ¬ ∃ k, k < i ∧ (restF m j).getLsbD k = true := by
      rintro ⟨k, hk, e⟩
      rw [hx] at e
      simp only [Bool.and_eq_true, decide_eq_true_eq] at e
      rw [h4 k e.1 (by omega)] at e
      cases e.2
    have hd : decide (t + 1 ≤ i) = false := decide_eq_false (by omega)
    rw [hd]
    cases he : (restF m j).getLsbD i <;> simp [this, hi]
  · have : ∃ k, k < i ∧ (restF m j).getLsbD k = true := ⟨t, by omega, by rw [hx]; simp [h1, h3]⟩
    have hd : decide (t + 1 ≤ i) = true := decide_eq_true (by omega)
    have hd2 : decide (j ≤ i) = true := decide_eq_true (by omega)
    rw [hd, hx i, hd2]
    cases he : m.getLsbD i <;> simp [this, hi]

/-! ### Bursts at any place -/

def buS (m : W) (c : Int) (l : List UInt8) (i : Nat) : List UInt8 := if m.getLsbD i = true ∧ 0 ≤ c + i ∧ c + i < 8 * l.length then flipB l (c + i).toNat else l
def buN (m : W) (c : Int) (l : List UInt8) : Nat → List UInt8
  | 0 => l
  | n + 1 => buS m c (buN m c l n) n
theorem buN_length (m : W) (c : Int) (l : List UInt8) : ∀ n, (buN m c l n).length = l.length
  | 0 => rfl
  | n + 1 => by
    rw [buN, buS]
    split
    · rw [flipB_length, buN_length m c l n]
    · exact buN_length m c l n
theorem buN_skip (m : W) (c : Int) (l : List UInt8) (j : Nat) : ∀ n, (∀ i, j ≤ i → i < j + n → m.getLsbD i = false) → buN m c l (j + n) = buN m c l j
  | 0, _ => rfl
  | n + 1, h => by
    show buS m c (buN m c l (j + n)) (j + n) = _
    rw [buS, if_neg (fun e => by rw [h (j + n) (by omega) (by omega)] at e; cases e.1)]
    exact buN_skip m c l j n (fun i h1 h2 => h i h1 (by omega))
/-- Bit i is turned over by a burst. -/
def inBu (m : W) (c : Int) (i : Nat) : Bool := decide (c ≤ i ∧ (i : Int) < c + 32) && m.getLsbD ((i : Int) - c).toNat
theorem bitAt_buN (m : W) (c : Int) (l : List UInt8) (i : Nat) (hi : i < 8 * l.length) : ∀ n, bitAt (buN m c l n) i = (bitAt l i ^^ (decide (c ≤ i ∧ (i : Int) < c + n) && m.getLsbD ((i : Int) - c).toNat))
  | 0 => by
    have : decide (c ≤ i ∧ (i : Int) < c + (0 : Nat)) = false := decide_eq_false (by omega)
    rw [this]; simp [buN]
  | n + 1 => by
    rw [buN, buS]
    have ih := bitAt_buN m c l i hi n
    have hl := buN_length m c l n
    split
    · rename_i h
      rw [bitAt_flipB _ _ _ (by omega), ih]
      by_cases he : (i : Int) = c + n
      · have e1 : ((i : Int) - c).toNat = n := by omega
        have h1 : decide (c ≤ i ∧ (i : Int) < c + n) = false := decide_eq_false (by omega)
        have h2 : decide (c ≤ i ∧ (i : Int) < c + (n + 1 : Nat)) = true := decide_eq_true (by omega)
        have h3 : decide (i = (c + n).toNat) = true := decide_eq_true (by omega)
        rw [h1, h2, h3, e1, h.1]; simp
      · have h1 : decide (c ≤ i ∧ (i : Int) < c + n) = decide (c ≤ i ∧ (i : Int) < c + (n + 1 : Nat)) := by rw [decide_eq_decide]; omega
        have h3 : decide (i = (c + n).toNat) = false := decide_eq_false (by omega)
        rw [h1, h3]; simp
    · rename_i h
      rw [ih]
      by_cases he : (i : Int) = c + n
      · have e1 : ((i : Int) - c).toNat = n := by omega
        have hp : m.getLsbD n = false := by
          cases hp : m.getLsbD n with
          | false => rfl
          | true => exact absurd ⟨hp, by omega, by omega⟩ h
        rw [e1, hp]; simp
      · have h1 : decide (c ≤ i ∧ (i : Int) < c + n) = decide (c ≤ i ∧ (i : Int) < c + (n + 1 : Nat)) := by rw [decide_eq_decide]; omega
        rw [h1]
/-- The burst of the pattern m from bit c on (which may lie ahead of the first one). -/
def burst (m : W) (c : Int) (l : List UInt8) : List UInt8 := buN m c l 32
theorem burst_length (m : W) (c : Int) (l : List UInt8) : (burst m c l).length = l.length := buN_length m c l 32
theorem bitAt_burst (m : W) (c : Int) (l : List UInt8) (i : Nat) (hi : i < 8 * l.length) : bitAt (burst m c l) i = (bitAt l i ^^ inBu m c i) := bitAt_buN m c l i hi 32
theorem bytes_ext (l m : List UInt8) (h : l.length = m.length) (hb : ∀ i, i < 8 * l.length → bitAt l i = bitAt m i) : l = m := by
  apply List.ext_getElem h
  intro i h1 h2
  apply UInt8.toBitVec_inj.1
  apply BitVec.eq_of_getLsbD_eq
  intro k hk
  have := hb (8 * i + k) (by omega)
  unfold bitAt at this
  rw [show (8 * i + k) / 8 = i by omega, show (8 * i + k) % 8 = k by omega] at this
  rw [List.getD_eq_getElem?_getD, List.getD_eq_getElem?_getD, List.getElem?_eq_getElem h1, List.getElem?_eq_getElem h2] at this
  exact this
theorem burst_out (m : W) (c : Int) (l : List UInt8) (h : c ≤ -32 ∨ 8 * (l.length : Int) ≤ c) : burst m c l = l := by
  apply bytes_ext _ _ (burst_length m c l)
  intro i hi
  rw [burst_length] at hi
  rw [bitAt_burst m c l i hi]
  have : decide (c ≤ (i : Int) ∧ (i : Int) < c + 32) = false := decide_eq_false (by omega)
  unfold inBu
  rw [this]; simp
theorem burst_two (x y : W) (c : Int) (l : List UInt8) : burst y c (burst x c l) = burst (x ^^^ y) c l := by
  apply bytes_ext
  · simp only [burst_length]
  intro i hi
  simp only [burst_length] at hi
  rw [bitAt_burst _ _ _ i (by rw [burst_length]; exact hi), bitAt_burst x c l i hi, bitAt_burst _ c l i hi]
  unfold inBu
  rw [BitVec.getLsbD_xor]
  cases decide (c ≤ (i : Int) ∧ (i : Int) < c + 32) <;> cases x.getLsbD ((i : Int) - c).toNat <;> cases y.getLsbD ((i : Int) - c).toNat <;> cases bitAt l i <;> rfl
theorem burst_zero (c : Int) (l : List UInt8) : burst 0#32 c l = l := by
  apply bytes_ext _ _ (burst_length _ c l)
  intro i hi
  rw [burst_length] at hi
  rw [bitAt_burst _ c l i hi]
  unfold inBu; simp
theorem burst_back (x : W) (c : Int) (l : List UInt8) : burst x c (burst x c l) = l := by rw [burst_two, BitVec.xor_self, burst_zero]
/-- A burst that changes some bytes changes their sum. -/
theorem sum_bu (m : W) (c : Int) (l : List UInt8) (h : burst m c l ≠ l) : sum (burst m c l) ≠ sum l := by
  have : ∃ n, n < 8 * l.length ∧ bitAt (burst m c l) n ≠ bitAt l n := by
    apply Classical.byContradiction
    intro hn
    apply h
    apply bytes_ext _ _ (burst_length m c l)
    intro i hi
    rw [burst_length] at hi
    apply Classical.byContradiction
    intro e
    exact hn ⟨i, hi, e⟩
  obtain ⟨n, hn, hne⟩ := this
  refine sum_burst _ _ (burst_length m c l) c n (by rw [burst_length]; exact hn) hne ?_
  intro i hi e
  rw [burst_length] at hi
  rw [bitAt_burst m c l i hi] at e
  unfold inBu at e
  by_cases hx : c ≤ (i : Int) ∧ (i : Int) < c + 32
  · exact hx
  · have : decide (c ≤ (i : Int) ∧ (i : Int) < c + 32) = false := decide_eq_false hx
    rw [this] at e
    simp at e

end Go.Proofs.YtjnjjnkanbnliaaDoor.Crc
