/- Plain facts on the number of the bits that a burst turns over. No program is in sight here. -/
import Derived.Test.YtjnjjnkanbnliaaDoorPureSet
namespace Go.Proofs.YtjnjjnkanbnliaaDoor.Crc

/-- The number of the indices below n with a property. -/
def cntN (f : Nat → Bool) : Nat → Nat
  | 0 => 0
  | n + 1 => cntN f n + (f n).toNat
theorem cntN_mono (f : Nat → Bool) {a : Nat} : ∀ b, a ≤ b → cntN f a ≤ cntN f b
  | 0, h => by obtain rfl : a = 0 := by omega
               exact Nat.le_refl _
  | b + 1, h => by
    by_cases he : a = b + 1
    · subst he; exact Nat.le_refl _
    · have := cntN_mono f b (a := a) (by omega)
      show _ ≤ cntN f b + _
      omega
theorem cntN_congr {f g : Nat → Bool} : ∀ n, (∀ i, i < n → f i = g i) → cntN f n = cntN g n
  | 0, _ => rfl
  | n + 1, h => by
    show cntN f n + _ = cntN g n + _
    rw [cntN_congr n (fun i hi => h i (by omega)), h n (by omega)]
theorem cntN_add (f : Nat → Bool) (a : Nat) : ∀ b, cntN f (a + b) = cntN f a + cntN (fun i => f (a + i)) b
  | 0 => rfl
  | b + 1 => by
    show cntN f (a + b) + (f (a + b)).toNat = _
    rw [cntN_add f a b]
    show _ = _ + (cntN _ b + (f (a + b)).toNat)
    omega
theorem cntN_none (f : Nat → Bool) (a : Nat) : ∀ b, (∀ i, a ≤ i → f i = false) → a ≤ b → cntN f b = cntN f a
  | 0, _, h => by obtain rfl : a = 0 := by omega
                  rfl
  | b + 1, hf, h => by
    by_cases he : a = b + 1
    · subst he; rfl
    · show cntN f b + (f b).toNat = _
      rw [cntN_none f a b hf (by omega), hf b (by omega)]; rfl

/-- The bits of a burst within the first n ones. -/
theorem cnt_le (m : W) (c : Int) : ∀ n : Nat, cntN (inBu m c) n ≤ cntN m.getLsbD (min 32 ((n : Int) - c).toNat)
  | 0 => Nat.zero_le _
  | n + 1 => by
    have ih := cnt_le m c n
    show cntN (inBu m c) n + (inBu m c n).toNat ≤ _
    by_cases h : c ≤ (n : Int) ∧ (n : Int) < c + 32
    · have e1 : min 32 (((n + 1 : Nat) : Int) - c).toNat = ((n : Int) - c).toNat + 1 := by omega
      have e2 : min 32 ((n : Int) - c).toNat = ((n : Int) - c).toNat := by omega
      rw [e1]; rw [e2] at ih
      have e3 : inBu m c n = m.getLsbD ((n : Int) - c).toNat := by unfold inBu; rw [decide_eq_true h, Bool.true_and]
      rw [e3]
      show _ ≤ cntN m.getLsbD ((n : Int) - c).toNat + _
      omega
    · have e3 : inBu m c n = false := by unfold inBu; rw [decide_eq_false h, Bool.false_and]
      rw [e3]
      have := cntN_mono m.getLsbD (a := min 32 ((n : Int) - c).toNat) (min 32 (((n + 1 : Nat) : Int) - c).toNat) (by omega)
      show _ + 0 ≤ _
      omega
theorem cnt_eq (m : W) (c : Int) (hc : 0 ≤ c) : ∀ n : Nat, cntN (inBu m c) n = cntN m.getLsbD (min 32 ((n : Int) - c).toNat)
  | 0 => by
    have e : min 32 (((0 : Nat) : Int) - c).toNat = 0 := by omega
    rw [e]; rfl
  | n + 1 => by
    have ih := cnt_eq m c hc n
    show cntN (inBu m c) n + (inBu m c n).toNat = _
    by_cases h : c ≤ (n : Int) ∧ (n : Int) < c + 32
    · have e1 : min 32 (((n + 1 : Nat) : Int) - c).toNat = ((n : Int) - c).toNat + 1 := by omega
      have e2 : min 32 ((n : Int) - c).toNat = ((n : Int) - c).toNat := by omega
      rw [e1]; rw [e2] at ih
      have e3 : inBu m c n = m.getLsbD ((n : Int) - c).toNat := by unfold inBu; rw [decide_eq_true h, Bool.true_and]
      rw [e3, ih]
      rfl
    · have e3 : inBu m c n = false := by unfold inBu; rw [decide_eq_false h, Bool.false_and]
      have e4 : min 32 (((n + 1 : Nat) : Int) - c).toNat = min 32 ((n : Int) - c).toNat := by omega
      rw [e3, e4, ih]; rfl

/-- The number of the set bits among the first k of a number. -/
def popN (x : Nat) : Nat → Nat
  | 0 => 0
  | k + 1 => popN x k + x / 2 ^ k % 2
theorem popN_testBit (x : Nat) : ∀ k, popN x k = cntN x.testBit k
  | 0 => rfl
  | k + 1 => by
    show popN x k + _ = cntN x.testBit k + _
    rw [popN_testBit x k, Nat.testBit_eq_decide_div_mod_eq]
    have : x / 2 ^ k % 2 = 0 ∨ x / 2 ^ k % 2 = 1 := by omega
    rcases this with h | h <;> rw [h] <;> rfl
theorem popN_end (x k n : Nat) (h : x / 2 ^ k = 0) (hk : k ≤ n) : popN x n = popN x k := by
  rw [popN_testBit, popN_testBit]
  refine cntN_none _ k n (fun i hi => ?_) hk
  have hx : x < 2 ^ k := by
    rcases Nat.div_eq_zero_iff.1 h with h1 | h1
    · exact absurd h1 (by have := Nat.two_pow_pos k; omega)
    · exact h1
  exact Nat.testBit_lt_two_pow (Nat.lt_of_lt_of_le hx (Nat.pow_le_pow_right (by decide) hi))
theorem popN_le (x : Nat) : ∀ k, popN x k ≤ k
  | 0 => Nat.le_refl _
  | k + 1 => by
    have := popN_le x k
    show popN x k + _ ≤ _
    have : x / 2 ^ k % 2 < 2 := Nat.mod_lt _ (by decide)
    omega

/-- The number of the bits in which the first i bytes differ. -/
def difN (b c : List UInt8) : Nat → Nat
  | 0 => 0
  | i + 1 => difN b c i + popN (b.getD i 0 ^^^ c.getD i 0).toNat 8
theorem difN_le (b c : List UInt8) : ∀ i, difN b c i ≤ 8 * i
  | 0 => Nat.le_refl _
  | i + 1 => by
    have := difN_le b c i
    have := popN_le (b.getD i 0 ^^^ c.getD i 0).toNat 8
    show difN b c i + _ ≤ _
    omega
theorem difN_cnt (b c : List UInt8) : ∀ i, difN b c i = cntN (fun k => bitAt b k ^^ bitAt c k) (8 * i)
  | 0 => rfl
  | i + 1 => by
    show difN b c i + _ = _
    rw [difN_cnt b c i, show 8 * (i + 1) = 8 * i + 8 by omega, cntN_add]
    congr 1
    rw [popN_testBit]
    refine cntN_congr 8 fun k hk => ?_
    show _ = (bitAt b (8 * i + k) ^^ bitAt c (8 * i + k))
    unfold bitAt
    rw [show (8 * i + k) / 8 = i by omega, show (8 * i + k) % 8 = k by omega, ← BitVec.getLsbD_xor, ← UInt8.toBitVec_xor]
    rfl
theorem difN_bu (m : W) (c : Int) (l : List UInt8) : difN l (burst m c l) l.length = cntN (inBu m c) (8 * l.length) := by
  rw [difN_cnt]
  refine cntN_congr _ fun k hk => ?_
  show (bitAt l k ^^ bitAt (burst m c l) k) = _
  rw [bitAt_burst m c l k hk]
  cases bitAt l k <;> cases inBu m c k <;> rfl
theorem pop32 (m : W) : popN m.toNat 32 = cntN m.getLsbD 32 := by rw [popN_testBit]; rfl
theorem masks_le (m : W) (c : Int) (l : List UInt8) : difN l (burst m c l) l.length ≤ popN m.toNat 32 := by
  rw [difN_bu, pop32]
  exact Nat.le_trans (cnt_le m c _) (cntN_mono _ _ (by omega))
theorem masks_eq (m : W) (c : Int) (l : List UInt8) (h : 0 ≤ c) (h2 : c + 32 ≤ 8 * (l.length : Int)) : difN l (burst m c l) l.length = popN m.toNat 32 := by
  rw [difN_bu, pop32, cnt_eq m c h, show min 32 (((8 * l.length : Nat) : Int) - c).toNat = 32 by omega]

end Go.Proofs.YtjnjjnkanbnliaaDoor.Crc
