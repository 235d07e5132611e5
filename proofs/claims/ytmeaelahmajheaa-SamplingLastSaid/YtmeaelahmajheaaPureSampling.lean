/- The sampling layer in plain Lean: when a port with a state is valid, and what follows. No program is in sight here. -/
namespace Go.Proofs.Ytmeaelahmajheaa.Smp

/-- A port with a state is valid. -/
def validB (kind size depth refresh : Int) (len : Nat) (at_ : Int) (has : Bool) : Bool :=
  decide (kind = 1 ∧ depth = 0 ∧ 1 ≤ size ∧ size ≤ 64 ∧ 0 ≤ refresh ∧ refresh ≤ 1073741824 ∧ (if has = true then 1 ≤ len ∧ (len : Int) ≤ size ∧ 0 ≤ at_ ∧ at_ ≤ 1073741824 else len = 0 ∧ at_ = 0))

theorem valid_no1 {kind size depth refresh : Int} {len : Nat} {at_ : Int} {has : Bool} (h : ¬ kind = 1) : validB kind size depth refresh len at_ has = false := by
  unfold validB; simp [h]
theorem valid_no2 {kind size depth refresh : Int} {len : Nat} {at_ : Int} {has : Bool} (h : ¬ depth = 0) : validB kind size depth refresh len at_ has = false := by
  unfold validB; simp [h]
theorem valid_no3 {kind size depth refresh : Int} {len : Nat} {at_ : Int} {has : Bool} (h : ¬ (1 ≤ size ∧ size ≤ 64)) : validB kind size depth refresh len at_ has = false := by
  unfold validB; rw [decide_eq_false_iff_not]; intro h'; exact h ⟨h'.2.2.1, h'.2.2.2.1⟩
theorem valid_no4 {kind size depth refresh : Int} {len : Nat} {at_ : Int} {has : Bool} (h : ¬ (0 ≤ refresh ∧ refresh ≤ 1073741824)) : validB kind size depth refresh len at_ has = false := by
  unfold validB; rw [decide_eq_false_iff_not]; intro h'; exact h ⟨h'.2.2.2.2.1, h'.2.2.2.2.2.1⟩
theorem valid_bare {size refresh : Int} {len : Nat} {at_ : Int} (h3 : 1 ≤ size) (h4 : size ≤ 64) (h5 : 0 ≤ refresh) (h6 : refresh ≤ 1073741824) : validB 1 size 0 refresh len at_ false = (decide (len = 0) && decide (at_ = 0)) := by
  unfold validB; rw [Bool.eq_iff_iff]; simp [*]
theorem valid_full {size refresh : Int} {len : Nat} {at_ : Int} (h3 : 1 ≤ size) (h4 : size ≤ 64) (h5 : 0 ≤ refresh) (h6 : refresh ≤ 1073741824) : validB 1 size 0 refresh len at_ true = (decide (1 ≤ len ∧ (len : Int) ≤ size) && decide (0 ≤ at_ ∧ at_ ≤ 1073741824)) := by
  unfold validB; rw [Bool.eq_iff_iff]; simp [*, and_assoc]

end Go.Proofs.Ytmeaelahmajheaa.Smp
