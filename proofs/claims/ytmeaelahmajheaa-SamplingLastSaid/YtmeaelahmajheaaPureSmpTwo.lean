/- The sampling layer in plain Lean, more. -/
import Derived.Test.YtmeaelahmajheaaPureSampling
namespace Go.Proofs.Ytmeaelahmajheaa.Smp

/-- A port with a state is ready at a time. -/
def readyB (kind size depth refresh : Int) (len : Nat) (at_ : Int) (has : Bool) (now : Int) : Bool := validB kind size depth refresh len at_ has && (decide (at_ ≤ now) && decide (now ≤ 1073741824))

theorem valid_at {kind size depth refresh : Int} {len : Nat} {at_ : Int} {has : Bool} (h : validB kind size depth refresh len at_ has = true) :
    kind = 1 ∧ depth = 0 ∧ 1 ≤ size ∧ size ≤ 64 ∧ 0 ≤ refresh ∧ refresh ≤ 1073741824 ∧ 0 ≤ at_ ∧ at_ ≤ 1073741824 ∧ (len : Int) ≤ 64 ∧ (has = true → 1 ≤ len ∧ (len : Int) ≤ size) ∧ (has = false → len = 0 ∧ at_ = 0) := by
  unfold validB at h
  rw [decide_eq_true_eq] at h
  obtain ⟨h1, h2, h3, h4, h5, h6, h7⟩ := h
  cases has with
  | true => rw [if_pos rfl] at h7; exact ⟨h1, h2, h3, h4, h5, h6, h7.2.2.1, h7.2.2.2, by omega, (fun _ => ⟨h7.1, h7.2.1⟩), (fun h => by cases h)⟩
  | false => rw [if_neg (by decide)] at h7; exact ⟨h1, h2, h3, h4, h5, h6, by omega, by omega, by omega, (fun h => by cases h), (fun _ => h7)⟩

theorem ready_at {kind size depth refresh : Int} {len : Nat} {at_ : Int} {has : Bool} {now : Int} (h : readyB kind size depth refresh len at_ has now = true) :
    validB kind size depth refresh len at_ has = true ∧ at_ ≤ now ∧ now ≤ 1073741824 := by
  unfold readyB at h
  simpa using h

end Go.Proofs.Ytmeaelahmajheaa.Smp
