/- What a valid key is. -/
import Derived.Test.YtjpicnfkmfjnoaaSgnE
namespace Go.Proofs.Ytjpicnfkmfjnoaa

theorem vld_nat2 {n : Nat} {key : Int} (h : vldS (n : Int) key = true) : n ≤ 6 ∧ ∃ k : Nat, key = (k : Int) ∧ k < 2 ^ n := by
  unfold vldS at h
  obtain ⟨_, h6, k0, kn⟩ := of_decide_eq_true h
  rw [Int.toNat_natCast] at kn
  refine ⟨by omega, key.toNat, by omega, ?_⟩
  have h5 : key < ((2 ^ n : Nat) : Int) := by simpa using kn
  omega

end Go.Proofs.Ytjpicnfkmfjnoaa
