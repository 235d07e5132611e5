/- Decode of what Encode makes. -/
import Derived.Test.YtjpicnfkmfjnoaaSgnQ
namespace Go.Proofs.Ytjpicnfkmfjnoaa
open Go.RowKit

theorem pow6 {h : Nat} (h6 : h ≤ 6) : 2 ^ h ≤ 64 := Nat.pow_le_pow_right (n := 2) (by decide) h6
theorem dec_enc (key : Nat) (f : Nat → D64) (p : List D64) (h6 : p.length ≤ 6) (hk : key < 2 ^ p.length) (x : Option Addr) (c : Nat) (w : World) (hx : Bts w x (Sgn.enc key f p)) :
    Calls Try.prog 30 #[.slice x (Sgn.enc key f p).length c] w fun e w' => ∃ y cy g, e = .returned (.tuple #[aggN 20 (sigV (key : Int) g y p.length cy), .int .i64 0]) ∧ (∀ j, j < 18 → g j = f j) ∧ OwnsW w.heap.size w' y cy p ∧ Below w.heap.size w w' := by
  have hk64 : key < 64 := Nat.lt_of_lt_of_le hk (pow6 h6)
  have e0 : ((Sgn.enc key f p).getD 0 0).toNat = key := by rw [Sgn.enc_0, UInt8.toNat_ofNat']; omega
  have e1 : ((Sgn.enc key f p).getD 1 0).toNat = p.length := by rw [Sgn.enc_1, UInt8.toNat_ofNat']; omega
  have hki : (key : Int) < 2 ^ p.length := by
    have : ((key : Nat) : Int) < ((2 ^ p.length : Nat) : Int) := by exact_mod_cast hk
    simpa using this
  have hv : vldS (p.length : Int) (key : Int) = true := by
    unfold vldS
    refine decide_eq_true ⟨by omega, by omega, by omega, ?_⟩
    rw [Int.toNat_natCast]
    exact hki
  have h := decode_ok x (Sgn.enc key f p) c w hx (by rw [e0, e1]; exact hv) (by rw [e1, Sgn.enc_length])
  rw [e0, e1] at h
  refine h.mono ?_
  rintro e w' ⟨y, cy, rfl, ho, hb⟩
  rw [Sgn.wds_enc] at ho
  exact ⟨y, cy, _, rfl, fun j hj => Sgn.enc_chain key f p j hj, ho, hb⟩

end Go.Proofs.Ytjpicnfkmfjnoaa
