/- WALKS of the crc layer: matrices. -/
import Derived.Test.YtcdmmhbmpkdagaaCrcC
namespace Go.Proofs.Ytcdmmhbmpkdagaa
open Go.RowKit

/-- The matrix M lies at block b. -/
def IsMat (w : World) (b : Nat) (M : Nat → W32) : Prop := ∀ i, i < 32 → w.cell? ⟨b, i, none⟩ = some (.int .u32 (n32 (M i)))
theorem IsMat.later {w w' : World} {b : Nat} {M : Nat → W32} (h : IsMat w b M) (hb : Below w.heap.size w w') : IsMat w' b M := fun i hi => Go.Proofs.Ytcdmmhbmpkdagaa.later hb (h i hi)

def matN (M : Nat → W32) (r : W32) : Nat → W32
  | 0 => 0#32
  | j + 1 => if r.getLsbD j then matN M r j ^^^ M j else matN M r j

theorem matN_lin (F : W32 → W32) (hz : F 0#32 = 0#32) (hx : ∀ a b, F (a ^^^ b) = F a ^^^ F b) (r : W32) : ∀ j, j ≤ 32 → matN (fun i => F (1#32 <<< i)) r j = F (Crc.low r j)
  | 0, _ => hz.symm
  | j + 1, h => by
    have ih := matN_lin F hz hx r j (by omega)
    have hl : Crc.low r (j + 1) = if r.getLsbD j then Crc.low r j ^^^ (1#32 <<< j) else Crc.low r j := by
      apply BitVec.eq_of_getLsbD_eq
      intro i hi
      rw [Crc.low_bit r (j + 1) i h]
      split
      · rename_i hb
        rw [BitVec.getLsbD_xor, Crc.low_bit r j i (by omega), BitVec.getLsbD_shiftLeft]
        by_cases e : i = j
        · subst e; simp [hb, hi]
        · by_cases l : i < j
          · simp [l, show i < j + 1 by omega]
          · simp [l, show ¬ i < j + 1 by omega]
            intro _
            omega
      · rename_i hb
        rw [Crc.low_bit r j i (by omega)]
        by_cases e : i = j
        · subst e; simp [hb]
        · by_cases l : i < j
          · simp [l, show i < j + 1 by omega]
          · simp [l, show ¬ i < j + 1 by omega]
    rw [matN, hl, ih]
    split
    · rw [hx]
    · rfl
theorem mat_lin (F : W32 → W32) (hz : F 0#32 = 0#32) (hx : ∀ a b, F (a ^^^ b) = F a ^^^ F b) (r : W32) : matN (fun i => F (1#32 <<< i)) r 32 = F r := by
  rw [matN_lin F hz hx r 32 (by omega), Crc.low_all]
/-- The map over n zero bits, as a matrix. -/
def zmat (n : Nat) (i : Nat) : W32 := Crc.bitN n (1#32 <<< i)
theorem zmat_apply (n : Nat) (r : W32) : matN (zmat n) r 32 = Crc.bitN n r := mat_lin (Crc.bitN n) (Crc.bitN_zero n) (Crc.bitN_xor n) r
theorem zmat_next (n i : Nat) : matN (zmat n) (zmat n i) 32 = zmat (n + n) i := by
  rw [zmat_apply]; unfold zmat; rw [← Crc.bitN_add]

theorem bitsh (r : W32) (j : Nat) : bits .and .u32 (n32 (r >>> j)) 1 = if r.getLsbD j then 1 else 0 := by
  rw [and1]; simp

def ApRel (M : Nat → W32) (r : W32) (u5 u7 : Value) : Prop := ∃ j : Nat, j ≤ 32 ∧ u7 = .int .i64 (j : Int) ∧ u5 = .int .u32 (n32 (matN M r j))

set_option maxRecDepth 100000 in
theorem apply_any (b : Nat) (M : Nat → W32) (r : W32) (w : World) (hm : IsMat w b M) :
    Calls Try.prog 21 #[.pointer (some ⟨b, 0, none⟩), .int .u32 (n32 r)] w fun e w' => e = .returned (.int .u32 (n32 (matN M r 32))) ∧ w' = w := by
  have hz : (0 : Int) = n32 (matN M r 0) := by show (0 : Int) = n32 0#32; decide
  have HZ := Lib.hid hz
  clear hz
  go_enter Try.func21, Try.ntmps21
  go_wp2_with fail
  go_loop [5, 7] (fun u5 u7 => ApRel M r u5 u7) (fun _ u7 => 32 - (intOf u7).toNat)
  case atStart => exact ⟨0, by omega, rfl, by rw [← HZ.out]⟩
  case round =>
    obtain ⟨j, hj, rfl, rfl⟩ := hrel
    by_cases hlt : j < 32
    · have hsh : n32 r / 2 ^ j = n32 (r >>> j) := by rw [← shr32]; simp
      have hbit := bitsh r j
      have hmj := hm j hlt
      cases hb : r.getLsbD j with
      | true =>
        rw [hb] at hbit
        have HM : Hid (matN M r j ^^^ M j = matN M r (j + 1)) := by show _ = _; rw [matN, hb]; rfl
        clear hb
        go_wp2_with fail
        exact ⟨⟨j + 1, by omega, by go_num, by rw [HM.out]⟩, by simp [intOf]; omega⟩
      | false =>
        rw [hb] at hbit
        have HM : Hid (matN M r j = matN M r (j + 1)) := by show _ = _; rw [matN, hb]; rfl
        clear hb
        go_wp2_with fail
        exact ⟨⟨j + 1, by omega, by go_num, by rw [HM.out]⟩, by simp [intOf]; omega⟩
    · obtain rfl : j = 32 := by omega
      go_wp2_with fail
      go_ret
      exact ⟨rfl, rfl⟩

end Go.Proofs.Ytcdmmhbmpkdagaa
