/- The texts of numbers: Parse and Text are inverse to one another. -/
import Derived.Test.YtmlmgpliajffnaaDigG
namespace Go.Proofs.Ytmlmgpliajffnaa

def nibs : D64 → Nat → List Nat
  | _, 0 => []
  | d, k + 1 => nibs (d >>> 4) k ++ [nib d]
theorem nibs_len : ∀ (k : Nat) (d : D64), (nibs d k).length = k
  | 0, _ => rfl
  | k + 1, d => by simp [nibs, nibs_len k]
theorem textL_nibs (d : D64) : textL d = (nibs d 16).map hexU := by
  simp [nibs, textL, ← BitVec.shiftRight_add]
theorem nib_shift (y : D64) : (y >>> 4) <<< 4 ||| BitVec.ofNat 64 (nib y) = y := by
  apply BitVec.eq_of_getLsbD_eq
  intro i hi
  rw [BitVec.getLsbD_or, BitVec.getLsbD_shiftLeft, BitVec.getLsbD_ushiftRight, BitVec.getLsbD_ofNat]
  unfold nib
  rw [show y.toNat % 16 = y.toNat % 2 ^ 4 from rfl, Nat.testBit_mod_two_pow]
  by_cases h : i < 4
  · simp [h, hi, BitVec.getLsbD]
  · simp [h, hi, show 4 + (i - 4) = i by omega]
theorem foldV_nibs : ∀ (k : Nat) (d : D64), d.toNat < 2 ^ (4 * k) → foldV 0#64 (nibs d k) = d
  | 0, d, h => by
    have h0 : d.toNat = 0 := by simpa using h
    exact (BitVec.eq_of_toNat_eq (by simp [foldV, nibs, h0])).symm.symm
  | k + 1, d, h => by
    rw [nibs, foldV_snoc, foldV_nibs k (d >>> 4) ?_, nib_shift]
    rw [BitVec.toNat_ushiftRight, Nat.shiftRight_eq_div_pow]
    have : 2 ^ (4 * (k + 1)) = 2 ^ (4 * k) * 16 := by rw [Nat.mul_add, Nat.pow_add]
    rw [this] at h
    omega
theorem nibs_lt : ∀ (k : Nat) (d : D64) (v : Nat), v ∈ nibs d k → v < 16
  | k + 1, d, v, h => by
    rw [nibs] at h
    rcases List.mem_append.1 h with h | h
    · exact nibs_lt k _ v h
    · simp at h; subst h; exact nib_lt d
theorem dval_hexU : ∀ v : Nat, v < 16 → dval (hexU v) = v := by decide +kernel
theorem vals_text (d : D64) : vals ⟨(textL d).toArray⟩ = nibs d 16 := by
  unfold vals
  rw [textL_nibs]
  simp only [List.map_map]
  conv => rhs; rw [← List.map_id (nibs d 16)]
  exact List.map_congr_left fun v hv => dval_hexU v (nibs_lt 16 d v hv)
theorem parse_text (d : D64) : parseR ⟨(textL d).toArray⟩ = some d := by
  unfold parseR
  rw [if_pos (by simp [ByteArray.size, textL_length]), vals_text, show (0 : D64) = 0#64 from rfl, parseF_ok _ _ (fun v hv => by have := nibs_lt 16 d v hv; omega), foldV_nibs 16 d (by have := d.isLt; omega)]

theorem fold_small : ∀ (n : Nat) (l : List Nat), l.length = n → n ≤ 16 → (∀ v, v ∈ l → v < 16) → (foldV 0#64 l).toNat < 2 ^ (4 * n) ∧ nibs (foldV 0#64 l) n = l
  | 0, l, h, _, _ => by
    obtain rfl := List.eq_nil_of_length_eq_zero h
    exact ⟨by simp [foldV], rfl⟩
  | n + 1, l, h, hn, hv => by
    obtain ⟨m, v, rfl⟩ : ∃ m v, l = m ++ [v] := by
      have hne : l ≠ [] := fun e => by subst e; simp at h
      exact ⟨_, _, (List.dropLast_concat_getLast hne).symm⟩
    have hm : m.length = n := by simpa using h
    obtain ⟨h1, h2⟩ := fold_small n m hm (by omega) (fun u hu => hv u (by simp [hu]))
    have hv16 : v < 16 := hv v (by simp)
    obtain ⟨x, hx⟩ : ∃ x, foldV 0#64 m = x := ⟨_, rfl⟩
    rw [hx] at h1 h2
    have e := add_nib x v hv16
    have hs : (x <<< 4 ||| BitVec.ofNat 64 v).toNat = 16 * x.toNat + v := by
      have h60 : (2 : Nat) ^ (4 * n) ≤ 2 ^ 60 := Nat.pow_le_pow_right (by decide) (by omega)
      have hsh : num (x <<< 4) = 16 * num x := by
        unfold num; rw [BitVec.toNat_shiftLeft, Nat.shiftLeft_eq]; omega
      rw [hsh] at e
      unfold num at e
      rw [wrap64u] at e
      omega
    rw [foldV_snoc, hx]
    refine ⟨?_, ?_⟩
    · rw [hs]
      have : 2 ^ (4 * (n + 1)) = 2 ^ (4 * n) * 16 := by rw [Nat.mul_add, Nat.pow_add]
      omega
    · rw [nibs]
      have a : (x <<< 4 ||| BitVec.ofNat 64 v) >>> 4 = x := by
        apply BitVec.eq_of_toNat_eq
        rw [BitVec.toNat_ushiftRight, hs, Nat.shiftRight_eq_div_pow]; omega
      have b : nib (x <<< 4 ||| BitVec.ofNat 64 v) = v := by unfold nib; rw [hs]; omega
      rw [a, b, h2]
theorem text_parse {s : ByteArray} {n : D64} (h : parseR s = some n) : (⟨(textL n).toArray⟩ : ByteArray) = s := by
  unfold parseR at h
  split at h
  · rename_i h16
    have hlen : (vals s).length = 16 := by rw [← h16]; simp [vals]
    have hall : ∀ v, v ∈ vals s → ¬ v = 16 := fun v hv e => by rw [parseF_bad _ _ v hv e] at h; cases h
    rw [show (0 : D64) = 0#64 from rfl, parseF_ok _ _ hall] at h
    have hn : foldV 0#64 (vals s) = n := by simpa using h
    have hv : ∀ v, v ∈ vals s → v < 16 := fun v hv => by
      have h1 := hall v hv
      unfold vals at hv
      obtain ⟨c, _, rfl⟩ := List.mem_map.1 hv
      have := dval_le c; omega
    have := (fold_small 16 (vals s) hlen (by omega) hv).2
    rw [hn] at this
    rw [textL_nibs, this]
    unfold vals
    rw [List.map_map]
    have e : s.data.toList.map (hexU ∘ dval) = s.data.toList := by
      conv => rhs; rw [← List.map_id s.data.toList]
      exact List.map_congr_left fun c hc => dval_eq (hv _ (by unfold vals; exact List.mem_map_of_mem hc))
    rw [e]
  · cases h

theorem text_two (d : D64) (j : Nat) (h : j < 8) : (⟨(textL d).toArray⟩ : ByteArray).extract (14 - 2 * j) (14 - 2 * j + 2) = ⟨#[hexU (nib (d >>> (8 * j + 4))), hexU (nib (d >>> (8 * j)))]⟩ := by
  match j, h with | 0, _ => (rw [show d >>> (8 * 0) = d by simp]; rfl) | 1, _ => rfl | 2, _ => rfl | 3, _ => rfl | 4, _ => rfl | 5, _ => rfl | 6, _ => rfl | 7, _ => rfl | k + 8, h => exact absurd h (by omega)
theorem two_same (d : D64) (v : UInt8) (j : Nat) (h : j < 8) (hv : (Dig.bytes d).getD j 0 = v) :
    (⟨(textL (Dig.ofB v)).toArray⟩ : ByteArray).extract 14 16 = (⟨(textL d).toArray⟩ : ByteArray).extract (14 - 2 * j) (14 - 2 * j + 2) := by
  have h1 := text_two (Dig.ofB v) 0 (by decide)
  simp only [Nat.mul_zero, Nat.sub_zero, Nat.zero_add, Nat.reduceAdd] at h1
  rw [h1, text_two d j h]
  have hvb : v = Dig.byteAt d j := by
    rw [← hv]; unfold Dig.bytes
    rw [List.getD_eq_getElem?_getD, List.getElem?_map, List.getElem?_range h]; rfl
  have hn : (Dig.ofB v).toNat = (d >>> (8 * j)).toNat % 256 := by
    rw [hvb]; unfold Dig.ofB Dig.byteAt; simp; omega
  have a : nib (Dig.ofB v >>> 0) = nib (d >>> (8 * j)) := by
    unfold nib; rw [BitVec.ushiftRight_zero, hn]; omega
  have b : nib (Dig.ofB v >>> 4) = nib (d >>> (8 * j + 4)) := by
    obtain ⟨x, hx⟩ : ∃ x, d >>> (8 * j) = x := ⟨_, rfl⟩
    rw [BitVec.shiftRight_add, hx]
    rw [hx] at hn
    unfold nib; rw [BitVec.toNat_ushiftRight, hn, BitVec.toNat_ushiftRight, Nat.shiftRight_eq_div_pow, Nat.shiftRight_eq_div_pow]; omega
  rw [a, b]

end Go.Proofs.Ytmlmgpliajffnaa
