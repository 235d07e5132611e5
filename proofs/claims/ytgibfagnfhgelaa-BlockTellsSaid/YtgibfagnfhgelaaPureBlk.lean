/- What the block layer computes: the steps of an operation, in plain lists. -/
import Derived.Test.YtgibfagnfhgelaaBlkF
namespace Go.Proofs.Ytgibfagnfhgelaa
open Go.RowKit

/-- The k-th step of an operation: where, and what byte. -/
def stepA (d : List UInt8) (k : Nat) : Nat × UInt8 := if k < 54 then (k, 255) else (k - 54, (encL d).getD (k - 54) 0)
/-- A block behind the first k steps. -/
def doN (d : List UInt8) : Nat → List UInt8 → List UInt8
  | 0, b => b
  | k + 1, b => (doN d k b).set (stepA d k).1 (stepA d k).2
theorem doN_len (d : List UInt8) : ∀ (k : Nat) (b : List UInt8), (doN d k b).length = b.length
  | 0, _ => rfl
  | k + 1, b => by rw [doN, List.length_set, doN_len d k b]
theorem stepA_lt (d : List UInt8) (k : Nat) (h : k < 108) : (stepA d k).1 < 54 := by
  unfold stepA; split <;> simp <;> omega
theorem erasedL_at (i : Nat) (h : i < 54) : erasedL.getD i 0 = 255 := by
  unfold erasedL
  rw [List.getD_eq_getElem?_getD, List.getElem?_replicate, if_pos h]; rfl
/-- What a step leaves at place i. -/
theorem doN_at (d : List UInt8) : ∀ (k : Nat) (b : List UInt8) (i : Nat), b.length = 54 → i < 54 → k ≤ 108 → (doN d k b).getD i 0 = if 54 + i < k then (encL d).getD i 0 else if i < k then 255 else b.getD i 0
  | 0, b, i, hb, hi, hk => by rw [if_neg (by omega), if_neg (by omega)]; rfl
  | k + 1, b, i, hb, hi, hk => by
    have ih := doN_at d k b i hb hi (by omega)
    have hl := doN_len d k b
    rw [doN]
    have hset : ∀ (l : List UInt8) (n : Nat) (v : UInt8), n < l.length → (l.set n v).getD i 0 = if n = i then v else l.getD i 0 := fun l n v hn => by
      rw [List.getD_eq_getElem?_getD, List.getElem?_set, List.getD_eq_getElem?_getD]
      by_cases h : n = i
      · subst h; rw [if_pos rfl, if_pos rfl, if_pos hn]; rfl
      · rw [if_neg h, if_neg h]
    rw [hset _ _ _ (by rw [hl, hb]; exact stepA_lt d k (by omega)), ih]
    unfold stepA
    by_cases h54 : k < 54
    · simp only [if_pos h54]
      by_cases he : k = i
      · subst he
        rw [if_pos rfl, if_neg (by omega), if_pos (by omega)]
      · rw [if_neg he]
        by_cases h1 : i < k
        · rw [if_neg (by omega), if_pos h1, if_neg (by omega), if_pos (by omega)]
        · rw [if_neg (by omega), if_neg h1, if_neg (by omega), if_neg (by omega)]
    · simp only [if_neg h54]
      by_cases he : k - 54 = i
      · rw [if_pos he, if_pos (by omega), he]
      · rw [if_neg he]
        by_cases h1 : 54 + i < k
        · rw [if_pos h1, if_pos (by omega)]
        · rw [if_neg h1, if_pos (show i < k by omega), if_neg (show ¬ 54 + i < k + 1 by omega), if_pos (show i < k + 1 by omega)]
theorem ext54 {a b : List UInt8} (ha : a.length = 54) (hb : b.length = 54) (h : ∀ i, i < 54 → a.getD i 0 = b.getD i 0) : a = b := by
  apply List.ext_getElem (by rw [ha, hb])
  intro i h1 h2
  have := h i (by omega)
  rw [List.getD_eq_getElem?_getD, List.getElem?_eq_getElem h1, List.getD_eq_getElem?_getD, List.getElem?_eq_getElem h2] at this
  exact this
/-- After all steps the block is the erased block, or that of the data. -/
theorem doN_er (d b : List UInt8) (hb : b.length = 54) : doN d 54 b = erasedL := by
  apply ext54 (by rw [doN_len, hb]) erasedL_len
  intro i hi
  rw [doN_at d 54 b i hb hi (by omega), if_neg (by omega), if_pos hi, erasedL_at i hi]
theorem doN_wr (d b : List UInt8) (hb : b.length = 54) (hd : d.length ≤ 48) : doN d 108 b = encL d := by
  apply ext54 (by rw [doN_len, hb]) (encL_len d hd)
  intro i hi
  rw [doN_at d 108 b i hb hi (by omega), if_pos (by omega)]
/-- What an operation leaves in its block. -/
def outO (er : Bool) (d : List UInt8) : List UInt8 := if er then erasedL else encL d
theorem doN_len_op (er : Bool) (d b : List UInt8) (hb : b.length = 54) (hd : d.length ≤ 48) : doN d (lenO er) b = outO er d := by
  cases er
  · exact doN_wr d b hb hd
  · exact doN_er d b hb
theorem outO_len (er : Bool) (d : List UInt8) (hd : d.length ≤ 48) : (outO er d).length = 54 := by
  cases er
  · exact encL_len d hd
  · exact erasedL_len
/-- A store behind the first k steps of an operation. -/
def doOp (ls : List (List UInt8)) (o : OpV) (k : Nat) : List (List UInt8) := ls.set o.blk.toNat (doN o.d k (ls.getD o.blk.toNat []))
/-- A store behind some operations. -/
def runL (ls : List (List UInt8)) (os : List OpV) : List (List UInt8) := os.foldl (fun l o => doOp l o (lenO o.er)) ls
/-- A store behind n operations and k steps of the next one. -/
def cutL (ls : List (List UInt8)) (os : List OpV) (n k : Nat) : List (List UInt8) := doOp (runL ls (os.take n)) (os.getD n op0) k
theorem doOp_len (ls : List (List UInt8)) (o : OpV) (k : Nat) : (doOp ls o k).length = ls.length := by unfold doOp; rw [List.length_set]
theorem runL_len (os : List OpV) : ∀ ls : List (List UInt8), (runL ls os).length = ls.length := by
  induction os with
  | nil => intro ls; rfl
  | cons o os ih =>
    intro ls
    show (runL (doOp ls o (lenO o.er)) os).length = _
    rw [ih, doOp_len]
theorem runL_take (ls : List (List UInt8)) (os : List OpV) (j : Nat) (h : j < os.length) : runL ls (os.take (j + 1)) = doOp (runL ls (os.take j)) (os.getD j op0) (lenO (os.getD j op0).er) := by
  unfold runL
  rw [List.take_succ_eq_append_getElem h, List.foldl_append, List.getD_eq_getElem?_getD, List.getElem?_eq_getElem h]
  rfl
/-- All blocks have their size. -/
def All54 (ls : List (List UInt8)) : Prop := ∀ l, l ∈ ls → l.length = 54
theorem All54.getD {ls : List (List UInt8)} (h : All54 ls) (i : Nat) (hi : i < ls.length) : (ls.getD i []).length = 54 := h _ (getD_mem ls i [] hi)
theorem All54.doOp {ls : List (List UInt8)} (h : All54 ls) (o : OpV) (k : Nat) : All54 (doOp ls o k) := by
  intro l hl
  unfold Go.Proofs.Ytgibfagnfhgelaa.doOp at hl
  by_cases hi : o.blk.toNat < ls.length
  · rcases List.mem_or_eq_of_mem_set hl with h1 | h1
    · exact h l h1
    · rw [h1, doN_len, h.getD _ hi]
  · rw [List.set_eq_of_length_le (by omega)] at hl
    exact h l hl
theorem All54.runL {ls : List (List UInt8)} (h : All54 ls) (os : List OpV) : All54 (runL ls os) := by
  induction os generalizing ls with
  | nil => exact h
  | cons o os ih => exact ih (h.doOp o _)
theorem vldS_iff (ls : List (List UInt8)) : vldS ls = true ↔ (1 ≤ ls.length ∧ ls.length ≤ 64) ∧ All54 ls := by
  unfold vldS All54 badL
  simp only [Bool.and_eq_true, decide_eq_true_eq, Bool.not_eq_true', List.any_eq_false, bne_iff_ne, ne_eq, Decidable.not_not]
theorem badO_iff (n : Nat) (o : OpV) : badO n o = false ↔ (0 ≤ o.blk ∧ o.blk < (n : Int)) ∧ o.d.length ≤ 48 ∧ (o.er = true → o.d.length = 0) := by
  unfold badO
  simp only [Bool.or_eq_false_iff, decide_eq_false_iff_not, Bool.and_eq_false_iff]
  constructor
  · rintro ⟨⟨⟨h1, h2⟩, h3⟩, h4⟩
    refine ⟨⟨by omega, by omega⟩, by omega, fun h => ?_⟩
    rcases h4 with h4 | h4
    · rw [h] at h4; cases h4
    · omega
  · rintro ⟨⟨h1, h2⟩, h3, h4⟩
    refine ⟨⟨⟨by omega, by omega⟩, by omega⟩, ?_⟩
    cases he : o.er
    · exact .inl rfl
    · right; have := h4 he; omega
theorem vldO_iff (ls : List (List UInt8)) (os : List OpV) : vldO ls os = true ↔ vldS ls = true ∧ ∀ o, o ∈ os → badO ls.length o = false := by
  unfold vldO
  simp only [Bool.and_eq_true, Bool.not_eq_true', List.any_eq_false, Bool.not_eq_true]

end Go.Proofs.Ytgibfagnfhgelaa
