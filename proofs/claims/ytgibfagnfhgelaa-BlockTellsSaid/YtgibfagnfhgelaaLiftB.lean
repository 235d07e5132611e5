/- The lift of a store (a struct of one slice of slices of bytes) and of a slice of operations. -/
import Derived.Test.YtgibfagnfhgelaaLift
import Derived.Test.YtgibfagnfhgelaaBlkE
namespace Go.Proofs.Ytgibfagnfhgelaa
open Go.Joins Go.ChangeShapes Go.WideShapes Go.RowKit Go.Deep

theorem choose_list {α : Type} (d : α) (p : Nat → α → Prop) : ∀ n : Nat, (∀ i, i < n → ∃ a, p i a) → ∃ l : List α, l.length = n ∧ ∀ i, i < n → p i (l.getD i d)
  | 0, _ => ⟨[], rfl, fun i hi => by omega⟩
  | n + 1, h => by
    obtain ⟨l, hl, hp⟩ := choose_list d p n (fun i hi => h i (by omega))
    obtain ⟨a, ha⟩ := h n (by omega)
    refine ⟨l ++ [a], by simp [hl], fun i hi => ?_⟩
    by_cases e : i < n
    · rw [List.getD_eq_getElem?_getD, List.getElem?_append_left (by omega), ← List.getD_eq_getElem?_getD]; exact hp i e
    · obtain rfl : i = n := by omega
      rw [List.getD_eq_getElem?_getD, List.getElem?_append_right (by omega), hl, Nat.sub_self]; exact ha
section
variable {H : Type} {enc : TypeId × Value → H} {P : Program} {w : World} {base : Nat} {spare : Nat → Bool} {held : Bool}
theorem f_rows {t e e2 : TypeId} {n : Nat} {v : Value} {y : DataW H × List MemPlace} (ht : P.underlying t = some (.slice e)) (he : P.underlying e = some (.slice e2)) (he2 : P.underlying e2 = some (.int .u8)) (hc : P.cellsOf e = 1) (hc2 : P.cellsOf e2 = 1) (h : DataW.trod enc P w base spare held n t [v] = some y) :
    ∃ x rs c, v = .slice x (List.length rs) c ∧ Rws w x rs ∧ rs.length ≤ c ∧ c ≤ maxLen ∧ (x = none → c = 0) := by
  rcases open_slice ht h with ⟨hcs, _⟩ | ⟨a', len', cap', m, n, D, Pl, hcs, _, hl, hm, hmm, _, hi⟩
  · exact ⟨none, [], 0, by simpa using hcs, ⟨.inl rfl, fun r hr => by simp at hr⟩, Nat.le_refl _, Nat.zero_le _, fun _ => rfl⟩
  · have hlm : len' ≤ m := by rw [hmm]; split <;> omega
    have key : ∀ i, i < len' → ∃ r : Rw, w.cell? (a'.add i) = some (encR r) ∧ RwOk w r := fun i him => by
      obtain ⟨cs', hc', ht'⟩ := hi i (by omega)
      rw [hc, Nat.mul_one] at hc'
      obtain ⟨_, hlen, hat⟩ := World.cells?_some hc'
      have hl1 : cs'.length = 1 := by omega
      match cs', hl1 with
      | [u], _ =>
        obtain ⟨x, l, c, rfl, hb, h1, h2, h3⟩ := f_bytes he he2 hc2 ht'
        have h0 := hat 0 (by simp)
        refine ⟨⟨x, c, l⟩, ?_, hb, h3, h1, by unfold maxLen at h2; show c ≤ 9223372036854775807; omega⟩
        have e0 : (a'.add i).add 0 = a'.add i := by unfold Addr.add; split <;> simp_all
        rw [e0] at h0
        exact h0
    obtain ⟨rs, hrl, hp⟩ := choose_list rw0 _ len' key
    refine ⟨some a', rs, cap', by rw [hrl]; simpa using hcs, ⟨?_, fun r hr => ?_⟩, by omega, hm, fun h => by cases h⟩
    · by_cases h0 : len' = 0
      · exact .inl (List.eq_nil_of_length_eq_zero (by omega))
      · obtain ⟨b, off, spot⟩ := a'
        have hc0 := (hp 0 (by omega)).1
        have hspot : spot = none := by simpa [Addr.add] using World.cell?_spot hc0
        subst hspot
        refine .inr ⟨b, off, rfl, fun i hi => ?_⟩
        have hci := (hp i (by omega)).1
        have hplain : (⟨b, off, none⟩ : Addr).add i = ⟨b, off + i, none⟩ := by unfold Addr.add; split <;> simp_all
        rwa [hplain] at hci
    · obtain ⟨i, hi, rfl⟩ := List.getElem_of_mem hr
      have := (hp i (by omega)).2
      rwa [List.getD_eq_getElem?_getD, List.getElem?_eq_getElem hi] at this
theorem v_store {r : Reach} {b0 : Nat} {t e e2 : TypeId} {f0 : Field} {v : Value} {d : DataW H} {ps : List MemPlace} (hs : P.underlying t = some (.struct #[f0])) (hone : oneCellFields P #[f0] = true) (hC : P.cellsOf t = 1) (ht : P.underlying f0.type = some (.slice e)) (he : P.underlying e = some (.slice e2)) (he2 : P.underlying e2 = some (.int .u8)) (hc : P.cellsOf e = 1) (hc2 : P.cellsOf e2 = 1)
    (hv : Value.okWide P w r b0 t v) (h : DataW.Trod enc P w base spare held t v d ps) :
    ∃ x rs c, v = .agg #[.slice x (List.length rs) c] ∧ Rws w x rs ∧ rs.length ≤ c ∧ c ≤ maxLen ∧ (x = none → c = 0) := by
  obtain ⟨v0, y0, n, rfl, h0⟩ := agg1 hs hone hC hv h
  obtain ⟨x, rs, c, rfl, h1⟩ := f_rows ht he he2 hc hc2 h0
  exact ⟨x, rs, c, rfl, h1⟩
theorem v_ops {r : Reach} {b0 : Nat} {t e e2 : TypeId} {f0 f1 f2 : Field} {v : Value} {d : DataW H} {ps : List MemPlace} (ht : P.underlying t = some (.slice e)) (he : P.underlying e = some (.struct #[f0, f1, f2])) (hone : oneCellFields P #[f0, f1, f2] = true) (hC : P.cellsOf e = 3)
    (h0 : P.underlying f0.type = some (.int .i64)) (h1 : P.underlying f1.type = some .bool) (h2 : P.underlying f2.type = some (.slice e2)) (he2 : P.underlying e2 = some (.int .u8)) (hc2 : P.cellsOf e2 = 1)
    (hv : Value.okWide P w r b0 t v) (h : DataW.Trod enc P w base spare held t v d ps) :
    ∃ x os c, v = .slice x (List.length os) c ∧ Ops w x os ∧ os.length ≤ c ∧ c ≤ maxLen ∧ (x = none → c = 0) := by
  have hnone : ∀ x n c, v = .slice x n c → x = none → c = 0 := fun x n c e hx => by
    subst hx
    obtain ⟨fuel, hf⟩ := h
    rw [e] at hf
    rcases open_slice ht (by simpa [Value.cells] using hf) with ⟨hcs, _⟩ | ⟨a', len', cap', m, n', D, Pl, hcs, _⟩
    · simp at hcs; exact hcs.2
    · simp at hcs
  obtain ⟨x, n, c, rfl, hnc, hcm, hk⟩ := v_structs ht he hone hC (by simp) hv h
  have hn0 := hnone x n c rfl
  rcases hk with hk | ⟨b, o, rfl, hk⟩
  · subst hk
    exact ⟨x, [], c, rfl, ⟨.inl rfl, fun o ho => by simp at ho⟩, Nat.zero_le _, hcm, hn0⟩
  · have key : ∀ i, i < n → ∃ q : OpV, (w.cell? ⟨b, o + i * 3, none⟩ = some (.int .i64 q.blk) ∧ w.cell? ⟨b, o + i * 3 + 1, none⟩ = some (.bool q.er) ∧ w.cell? ⟨b, o + i * 3 + 2, none⟩ = some (.slice q.x q.d.length q.c)) ∧ OpOk w q := fun i him => by
      obtain ⟨u0, y0, m0, c0, t0⟩ := hk i him 0 f0 rfl
      obtain ⟨u1, y1, m1, c1, t1⟩ := hk i him 1 f1 rfl
      obtain ⟨u2, y2, m2, c2, t2⟩ := hk i him 2 f2 rfl
      obtain ⟨z, rfl, wz⟩ := f_int h0 t0
      obtain ⟨bb, rfl⟩ := f_bool h1 t1
      obtain ⟨xd, ld, cd, rfl, hb, k1, k2, k3⟩ := f_bytes h2 he2 hc2 t2
      have hz := of_wf_i64 wz
      exact ⟨⟨z, bb, xd, cd, ld⟩, ⟨c0, c1, c2⟩, hb, k3, k1, by unfold maxLen at k2; show cd ≤ 9223372036854775807; omega, hz.1, hz.2⟩
    obtain ⟨os, hol, hp⟩ := choose_list op0 _ n key
    refine ⟨some ⟨b, o, none⟩, os, c, by rw [hol], ⟨.inr ⟨b, o, rfl, fun i hi => (hp i (by omega)).1⟩, fun q hq => ?_⟩, by omega, hcm, hn0⟩
    obtain ⟨i, hi, rfl⟩ := List.getElem_of_mem hq
    have := (hp i (by omega)).2
    rwa [List.getD_eq_getElem?_getD, List.getElem?_eq_getElem hi] at this
end

end Go.Proofs.Ytgibfagnfhgelaa
