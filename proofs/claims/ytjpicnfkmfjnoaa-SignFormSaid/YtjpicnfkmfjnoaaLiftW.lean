/- The lift of a slice of 64-bit words. -/
import Derived.Test.YtjpicnfkmfjnoaaLift
import Derived.Test.YtjpicnfkmfjnoaaWords64
namespace Go.Proofs.Ytjpicnfkmfjnoaa
open Go.Joins Go.ChangeShapes Go.WideShapes Go.RowKit Go.Deep

section
variable {H : Type} {enc : TypeId × Value → H} {P : Program} {w : World} {base : Nat} {spare : Nat → Bool} {held : Bool}
theorem f_words {t e : TypeId} {n : Nat} {v : Value} {y : DataW H × List MemPlace} (ht : P.underlying t = some (.slice e)) (he : P.underlying e = some (.int .u64)) (hc : P.cellsOf e = 1) (h : DataW.trod enc P w base spare held n t [v] = some y) :
    ∃ x l c, v = .slice x (List.length l) c ∧ Wts w x l ∧ l.length ≤ c ∧ c ≤ maxLen ∧ (x = none → c = 0) := by
  rcases open_ints ht he hc h with ⟨hcs, _⟩ | ⟨x, len, c, zs, hcs, _, hl, hm, hz, _, hcell, hwz⟩
  · exact ⟨none, [], 0, by simpa using hcs, Wts.nil _ _, Nat.le_refl _, Nat.zero_le _, fun _ => rfl⟩
  · have hzl : len ≤ zs.length := by rw [hz]; split <;> omega
    have hlen : ((zs.take len).map fun m => BitVec.ofInt 64 m).length = len := by simp; omega
    refine ⟨some x, (zs.take len).map fun m => BitVec.ofInt 64 m, c, by rw [hlen]; simpa using hcs, ?_, by omega, hm, fun h => by cases h⟩
    by_cases h0 : len = 0
    · subst h0; exact .inl (by simp)
    · obtain ⟨b, off, spot⟩ := x
      have hc0 := hcell 0 (by omega)
      have hspot : spot = none := by simpa [Addr.add] using World.cell?_spot hc0
      subst hspot
      refine .inr ⟨b, off, rfl, fun i hi => ?_⟩
      rw [hlen] at hi
      have hci := hcell i (by omega)
      have hplain : (⟨b, off, none⟩ : Addr).add i = ⟨b, off + i, none⟩ := by unfold Addr.add; split <;> simp_all
      rw [hplain] at hci
      rw [hci]
      have hw := of_wf_u64 (hwz (zs.getD i 0) (by
        rw [List.getD_eq_getElem?_getD, List.getElem?_eq_getElem (by omega)]; simp))
      have : (((zs.take len).map fun m => BitVec.ofInt 64 m).getD i 0#64) = BitVec.ofInt 64 (zs.getD i 0) := by
        rw [List.getD_eq_getElem?_getD, List.getElem?_map, List.getElem?_take, if_pos hi, List.getD_eq_getElem?_getD, List.getElem?_eq_getElem (by omega)]
        simp
      rw [this]
      unfold encW
      rw [← num_of _ hw.1 (by omega)]
theorem v_words {r : Reach} {b0 : Nat} {t e : TypeId} {v : Value} {d : DataW H} {ps : List MemPlace} (ht : P.underlying t = some (.slice e)) (he : P.underlying e = some (.int .u64)) (hc : P.cellsOf e = 1) (hval : Value.okWide P w r b0 t v) (h : DataW.Trod enc P w base spare held t v d ps) :
    ∃ x l c, v = .slice x (List.length l) c ∧ Wts w x l ∧ l.length ≤ c ∧ c ≤ maxLen ∧ (x = none → c = 0) := by
  obtain ⟨a, len, cap, rfl⟩ := okWide_slice ht hval
  obtain ⟨fuel, hf⟩ := h
  exact f_words ht he hc (by simpa [Value.cells] using hf)
end

end Go.Proofs.Ytjpicnfkmfjnoaa
