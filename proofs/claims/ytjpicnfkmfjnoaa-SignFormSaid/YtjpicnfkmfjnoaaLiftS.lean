/- The lift of a parameter that is a signature. -/
import Derived.Test.YtjpicnfkmfjnoaaLiftW
import Derived.Test.YtjpicnfkmfjnoaaSgnG
import Derived.OpenShut
namespace Go.Proofs.Ytjpicnfkmfjnoaa
open Go.Joins Go.ChangeShapes Go.WideShapes Go.RowKit Go.Deep

section
variable {H : Type} {enc : TypeId × Value → H} {P : Program} {w : World} {base : Nat} {spare : Nat → Bool} {held : Bool}
/-- The word of a value. -/
def wordOf : Value → D64
  | .int _ m => BitVec.ofInt 64 m
  | _ => 0#64
theorem one_take {l : List Value} {j : Nat} (h : j < l.length) : (l.drop j).take 1 = [l[j]'h] := by rw [List.drop_eq_getElem_cons h]; rfl
theorem v_sig {r : Reach} {b0 : Nat} {t e : TypeId} {f0 f1 f2 : Field} {v : Value} {d : DataW H} {ps : List MemPlace} (hs : P.underlying t = some (.struct #[f0, f1, f2])) (ho : (f0.offset, f1.offset, f2.offset) = (0, 1, 19))
    (hc : (P.cellsOf f0.type, P.cellsOf f1.type, P.cellsOf f2.type, P.cellsOf t, P.cellsOf e) = (1, 18, 1, 20, 1)) (u0 : P.underlying f0.type = some (.int .i64)) (u1 : P.underlying f1.type = some (.array 18 e)) (ue : P.underlying e = some (.int .u64)) (u2 : P.underlying f2.type = some (.slice e))
    (hval : Value.okWide P w r b0 t v) (h : DataW.Trod enc P w base spare held t v d ps) :
    ∃ key f x l c, v = aggN 20 (sigV key f x (List.length l) c) ∧ (-9223372036854775808 ≤ key ∧ key ≤ 9223372036854775807) ∧ Wts w x l ∧ l.length ≤ c ∧ c ≤ maxLen ∧ (x = none → c = 0) := by
  simp only [Prod.mk.injEq] at ho hc
  obtain ⟨o0, o1, o2⟩ := ho
  obtain ⟨c0, c1, c2, ct, ce⟩ := hc
  obtain ⟨cs, rfl, hsz⟩ := okWide_struct hs hval
  obtain ⟨fuel, hf⟩ := h
  obtain ⟨L⟩ := cs
  have hL : L.length = 20 := by have := hsz.trans ct; simpa using this
  obtain ⟨y0, y1, y2, n, _, _, h0, h1, h2⟩ := trod_struct3 hs hf
  have e0 : (Value.agg ⟨L⟩).cells.toList = L := rfl
  rw [e0] at h0 h1 h2
  rw [o0, c0, one_take (by omega)] at h0
  rw [o2, c2, one_take (by omega)] at h2
  rw [o1, c1] at h1
  obtain ⟨key, hk, hwf⟩ := f_int u0 h0
  have hkb := of_wf_i64 hwf
  obtain ⟨xs, m1, _, _, _, hxl, hel⟩ := DataW.trod_array u1 h1
  obtain ⟨x, l, c, hx, hw, hlc, hcm, hxc⟩ := f_words u2 ue ce h2
  have hch : ∀ i (hi : i < 18), L[1 + i]'(by omega) = .int .u64 (num (wordOf (L[1 + i]'(by omega)))) := fun i hi => by
    have h3 := hel i hi
    rw [ce, Nat.mul_one] at h3
    have h4 : (((L.drop 1).take 18).drop i).take 1 = [L[1 + i]'(by omega)] := by
      rw [one_take (by simp; omega), List.getElem_take, List.getElem_drop]
    rw [h4, List.getElem?_eq_getElem (by omega)] at h3
    obtain ⟨m, hm, hwm⟩ := f_int ue h3
    rw [hm]
    have hb := of_wf_u64 hwm
    show Value.int .u64 m = .int .u64 (num (BitVec.ofInt 64 m))
    rw [← num_of _ hb.1 (by omega)]
  refine ⟨key, fun i => wordOf (L.getD (1 + i) undef), x, l, c, ?_, hkb, hw, hlc, hcm, hxc⟩
  unfold aggN
  congr 2
  refine List.ext_getElem (by simp [hL]) fun j hj1 hj2 => ?_
  rw [List.getElem_map, List.getElem_range]
  unfold sigV
  by_cases j0 : j = 0
  · subst j0; rw [if_pos rfl]; exact hk
  · rw [if_neg j0]
    by_cases j19 : j < 19
    · rw [if_pos j19]
      have := hch (j - 1) (by omega)
      have ej : 1 + (j - 1) = j := by omega
      simp only [ej] at this ⊢
      rw [List.getD_eq_getElem?_getD, List.getElem?_eq_getElem (by omega)]
      exact this
    · rw [if_neg j19]
      obtain rfl : j = 19 := by omega
      exact hx
end

end Go.Proofs.Ytjpicnfkmfjnoaa
