/- The lift of parameters that are software, stores and slices of tries. -/
import Derived.Test.YtapefonhgkjgnaaGreatLiftL
import Derived.Test.YtapefonhgkjgnaaGreatLdU
import Derived.OpenShut
namespace Go.Proofs.YtapefonhgkjgnaaGreat
open Go.Joins Go.ChangeShapes Go.WideShapes Go.RowKit Go.Deep

theorem choose_list {α : Type} (d : α) (p : Nat → α → Prop) : ∀ n : Nat, (∀ i, i < n → ∃ a, p i a) → ∃ l : List α, l.length = n ∧ ∀ i, i < n → p i (l.getD i d)
  | 0, _ => ⟨[], rfl, fun i hi => by omega⟩
  | n + 1, h => by
    obtain ⟨l, hl, hp⟩ := choose_list d p n (fun i hi => h i (by omega))
    obtain ⟨a, ha⟩ := h n (by omega)
    refine ⟨l ++ [a], by simp [hl], fun i hi => ?_⟩
    by_cases e : i < n
    · rw [List.getD_eq_getElem?_getD, List.getElem?_append_left (by omega), ← List.getD_eq_getElem?_getD]; exact hp i e
    · obtain rfl : i = n := by omega
      rw [List.getD_eq_getElem?_getD, List.getElem?_append_right (by omega), hl, Nat.sub_self]; exact ha
section
variable {H : Type} {enc : TypeId × Value → H} {P : Program} {w : World} {base : Nat} {spare : Nat → Bool} {held : Bool}
theorem f_words {t e : TypeId} {n : Nat} {v : Value} {y : DataW H × List MemPlace} (ht : P.underlying t = some (.slice e)) (he : P.underlying e = some (.int .u64)) (hc : P.cellsOf e = 1) (h : DataW.trod enc P w base spare held n t [v] = some y) :
    ∃ x l c, v = .slice x (List.length l) c ∧ Wts w x l ∧ l.length ≤ c ∧ c ≤ maxLen ∧ (x = none → c = 0) := by
  rcases open_ints ht he hc h with ⟨hcs, _⟩ | ⟨x, len, c, zs, hcs, _, hl, hm, hz, _, hcell, hwz⟩
  · exact ⟨none, [], 0, by simpa using hcs, Wts.nil _ _, Nat.le_refl _, Nat.zero_le _, fun _ => rfl⟩
  · have hzl : len ≤ zs.length := by rw [hz]; split <;> omega
    have hlen : ((zs.take len).map fun m => BitVec.ofInt 64 m).length = len := by simp; omega
    refine ⟨some x, (zs.take len).map fun m => BitVec.ofInt 64 m, c, by rw [hlen]; simpa using hcs, ?_, by omega, hm, fun h => by cases h⟩
    by_cases h0 : len = 0
    · subst h0; exact .inl (by simp)
    · obtain ⟨b, off, spot⟩ := x
      have hc0 := hcell 0 (by omega)
      have hspot : spot = none := by simpa [Addr.add] using World.cell?_spot hc0
      subst hspot
      refine .inr ⟨b, off, rfl, fun i hi => ?_⟩
      rw [hlen] at hi
      have hci := hcell i (by omega)
      have hplain : (⟨b, off, none⟩ : Addr).add i = ⟨b, off + i, none⟩ := by unfold Addr.add; split <;> simp_all
      rw [hplain] at hci
      rw [hci]
      have hw := of_wf_u64 (hwz (zs.getD i 0) (by
        rw [List.getD_eq_getElem?_getD, List.getElem?_eq_getElem (by omega)]; simp))
      have : (((zs.take len).map fun m => BitVec.ofInt 64 m).getD i 0#64) = BitVec.ofInt 64 (zs.getD i 0) := by
        rw [List.getD_eq_getElem?_getD, List.getElem?_map, List.getElem?_take, if_pos hi, List.getD_eq_getElem?_getD, List.getElem?_eq_getElem (by omega)]
        simp
      rw [this]
      unfold encW
      rw [← num_of _ hw.1 (by omega)]
/-- The word of a value. -/
def wordOf : Value → D64
  | .int _ m => BitVec.ofInt 64 m
  | _ => 0#64
theorem one_take {l : List Value} {j : Nat} (h : j < l.length) : (l.drop j).take 1 = [l[j]'h] := by rw [List.drop_eq_getElem_cons h]; rfl
theorem f_sig {t e : TypeId} {f0 f1 f2 : Field} {L : List Value} {n : Nat} {y : DataW H × List MemPlace} (hs : P.underlying t = some (.struct #[f0, f1, f2])) (ho : (f0.offset, f1.offset, f2.offset) = (0, 1, 19))
    (hc : (P.cellsOf f0.type, P.cellsOf f1.type, P.cellsOf f2.type, P.cellsOf e) = (1, 18, 1, 1)) (u0 : P.underlying f0.type = some (.int .i64)) (u1 : P.underlying f1.type = some (.array 18 e)) (ue : P.underlying e = some (.int .u64)) (u2 : P.underlying f2.type = some (.slice e))
    (hL : L.length = 20) (hf : DataW.trod enc P w base spare held n t L = some y) :
    ∃ key f x l c, (∀ j (hj : j < 20), L[j]'(by omega) = sigV key f x (List.length l) c j) ∧ (-9223372036854775808 ≤ key ∧ key ≤ 9223372036854775807) ∧ Wts w x l ∧ l.length ≤ c ∧ c ≤ maxLen ∧ (x = none → c = 0) := by
  simp only [Prod.mk.injEq] at ho hc
  obtain ⟨o0, o1, o2⟩ := ho
  obtain ⟨c0, c1, c2, ce⟩ := hc
  obtain ⟨y0, y1, y2, n, _, _, h0, h1, h2⟩ := trod_struct3 hs hf
  rw [o0, c0, one_take (by omega)] at h0
  rw [o2, c2, one_take (by omega)] at h2
  rw [o1, c1] at h1
  obtain ⟨key, hk, hwf⟩ := f_int u0 h0
  have hkb := of_wf_i64 hwf
  obtain ⟨xs, m1, _, _, _, hxl, hel⟩ := DataW.trod_array u1 h1
  obtain ⟨x, l, c, hx, hw, hlc, hcm, hxc⟩ := f_words u2 ue ce h2
  have hch : ∀ i (hi : i < 18), L[1 + i]'(by omega) = .int .u64 (num (wordOf (L[1 + i]'(by omega)))) := fun i hi => by
    have h3 := hel i hi
    rw [ce, Nat.mul_one] at h3
    have h4 : (((L.drop 1).take 18).drop i).take 1 = [L[1 + i]'(by omega)] := by
      rw [one_take (by simp; omega), List.getElem_take, List.getElem_drop]
    rw [h4, List.getElem?_eq_getElem (by omega)] at h3
    obtain ⟨m, hm, hwm⟩ := f_int ue h3
    rw [hm]
    have hb := of_wf_u64 hwm
    show Value.int .u64 m = .int .u64 (num (BitVec.ofInt 64 m))
    rw [← num_of _ hb.1 (by omega)]
  refine ⟨key, fun i => wordOf (L.getD (1 + i) undef), x, l, c, fun j hj2 => ?_, hkb, hw, hlc, hcm, hxc⟩
  unfold sigV
  by_cases j0 : j = 0
  · subst j0; rw [if_pos rfl]; exact hk
  · rw [if_neg j0]
    by_cases j19 : j < 19
    · rw [if_pos j19]
      have := hch (j - 1) (by omega)
      have ej : 1 + (j - 1) = j := by omega
      simp only [ej] at this ⊢
      rw [List.getD_eq_getElem?_getD, List.getElem?_eq_getElem (by omega)]
      exact this
    · rw [if_neg j19]
      obtain rfl : j = 19 := by omega
      exact hx
theorem sigV_cut (key : Int) (f : Nat → D64) (x : Option Addr) (l c j : Nat) : sigV key (Ld.cut18 f) x l c j = sigV key f x l c j := by
  unfold sigV
  split
  · rfl
  · split
    · rw [Ld.cut18_lt _ _ (by omega)]
    · rfl
theorem v_soft {r : Reach} {b0 : Nat} {t e e8 : TypeId} {g0 g1 g2 g3 f0 f1 f2 : Field} {v : Value} {d : DataW H} {ps : List MemPlace} (hs : P.underlying t = some (.struct #[g0, g1, g2, g3])) (ho : (g0.offset, g1.offset, g2.offset, g3.offset) = (0, 1, 2, 3))
    (hc : (P.cellsOf g0.type, P.cellsOf g1.type, P.cellsOf g2.type, P.cellsOf g3.type, P.cellsOf t, P.cellsOf e8) = (1, 1, 1, 20, 23, 1)) (u0 : P.underlying g0.type = some .string) (u1 : P.underlying g1.type = some (.int .i64)) (u2 : P.underlying g2.type = some (.slice e8)) (u8 : P.underlying e8 = some (.int .u8))
    (gs : P.underlying g3.type = some (.struct #[f0, f1, f2])) (go : (f0.offset, f1.offset, f2.offset) = (0, 1, 19))
    (gc : (P.cellsOf f0.type, P.cellsOf f1.type, P.cellsOf f2.type, P.cellsOf e) = (1, 18, 1, 1)) (gu0 : P.underlying f0.type = some (.int .i64)) (gu1 : P.underlying f1.type = some (.array 18 e)) (gue : P.underlying e = some (.int .u64)) (gu2 : P.underlying f2.type = some (.slice e))
    (hval : Value.okWide P w r b0 t v) (h : DataW.Trod enc P w base spare held t v d ps) :
    ∃ s a, v = aggN 23 (softV s a) ∧ SwIn w s a ∧ s.N ∧ (-9223372036854775808 ≤ s.ver ∧ s.ver ≤ 9223372036854775807) ∧ (-9223372036854775808 ≤ s.key ∧ s.key ≤ 9223372036854775807) ∧ s.name.length ≤ maxLen ∧ (s.img.length ≤ a.ci ∧ a.ci ≤ maxLen) ∧ (s.path.length ≤ a.cp ∧ a.cp ≤ maxLen) ∧ (a.xp = none → a.cp = 0) := by
  simp only [Prod.mk.injEq] at ho hc
  obtain ⟨o0, o1, o2, o3⟩ := ho
  obtain ⟨c0, c1, c2, c3, ct, c8⟩ := hc
  obtain ⟨cs, rfl, hsz⟩ := okWide_struct hs hval
  obtain ⟨fuel, hf⟩ := h
  obtain ⟨L⟩ := cs
  have hL : L.length = 23 := by have := hsz.trans ct; simpa using this
  have e0 : (Value.agg ⟨L⟩).cells.toList = L := rfl
  rw [e0] at hf
  obtain ⟨ys, n, _, _, hlen, hyl, hg⟩ := DataW.trod_struct hs hf
  have hyl4 : ys.length = 4 := by simpa using hyl
  have h0 := hg 0 g0 rfl
  have h1 := hg 1 g1 rfl
  have h2 := hg 2 g2 rfl
  have h3 := hg 3 g3 rfl
  rw [o0, c0, one_take (by omega), List.getElem?_eq_getElem (by omega)] at h0
  rw [o1, c1, one_take (by omega), List.getElem?_eq_getElem (by omega)] at h1
  rw [o2, c2, one_take (by omega), List.getElem?_eq_getElem (by omega)] at h2
  rw [o3, c3, List.getElem?_eq_getElem (by omega)] at h3
  obtain ⟨nm, hnm, wnm⟩ := f_string u0 h0
  obtain ⟨ver, hver, wver⟩ := f_int u1 h1
  obtain ⟨xi, im, ci, him, bim, k1, k2, k3⟩ := f_bytes u2 u8 c8 h2
  obtain ⟨key, f, xp, pl, cp, hsg, hkb, hwp, p1, p2, p3⟩ := f_sig gs go gc gu0 gu1 gue gu2 (by simp; omega) h3
  refine ⟨⟨nm.data.toList, ver, im, key, Ld.cut18 f, pl⟩, ⟨xi, ci, xp, cp⟩, ?_, ⟨bim, k3, hwp⟩, Ld.cut18_idem f, of_wf_i64 wver, hkb, by simpa using wnm, ⟨k1, k2⟩, ⟨p1, p2⟩, p3⟩
  unfold aggN
  congr 2
  refine List.ext_getElem (by simp [hL]) fun j hj1 hj2 => ?_
  rw [List.getElem_map, List.getElem_range]
  unfold softV
  by_cases j0 : j = 0
  · subst j0; rw [if_pos rfl]; rw [hnm]
  · rw [if_neg j0]
    by_cases j1 : j = 1
    · subst j1; rw [if_pos rfl]; exact hver
    · rw [if_neg j1]
      by_cases j2 : j = 2
      · subst j2; rw [if_pos rfl]; exact him
      · rw [if_neg j2, sigV_cut]
        have := hsg (j - 3) (by omega)
        rw [List.getElem_take, List.getElem_drop] at this
        have ej : 3 + (j - 3) = j := by omega
        simp only [ej] at this
        exact this
theorem f_rows {t e e2 : TypeId} {n : Nat} {v : Value} {y : DataW H × List MemPlace} (ht : P.underlying t = some (.slice e)) (he : P.underlying e = some (.slice e2)) (he2 : P.underlying e2 = some (.int .u8)) (hc : P.cellsOf e = 1) (hc2 : P.cellsOf e2 = 1) (h : DataW.trod enc P w base spare held n t [v] = some y) :
    ∃ x rs c, v = .slice x (List.length rs) c ∧ Rws w x rs ∧ rs.length ≤ c ∧ c ≤ maxLen ∧ (x = none → c = 0) := by
  rcases open_slice ht h with ⟨hcs, _⟩ | ⟨a', len', cap', m, n, D, Pl, hcs, _, hl, hm, hmm, _, hi⟩
  · exact ⟨none, [], 0, by simpa using hcs, ⟨.inl rfl, fun r hr => by simp at hr⟩, Nat.le_refl _, Nat.zero_le _, fun _ => rfl⟩
  · have hlm : len' ≤ m := by rw [hmm]; split <;> omega
    have key : ∀ i, i < len' → ∃ r : Rw, w.cell? (a'.add i) = some (encR r) ∧ RwOk w r := fun i him => by
      obtain ⟨cs', hc', ht'⟩ := hi i (by omega)
      rw [hc, Nat.mul_one] at hc'
      obtain ⟨_, hlen, hat⟩ := World.cells?_some hc'
      have hl1 : cs'.length = 1 := by omega
      match cs', hl1 with
      | [u], _ =>
        obtain ⟨x, l, c, rfl, hb, h1, h2, h3⟩ := f_bytes he he2 hc2 ht'
        have h0 := hat 0 (by simp)
        refine ⟨⟨x, c, l⟩, ?_, hb, h3, h1, by unfold maxLen at h2; show c ≤ 9223372036854775807; omega⟩
        have e0 : (a'.add i).add 0 = a'.add i := by unfold Addr.add; split <;> simp_all
        rw [e0] at h0
        exact h0
    obtain ⟨rs, hrl, hp⟩ := choose_list rw0 _ len' key
    refine ⟨some a', rs, cap', by rw [hrl]; simpa using hcs, ⟨?_, fun r hr => ?_⟩, by omega, hm, fun h => by cases h⟩
    · by_cases h0 : len' = 0
      · exact .inl (List.eq_nil_of_length_eq_zero (by omega))
      · obtain ⟨b, off, spot⟩ := a'
        have hc0 := (hp 0 (by omega)).1
        have hspot : spot = none := by simpa [Addr.add] using World.cell?_spot hc0
        subst hspot
        refine .inr ⟨b, off, rfl, fun i hi => ?_⟩
        have hci := (hp i (by omega)).1
        have hplain : (⟨b, off, none⟩ : Addr).add i = ⟨b, off + i, none⟩ := by unfold Addr.add; split <;> simp_all
        rwa [hplain] at hci
    · obtain ⟨i, hi, rfl⟩ := List.getElem_of_mem hr
      have := (hp i (by omega)).2
      rwa [List.getD_eq_getElem?_getD, List.getElem?_eq_getElem hi] at this
theorem v_store {r : Reach} {b0 : Nat} {t e e2 : TypeId} {f0 : Field} {v : Value} {d : DataW H} {ps : List MemPlace} (hs : P.underlying t = some (.struct #[f0])) (hone : oneCellFields P #[f0] = true) (hC : P.cellsOf t = 1) (ht : P.underlying f0.type = some (.slice e)) (he : P.underlying e = some (.slice e2)) (he2 : P.underlying e2 = some (.int .u8)) (hc : P.cellsOf e = 1) (hc2 : P.cellsOf e2 = 1)
    (hv : Value.okWide P w r b0 t v) (h : DataW.Trod enc P w base spare held t v d ps) :
    ∃ x rs c, v = .agg #[.slice x (List.length rs) c] ∧ Rws w x rs ∧ rs.length ≤ c ∧ c ≤ maxLen ∧ (x = none → c = 0) := by
  obtain ⟨v0, y0, n, rfl, h0⟩ := agg1 hs hone hC hv h
  obtain ⟨x, rs, c, rfl, h1⟩ := f_rows ht he he2 hc hc2 h0
  exact ⟨x, rs, c, rfl, h1⟩
end

end Go.Proofs.YtapefonhgkjgnaaGreat
