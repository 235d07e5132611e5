/- Plain facts on installing and running: what Install and Running answer along the states of a store. No program is in sight here. -/
import Derived.Test.YtapefonhgkjgnaaGreatLdQ
namespace Go.Proofs.YtapefonhgkjgnaaGreat
namespace Ld
open Dig Sgn

theorem ins_idle {ls : List (List UInt8)} (h : Idle ls) {s : Sw} {root : D} {g : Int} (hv : s.vld = true) (hg : genu s root g = true) :
    cdI ls s root g = 0 ∧ insP ls s root g = opsP (form s) 0 (ckN (form s)) 0 (rbytes ⟨0, ckN (form s), 1, ofL (form s)⟩) := by
  have ha := h.at root g
  have hc : cdI ls s root g = 0 := by
    unfold cdI
    rw [h.st.use, hv, hg, ha]
    rfl
  refine ⟨hc, ?_⟩
  unfold insP nRec nBank nNum nTo
  rw [if_pos hc, ha]
  rfl
theorem ins_run {ls : List (List UInt8)} {root : D} {g : Int} {a : Nat} {r : Rec} {t : Sw} (h : Run ls root g a r t) {s : Sw} (hv : s.vld = true) (hg : genu s root g = true) (hn : t.ver < s.ver) (hr : r.number < 4294967295) :
    cdI ls s root g = 0 ∧ insP ls s root g = opsP (form s) (1 - r.bank) (ckN (form s)) (1 - a) (rbytes ⟨1 - r.bank, ckN (form s), r.number + 1, ofL (form s)⟩) := by
  have ha := h.at
  have h0 : (0 : Int) ≤ (a : Int) := by omega
  have hc : cdI ls s root g = 0 := by
    unfold cdI
    rw [h.st.use, hv, hg, ha, Int.toNat_natCast, h.rc, h.sw]
    simp only [Bool.and_self, if_true, if_pos h0, if_neg (show ¬ s.ver ≤ t.ver by omega), if_neg (show ¬ r.number = 4294967295 by omega)]
  refine ⟨hc, ?_⟩
  unfold insP nRec nBank nNum nTo
  rw [if_pos hc, ha, Int.toNat_natCast, h.rc, if_pos h0, if_pos h0, if_pos h0]
theorem ins_old {ls : List (List UInt8)} {root : D} {g : Int} {a : Nat} {r : Rec} {t : Sw} (h : Run ls root g a r t) {s : Sw} (hv : s.vld = true) (hg : genu s root g = true) (hn : s.ver ≤ t.ver) : cdI ls s root g = 382 := by
  have ha := h.at
  have h0 : (0 : Int) ≤ (a : Int) := by omega
  unfold cdI
  rw [h.st.use, hv, hg, ha, Int.toNat_natCast, h.sw]
  simp only [Bool.and_self, if_true, if_pos h0, if_pos hn]
theorem rn_run {ls : List (List UInt8)} {root : D} {g : Int} {a : Nat} {r : Rec} {t : Sw} (h : Run ls root g a r t) : ixR ls root g = (a : Int) ∧ swR ls root g = t ∧ cdR ls root g = 0 := by
  have ha := h.at
  have e : ixR ls root g = (a : Int) := by unfold ixR; rw [h.st.use, if_pos rfl, ha]
  refine ⟨e, ?_, ?_⟩
  · unfold swR; rw [e, if_pos (by omega), Int.toNat_natCast, h.sw]
  · unfold cdR; rw [h.st.use, if_pos rfl, ha, if_neg (by omega)]
theorem rn_idle {ls : List (List UInt8)} (h : Idle ls) (root : D) (g : Int) : ixR ls root g = -1 ∧ swR ls root g = zSw ∧ cdR ls root g = 6 := by
  have ha := h.at root g
  have e : ixR ls root g = -1 := by unfold ixR; rw [h.st.use, if_pos rfl, ha]
  refine ⟨e, ?_, ?_⟩
  · unfold swR; rw [e]; rfl
  · unfold cdR; rw [h.st.use, if_pos rfl, ha]; rfl
/-- A new store is idle. -/
theorem idle_new : Idle (List.replicate 34 erasedL) := by
  have hs : St (List.replicate 34 erasedL) := by
    refine ⟨(vldS_iff _).2 ⟨by simp, fun l hl => ?_⟩, by simp⟩
    rw [(List.mem_replicate.1 hl).2]; exact erasedL_len
  have hr : ∀ j, j < 34 → (List.replicate 34 erasedL).getD j [] = erasedL := fun j hj => by
    rw [List.getD_eq_getElem?_getD, List.getElem?_replicate, if_pos hj]; rfl
  refine ⟨hs, ?_, ?_⟩
  · rw [hs.rdC 0 (by omega), hr 0 (by omega), readE_erased]; decide
  · rw [hs.rdC 1 (by omega), hr 1 (by omega), readE_erased]; decide
/-- A first installation. -/
theorem run_first {ls : List (List UInt8)} (h : Idle ls) {s : Sw} {root : D} {g : Int} (hN : s.N) (hv : s.vld = true) (hg : genu s root g = true) {os : List OpV} (ho : os.map opP = insP ls s root g) :
    Run (runL ls os) root g 0 ⟨0, ckN (form s), 1, ofL (form s)⟩ s ∧ vldO ls os = true := by
  obtain ⟨_, e⟩ := ins_idle h hv hg
  rw [e] at ho
  obtain ⟨c1, c2, _⟩ := ckN_form s hv
  obtain ⟨hs, he⟩ := runAll ho h.st (by omega) c2 (by omega) (by rw [rbytes_len]; omega)
  refine ⟨h.next hs root g s hN hv hg ?_ ?_ ?_, vldO_ins ho h.st (by omega) c2 (by omega) (by rw [rbytes_len]; omega)⟩
  · rw [he 1 (by omega), if_neg (by omega), if_neg (by omega)]
  · rw [he 0 (by omega), if_pos rfl]
  · intro k hk
    rw [he _ (by omega), if_neg (by omega), if_pos (by omega), show 2 + 16 * 0 + k - (2 + 16 * 0) = k by omega]
theorem blks_of {os : List OpV} {f : List UInt8} {nb m to : Nat} {rb : List UInt8} (h : os.map opP = opsP f nb m to rb) : os.map (·.blk) = (List.range m).map (fun k => ((2 + 16 * nb + k : Nat) : Int)) ++ [(to : Int)] := by
  have e : os.map (·.blk) = (os.map opP).map (·.1) := by rw [List.map_map]; rfl
  rw [e, h]
  unfold opsP
  rw [List.map_append, List.map_map]
  rfl
end Ld
end Go.Proofs.YtapefonhgkjgnaaGreat
