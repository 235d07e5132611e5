/- Plain facts on power losses during an installation. No program is in sight here. -/
import Derived.Test.YtapefonhgkjgnaaLdZ
set_option maxRecDepth 20000
namespace Go.Proofs.Ytapefonhgkjgnaa
open Go.RowKit
namespace Ld
open Dig Sgn

/-- What a cut installation leaves: the bank in part, or the record torn, or all. -/
theorem cut_parts {ls : List (List UInt8)} {os : List OpV} {f : List UInt8} {nb m to : Nat} {rb : List UInt8} (ho : os.map opP = opsP f nb m to rb) (h : St ls) (hb : nb ≤ 1) (hm : m ≤ 16) (ht : to ≤ 1) (hr : rb.length ≤ 48) (n k : Nat) (hn : n < os.length) (hk : k ≤ 108) :
    cutL ls os n k = runL ls os ∨ (St (cutL ls os n k) ∧ (∀ j, j < 34 → j ≠ to → ¬ (2 + 16 * nb ≤ j ∧ j < 2 + 16 * nb + 16) → (cutL ls os n k).getD j [] = ls.getD j []) ∧ (readE ((cutL ls os n k).getD to []) ≠ 0 ∨ (cutL ls os n k).getD to [] = ls.getD to [])) := by
  obtain ⟨hl, hc, b1, b2, b3⟩ := ops_at ho
  by_cases hnm : n < m
  · right
    obtain ⟨hs, he⟩ := runC ho h hb hm n (by omega)
    obtain ⟨d1, d2, d3⟩ := hc n hnm
    have hx := hs.doAt (os.getD n op0) k (2 + 16 * nb + n) d1 (by omega)
    unfold cutL
    refine ⟨hs.set _ _, fun j hj h1 h2 => ?_, .inr ?_⟩
    · rw [hx j, if_neg (by omega), he j hj, if_neg (by omega)]
    · rw [hx to, if_neg (by omega), he to (by omega), if_neg (by omega)]
  · have hnm2 : n = m := by omega
    subst hnm2
    by_cases h108 : k = 108
    · left
      have := cutL_last ls os n hl
      rw [b2] at this
      rw [h108]
      exact this
    · right
      obtain ⟨hs, he⟩ := runC ho h hb hm n (Nat.le_refl _)
      have hx := hs.doAt (os.getD n op0) k to b1 (by omega)
      unfold cutL
      refine ⟨hs.set _ _, fun j hj h1 h2 => ?_, ?_⟩
      · rw [hx j, if_neg (by omega), he j hj, if_neg (by omega)]
      · by_cases hk0 : k = 0
        · right
          subst hk0
          rw [hx to, if_pos rfl]
          show (runL ls (os.take n)).getD to [] = _
          rw [he to (by omega), if_neg (by omega)]
        · left
          rw [hx to, if_pos rfl, b3]
          exact torn rb _ k (hs.blk to (by omega)) hr (by omega) (by omega)
theorem cut_ok {ls : List (List UInt8)} {os : List OpV} {f : List UInt8} {nb m to : Nat} {rb : List UInt8} (ho : os.map opP = opsP f nb m to rb) (hv : vldO ls os = true) (n k : Nat) (hn : n < os.length) (hk : k ≤ 108) : cutOk ls os (n : Int) (k : Int) = true := by
  obtain ⟨hl, hc, b1, b2, b3⟩ := ops_at ho
  have her : (os.getD n op0).er = false := by
    by_cases hnm : n < m
    · exact (hc n hnm).2.1
    · obtain rfl : n = m := by omega
      exact b2
  refine (cutOk_iff _ _ _ _).2 ⟨hv, by omega, by omega, by omega, ?_⟩
  rw [Int.toNat_natCast, her]
  show (k : Int) ≤ 108
  omega
theorem cut_first {ls : List (List UInt8)} (h : Idle ls) {s : Sw} {root : D} {g : Int} (hN : s.N) (hv : s.vld = true) (hg : genu s root g = true) {os : List OpV} (ho : os.map opP = insP ls s root g) (n k : Nat) (hn : n < os.length) (hk : k ≤ 108) :
    (Idle (cutL ls os n k) ∨ Run (cutL ls os n k) root g 0 ⟨0, ckN (form s), 1, ofL (form s)⟩ s) ∧ cutOk ls os (n : Int) (k : Int) = true := by
  obtain ⟨_, e⟩ := ins_idle h hv hg
  obtain ⟨hrun, hvo⟩ := run_first h hN hv hg ho
  rw [e] at ho
  obtain ⟨c1, c2, _⟩ := ckN_form s hv
  refine ⟨?_, cut_ok ho hvo n k hn hk⟩
  rcases cut_parts ho h.st (by omega) c2 (by omega) (by rw [rbytes_len]; omega) n k hn hk with e1 | ⟨hs, h1, h2⟩
  · right; rw [e1]; exact hrun
  · left; exact h.keep hs h2 (h1 1 (by omega) (by omega) (by omega))
theorem cut_next {ls : List (List UInt8)} {root : D} {g : Int} {a : Nat} {r : Rec} {t : Sw} (h : Run ls root g a r t) {s : Sw} (hN : s.N) (hv : s.vld = true) (hg : genu s root g = true) (hn' : t.ver < s.ver) (hr : r.number < 4294967295) {os : List OpV} (ho : os.map opP = insP ls s root g) (n k : Nat) (hn : n < os.length) (hk : k ≤ 108) :
    (Run (cutL ls os n k) root g a r t ∨ Run (cutL ls os n k) root g (1 - a) ⟨1 - r.bank, ckN (form s), r.number + 1, ofL (form s)⟩ s) ∧ cutOk ls os (n : Int) (k : Int) = true := by
  obtain ⟨_, e⟩ := ins_run h hv hg hn' hr
  obtain ⟨hrun, hvo⟩ := run_next h hN hv hg hn' hr ho
  rw [e] at ho
  have hb := h.bank
  have ha := h.a1
  obtain ⟨c1, c2, _⟩ := ckN_form s hv
  refine ⟨?_, cut_ok ho hvo n k hn hk⟩
  rcases cut_parts ho h.st (by omega) c2 (by omega) (by rw [rbytes_len]; omega) n k hn hk with e1 | ⟨hs, h1, h2⟩
  · right; rw [e1]; exact hrun
  · left
    exact h.keep hs (h1 a (by omega) (by omega) (by omega)) (fun j hj => h1 _ (by omega) (by omega) (by omega)) h2
end Ld
end Go.Proofs.Ytapefonhgkjgnaa
