/- WALKS of the laws of the block layer: Few. -/
import Derived.Test.YtgibfagnfhgelaaBlkI
namespace Go.Proofs.Ytgibfagnfhgelaa
open Go.RowKit

/-- Few. -/
def fewB (ls : List (List UInt8)) (os : List OpV) : Bool := !(ls.any fun l => decide (100 < l.length)) && (!(os.any fun o => decide (100 < o.d.length)) && (decide (ls.length ≤ 70) && decide (os.length ≤ 20)))
theorem fewB_iff (ls : List (List UInt8)) (os : List OpV) : fewB ls os = true ↔ (∀ l, l ∈ ls → l.length ≤ 100) ∧ (∀ o, o ∈ os → o.d.length ≤ 100) ∧ ls.length ≤ 70 ∧ os.length ≤ 20 := by
  unfold fewB
  simp only [Bool.and_eq_true, Bool.not_eq_true', List.any_eq_false, decide_eq_true_eq, Nat.not_lt]
theorem few_no1 (ls : List (List UInt8)) (os : List OpV) (h : ls.any (fun l => decide (100 < l.length)) = true) : fewB ls os = false := by unfold fewB; rw [h]; rfl
theorem few_no2 (ls : List (List UInt8)) (os : List OpV) (h : os.any (fun o => decide (100 < o.d.length)) = true) : fewB ls os = false := by unfold fewB; rw [h]; simp
set_option maxHeartbeats 2000000 in
theorem few_any (x : Option Addr) (rs : List Rw) (c : Nat) (y : Option Addr) (os : List OpV) (cy : Nat) (w : World) (hs : Rws w x rs) (ho : Ops w y os) (hn : rs.length ≤ 9223372036854775807) (hm : os.length ≤ 9223372036854775807) : Calls Try.prog 9 #[.agg #[.slice x rs.length c], .slice y os.length cy] w fun e w' => e = .returned (.bool (fewB (rs.map (·.l)) os)) ∧ Below w.heap.size w w' := by
  have hB := Below.refl w.heap.size w
  go_enter Try.func9, Try.ntmps9
  go_wp2_with fail
  go_loopw [12] (fun u12 wr => ∃ j : Nat, j ≤ rs.length ∧ u12 = .int .i64 (j : Int) ∧ (∀ i, i < j → decide (100 < (rs.getD i rw0).l.length) = false) ∧ Below w.heap.size w wr ∧ wr.cell? ⟨w.heap.size, 0, none⟩ = some (.slice x rs.length c)) (fun u12 _ => rs.length - (intOf u12).toNat)
  case atStart => exact ⟨0, by omega, rfl, fun i hi => by omega, al hB _, by go_simp⟩
  case round =>
    clear hB
    obtain ⟨j, hj, rfl, hgood, hB, cB⟩ := hrel
    by_cases hlt : j < rs.length
    · have d1 : decide ((j : Int) < (rs.length : Int)) = true := by simp; omega
      obtain ⟨b0, o0, rfl, hcj, -⟩ := (hs.later hB).at j hlt
      have p0 : (-9223372036854775808 : Int) ≤ (j : Int) + 1 := by omega
      have p1 : (j : Int) + 1 ≤ 9223372036854775807 := by omega
      obtain ⟨rj, hrj⟩ : ∃ r, rs.getD j rw0 = r := ⟨_, rfl⟩
      have hcj' : wr.cell? ⟨b0, o0 + j, none⟩ = some (.slice rj.x rj.l.length rj.c) := by rw [hcj, hrj]; rfl
      have HRJ := Lib.hid hrj
      have HG := Lib.hid hgood
      clear hcj hrj hgood
      by_cases hq : 100 < rj.l.length
      · have q1 : decide (100 < rj.l.length) = true := decide_eq_true hq
        have q2 : decide ((100 : Int) < (rj.l.length : Int)) = true := decide_eq_true (by omega)
        have HF : Hid (fewB (rs.map (·.l)) os = false) := few_no1 _ _ (by rw [List.any_map]; exact any_of_bad (fun r : Rw => decide (100 < r.l.length)) rs j rw0 hlt (by rw [HRJ.out]; exact q1))
        clear hq
        go_wp2_with fail
        go_ret
        exact ⟨by rw [HF.out]; rfl, hB⟩
      · have q1 : decide (100 < rj.l.length) = false := decide_eq_false hq
        have q2 : decide ((100 : Int) < (rj.l.length : Int)) = false := decide_eq_false (by omega)
        clear hq
        go_wp2_with fail
        exact ⟨⟨j + 1, by omega, by go_num, fun i hi => by
          by_cases h : i = j
          · subst h; rw [HRJ.out]; exact q1
          · exact HG.out i (by omega), hB, cB⟩, by simp [intOf]; omega⟩
    · obtain rfl : j = rs.length := by omega
      have HN1 : Hid ((rs.map (·.l)).any (fun l => decide (100 < l.length)) = false) := by
        show _ = _
        rw [List.any_map]; exact any_none (fun r : Rw => decide (100 < r.l.length)) rs rw0 hgood
      have hz : w.heap.size < wr.heap.size := World.block_lt_of_cell? _ _ cB
      clear hgood
      go_wp2_with fail
      obtain ⟨wo, rfl⟩ : ∃ wo : World, wo = wr := ⟨_, rfl⟩
      go_loopw [22] (fun u22 wr => ∃ j : Nat, j ≤ os.length ∧ u22 = .int .i64 (j : Int) ∧ (∀ i, i < j → decide (100 < (os.getD i op0).d.length) = false) ∧ Below w.heap.size w wr ∧ wr.cell? ⟨w.heap.size, 0, none⟩ = some (.slice x rs.length c)) (fun u22 _ => os.length - (intOf u22).toNat)
      case atStart => exact ⟨0, by omega, rfl, fun i hi => by omega, hB, cB⟩
      case round =>
        clear hB cB hz
        obtain ⟨j, hj, rfl, hgood, hB, cB⟩ := hrel
        have hz : w.heap.size < wr.heap.size := World.block_lt_of_cell? _ _ cB
        by_cases hlt : j < os.length
        · have d1 : decide ((j : Int) < (os.length : Int)) = true := by simp; omega
          obtain ⟨b0, o0, rfl, k0, k1, k2, -⟩ := (ho.later hB).at j hlt
          have p0 : (-9223372036854775808 : Int) ≤ (j : Int) + 1 := by omega
          have p1 : (j : Int) + 1 ≤ 9223372036854775807 := by omega
          obtain ⟨oj, hoj⟩ : ∃ r, os.getD j op0 = r := ⟨_, rfl⟩
          rw [hoj] at k0 k1 k2
          have HOJ := Lib.hid hoj
          have HG := Lib.hid hgood
          have hB2 := hB
          clear hoj hgood
          by_cases hq : 100 < oj.d.length
          · have q1 : decide (100 < oj.d.length) = true := decide_eq_true hq
            have q2 : decide ((100 : Int) < (oj.d.length : Int)) = true := decide_eq_true (by omega)
            have HF : Hid (fewB (rs.map (·.l)) os = false) := few_no2 _ _ (any_of_bad (fun r : OpV => decide (100 < r.d.length)) os j op0 hlt (by rw [HOJ.out]; exact q1))
            clear hq
            go_wp2_with fail
            go_ret
            exact ⟨by rw [HF.out]; rfl, al hB _⟩
          · have q1 : decide (100 < oj.d.length) = false := decide_eq_false hq
            have q2 : decide ((100 : Int) < (oj.d.length : Int)) = false := decide_eq_false (by omega)
            clear hq
            go_wp2_with fail
            exact ⟨⟨j + 1, by omega, by go_num, fun i hi => by
              by_cases h : i = j
              · subst h; rw [HOJ.out]; exact q1
              · exact HG.out i (by omega), al hB _, later (al (Below.refl _ _) _) cB⟩, by simp [intOf]; omega⟩
        · obtain rfl : j = os.length := by omega
          have HF : Hid (fewB (rs.map (·.l)) os = (decide (rs.length ≤ 70) && decide (os.length ≤ 20))) := by
            show _ = _
            unfold fewB
            rw [HN1.out, any_none (fun r : OpV => decide (100 < r.d.length)) os op0 hgood, List.length_map]; rfl
          clear hgood
          by_cases h1 : rs.length ≤ 70
          · have a1 : decide (rs.length ≤ 70) = true := decide_eq_true h1
            have a2 : decide ((rs.length : Int) ≤ 70) = true := decide_eq_true (by omega)
            by_cases h2 : os.length ≤ 20
            · have b1 : decide (os.length ≤ 20) = true := decide_eq_true h2
              have b2 : decide ((os.length : Int) ≤ 20) = true := decide_eq_true (by omega)
              go_wp2_with fail
              go_ret
              exact ⟨by rw [HF.out, a1, b1]; rfl, hB⟩
            · have b1 : decide (os.length ≤ 20) = false := decide_eq_false h2
              have b2 : decide ((os.length : Int) ≤ 20) = false := decide_eq_false (by omega)
              go_wp2_with fail
              go_ret
              exact ⟨by rw [HF.out, a1, b1]; rfl, hB⟩
          · have a1 : decide (rs.length ≤ 70) = false := decide_eq_false h1
            have a2 : decide ((rs.length : Int) ≤ 70) = false := decide_eq_false (by omega)
            go_wp2_with fail
            go_ret
            exact ⟨by rw [HF.out, a1]; rfl, hB⟩

end Go.Proofs.Ytgibfagnfhgelaa
