/- WALKS of the laws of the block layer: Same. -/
import Derived.Test.YtgibfagnfhgelaaBlkI
import Derived.Test.YtgibfagnfhgelaaQuietC
namespace Go.Proofs.Ytgibfagnfhgelaa
open Go.RowKit

theorem same_yes_of (ls ms : List (List UInt8)) (hl : ls.length = ms.length) (h : ∀ i, i < ls.length → ls.getD i [] = ms.getD i []) : (ls == ms) = true := by
  rw [beq_iff_eq]
  apply List.ext_getElem hl
  intro i h1 h2
  have := h i h1
  rwa [List.getD_eq_getElem?_getD, List.getElem?_eq_getElem h1, List.getD_eq_getElem?_getD, List.getElem?_eq_getElem h2] at this
set_option maxHeartbeats 2000000 in
theorem same_any (x : Option Addr) (rs : List Rw) (c : Nat) (y : Option Addr) (rt : List Rw) (cy : Nat) (w : World) (hs : Rws w x rs) (ht : Rws w y rt) (hn : rs.length ≤ 1000) : Calls Try.prog 25 #[.agg #[.slice x rs.length c], .agg #[.slice y rt.length cy]] w fun e w' => e = .returned (.bool (rs.map (·.l) == rt.map (·.l))) ∧ Below w.heap.size w w' := by
  have hB := Below.refl w.heap.size w
  by_cases hl : rs.length = rt.length
  · have e1 : ((rs.length : Int) != (rt.length : Int)) = false := by rw [bne_eq_false_iff_eq]; omega
    have HL := Lib.hid hl
    clear hl
    go_enter Try.func25, Try.ntmps25
    go_wp2_with fail
    go_loopw [16] (fun u16 wr => ∃ j : Nat, j ≤ rs.length ∧ u16 = .int .i64 (j : Int) ∧ (∀ i, i < j → (rs.map (·.l)).getD i [] = (rt.map (·.l)).getD i []) ∧ Below w.heap.size w wr ∧ wr.cell? ⟨w.heap.size, 0, none⟩ = some (.slice x rs.length c) ∧ wr.cell? ⟨w.heap.size + 1, 0, none⟩ = some (.slice y rt.length cy)) (fun u16 _ => rs.length - (intOf u16).toNat)
    case atStart => exact ⟨0, by omega, rfl, fun i hi => by omega, al (al hB _) _, by go_simp, by go_simp⟩
    case round =>
      clear hB
      obtain ⟨j, hj, rfl, hgood, hB, cx, cyy⟩ := hrel
      by_cases hlt : j < rs.length
      · have d1 : decide ((j : Int) < (rs.length : Int)) = true := by simp; omega
        obtain ⟨b0, o0, rfl, hcj, hrj⟩ := (hs.later hB).at j hlt
        obtain ⟨b1, o1, rfl, htj, hqj⟩ := (ht.later hB).at j (by have := HL.out; omega)
        obtain ⟨rj, hrjv⟩ : ∃ r, rs.getD j rw0 = r := ⟨_, rfl⟩
        obtain ⟨tj, htjv⟩ : ∃ r, rt.getD j rw0 = r := ⟨_, rfl⟩
        rw [hrjv] at hcj hrj
        rw [htjv] at htj hqj
        have hcj' : wr.cell? ⟨b0, o0 + j, none⟩ = some (.slice rj.x rj.l.length rj.c) := hcj
        have htj' : wr.cell? ⟨b1, o1 + j, none⟩ = some (.slice tj.x tj.l.length tj.c) := htj
        have hbx := hrj.1
        have hby := hqj.1
        have jB : (j : Int) < (rs.length : Int) := by omega
        have jC : (j : Int) < (rt.length : Int) := by have := HL.out; omega
        have jC2 : j < rt.length := by omega
        have HR := Lib.hid hrjv
        have HT := Lib.hid htjv
        have HG := Lib.hid hgood
        clear hcj htj hrj hqj hrjv htjv hgood
        obtain ⟨q, hq⟩ : ∃ q, (rj.l == tj.l) = q := ⟨_, rfl⟩
        have hse := str_eq rj.l tj.l
        rw [hq] at hse
        have hse2 : ((⟨rj.l.toArray⟩ : ByteArray) != ⟨tj.l.toArray⟩) = !q := by show (!((⟨rj.l.toArray⟩ : ByteArray) == ⟨tj.l.toArray⟩)) = !q; rw [hse]
        have HQ := Lib.hid hq
        clear hq
        go_wp2_with fail
        refine wp_region_sched (fun W => W.cell? ⟨w.heap.size, 0, none⟩ = some (.slice (some ⟨b0, o0, none⟩) rs.length c) ∧ W.cell? ⟨w.heap.size + 1, 0, none⟩ = some (.slice (some ⟨b1, o1, none⟩) rt.length cy) ∧ W.cell? ⟨b0, o0 + j, none⟩ = some (.slice rj.x rj.l.length rj.c) ∧ W.cell? ⟨b1, o1 + j, none⟩ = some (.slice tj.x tj.l.length tj.c) ∧ Bts W rj.x rj.l ∧ Bts W tj.x tj.l ∧ Below w.heap.size w W) (.done [0, 1, 2, 3, 4, 5, 6, 7, 8, 9, 10, 11, 12]) (by kernel_rfl) (by kernel_rfl) (fun _ _ _ _ _ h => h) ⟨(by go_simp), (by go_simp), (by go_simp), (by go_simp), hbx, hby, hB.drew⟩ ?_
        clear cx cyy hcj' htj' hbx hby hB
        rintro W ⟨cx, cyy, hcj', htj', hbx, hby, hB⟩
        have hB2 := hB
        rw [wpSched]
        simp only [pick, List.map_cons, List.map_nil, Array.getD_eq_getD_getElem?, List.getElem?_toArray, List.getElem?_cons_succ, List.getElem?_cons_zero, Option.getD_some]
        have kcx := plusW_cell cx
        have kcyy := plusW_cell cyy
        have khcj' := plusW_cell hcj'
        have khtj' := plusW_cell htj'
        have qa := fun w' (hw' : OutOf W w') => run_conv (P := Try.prog) (src := 25) (e := 5) (dst := 9) Try.underlying25 Try.underlying5 Try.underlying9 (hbx.later hw'.below) rj.c
        have qb := fun w' (hw' : OutOf W w') => run_conv (P := Try.prog) (src := 25) (e := 5) (dst := 9) Try.underlying25 Try.underlying5 Try.underlying9 (hby.later hw'.below) tj.c
        repeat (first | (refine wpQuiet_conv rfl _ _ (.tmp 23) rfl rfl qa ?_; try simp only [Act.put, List.setIfInBounds_toArray, List.set_cons_zero, List.set_cons_succ]) | (refine wpQuiet_conv rfl _ _ (.tmp 29) rfl rfl qb ?_; try simp only [Act.put, List.setIfInBounds_toArray, List.set_cons_zero, List.set_cons_succ]) | go_big_quiet_step (fail) | quiet_step (fail))
        refine wpQuiet_nil ?_
        clear kcx kcyy khcj' khtj'

        clear qa qb hse hse2 HQ
        go_wp2_with fail
        all_goals rename_i hh
        · have h2 : rj.l ≠ tj.l := by simpa using hh
          have HF : Hid ((rs.map (·.l) == rt.map (·.l)) = false) := by
            show _ = _
            rw [beq_eq_false_iff_ne]
            intro h
            rw [← HR.out, ← HT.out, ← getD_map_l, ← getD_map_l] at h2
            exact h2 (by rw [h])
          go_ret
          exact ⟨by rw [HF.out]; rfl, hB2⟩
        · have h2 : rj.l = tj.l := by simpa using hh
          have HE : Hid ((rs.map (·.l)).getD j [] = (rt.map (·.l)).getD j []) := by
            show _ = _
            rw [getD_map_l, getD_map_l, HR.out, HT.out, h2]
          exact ⟨⟨j + 1, by omega, by go_num, fun i hi => by
            by_cases h : i = j
            · subst h; exact HE.out
            · exact HG.out i (by omega), hB2, cx, cyy⟩, by simp [intOf]; omega⟩
      · obtain rfl : j = rs.length := by omega
        have HF : Hid ((rs.map (·.l) == rt.map (·.l)) = true) := same_yes_of _ _ (by rw [List.length_map, List.length_map]; exact HL.out) (fun i hi => hgood i (by rwa [List.length_map] at hi))
        clear hgood
        go_wp2_with fail
        go_ret
        exact ⟨by rw [HF.out]; rfl, hB⟩
  · have e1 : ((rs.length : Int) != (rt.length : Int)) = true := by rw [bne_iff_ne]; omega
    have HF : Hid ((rs.map (·.l) == rt.map (·.l)) = false) := by
      show _ = _
      rw [beq_eq_false_iff_ne]
      intro h
      exact hl (by simpa using congrArg List.length h)
    clear hl
    go_enter Try.func25, Try.ntmps25
    go_wp2_with fail
    go_ret
    exact ⟨by rw [HF.out]; rfl, al (al hB _) _⟩

end Go.Proofs.Ytgibfagnfhgelaa
