/- WALKS of the block layer: Cut and Run. -/
import Derived.Test.YtgibfagnfhgelaaBlkK
import Derived.BigQuiet
namespace Go.Proofs.Ytgibfagnfhgelaa
open Go.RowKit

/-- Cut, at all arguments. -/
theorem cut_any (x : Option Addr) (rs0 : List Rw) (c : Nat) (y : Option Addr) (os : List OpV) (cy : Nat) (n k : Int) (w : World) (hs : Rws w x rs0) (hn0 : rs0.length ≤ 1000) (hl0 : ∀ r, r ∈ rs0 → r.l.length ≤ 100000) (ho : Ops w y os) (hyn : y = none → cy = 0) (hm : os.length ≤ 1000) (hcy : os.length ≤ cy ∧ cy ≤ 9223372036854775807) :
    Calls Try.prog 16 #[.agg #[.slice x rs0.length c], .slice y os.length cy, .int .i64 n, .int .i64 k] w (ErrOf (if cutOk (rs0.map (·.l)) os n k = true then cutL (rs0.map (·.l)) os n.toNat k.toNat else rs0.map (·.l)) (if cutOk (rs0.map (·.l)) os n k = true then 0 else 2) w) := by
  by_cases h : cutOk (rs0.map (·.l)) os n k = true
  · rw [if_pos h, if_pos h]
    unfold cutOk at h
    simp only [Bool.and_eq_true, decide_eq_true_eq] at h
    obtain ⟨hv, h1, h2, h3, h4⟩ := h
    obtain ⟨m, rfl⟩ : ∃ m : Nat, n = (m : Int) := ⟨n.toNat, by omega⟩
    obtain ⟨j, rfl⟩ : ∃ j : Nat, k = (j : Int) := ⟨k.toNat, by omega⟩
    rw [Int.toNat_natCast] at h4
    rw [Int.toNat_natCast, Int.toNat_natCast]
    exact cut_yes x rs0 c y os cy m j w hs ho hyn hm hcy hv (by omega) (by omega)
  · rw [if_neg h, if_neg h]
    exact cut_no x rs0 c y os cy n k w hs hn0 hl0 ho hm (by simpa using h)
theorem cutL_last (ls : List (List UInt8)) (os : List OpV) (m : Nat) (h : os.length = m + 1) : cutL ls os m (lenO (os.getD m op0).er) = runL ls os := by
  have := runL_take ls os m (by omega)
  rw [List.take_of_length_le (by omega)] at this
  rw [this]; rfl
theorem cutOk_last (ls : List (List UInt8)) (os : List OpV) (m : Nat) (h : os.length = m + 1) (hv : vldO ls os = true) : cutOk ls os (m : Int) (lenO (os.getD m op0).er : Int) = true := by
  unfold cutOk
  rw [hv, Int.toNat_natCast, decide_eq_true (show (0 : Int) ≤ (m : Int) by omega), decide_eq_true (show (m : Int) < (os.length : Int) by omega), decide_eq_true (show (0 : Int) ≤ (lenO (os.getD m op0).er : Int) by omega), decide_eq_true (show (lenO (os.getD m op0).er : Int) ≤ (lenO (os.getD m op0).er : Int) by omega)]
  rfl
set_option maxRecDepth 20000 in
set_option maxHeartbeats 4000000 in
theorem run_any (x : Option Addr) (rs0 : List Rw) (c : Nat) (y : Option Addr) (os : List OpV) (cy : Nat) (w : World) (hs : Rws w x rs0) (hn0 : rs0.length ≤ 1000) (hl0 : ∀ r, r ∈ rs0 → r.l.length ≤ 100000) (ho : Ops w y os) (hyn : y = none → cy = 0) (hm : os.length ≤ 1000) (hcy : os.length ≤ cy ∧ cy ≤ 9223372036854775807) :
    Calls Try.prog 15 #[.agg #[.slice x rs0.length c], .slice y os.length cy] w (ErrOf (if vldO (rs0.map (·.l)) os = true then runL (rs0.map (·.l)) os else rs0.map (·.l)) (if vldO (rs0.map (·.l)) os = true then 0 else 2) w) := by
  have hB := Below.refl w.heap.size w
  by_cases hv : vldO (rs0.map (·.l)) os = true
  · rw [if_pos hv, if_pos hv]
    have HV : Hid (vldO (rs0.map (·.l)) os = true) := hv
    clear hv
    by_cases hz0 : os.length = 0
    · have d0 : ((os.length : Int) == 0) = true := by rw [beq_iff_eq]; omega
      have d0n : (os.length == 0) = true := by rw [beq_iff_eq]; exact hz0
      have HRL : Hid (runL (rs0.map (·.l)) os = rs0.map (·.l)) := by
        show _ = _
        rw [List.eq_nil_of_length_eq_zero hz0]; rfl
      rw [HRL.out]
      clear hz0
      go_enter Try.func15, Try.ntmps15
      go_wp2_with fail
      refine (validops_any x rs0 c y os cy _ (hs.later (al (al hB _) _)) hn0 (ho.later (al (al hB _) _)) (by omega)).mono ?_
      rintro e w1 ⟨rfl, hb⟩
      rw [HV.out]
      have hB1 := thru (al (al hB _) _) hb
      have g0 := later (a := ⟨w.heap.size, 0, none⟩) (v := .slice x rs0.length c) hb (by go_simp)
      have g1 := later (a := ⟨w.heap.size + 1, 0, none⟩) (v := .slice none 0 0) hb (by go_simp)
      have f1 := (Below.frozen hb (p := ⟨w.heap.size + 1, 0, none⟩) (by simp)).trans (show _ = false by go_simp)
      have hz1 : w.heap.size + 1 < w1.heap.size := by have := hb.size; simp at this; omega
      clear hb
      go_wp2_with fail
      refine (own_any x rs0 c _ (hs.later hB1) hn0 hl0).mono ?_
      rintro e w2 ⟨xo, co, rs1, rfl, hos, hml, hb⟩
      have HOS := Lib.hid hos
      have HML := Lib.hid hml
      have hB2 := thru hB1 hb
      replace g1 := later hb g1
      replace f1 := (Below.frozen hb (p := ⟨w.heap.size + 1, 0, none⟩) (by simp <;> omega)).trans f1
      have hz2 : w.heap.size + 1 < w2.heap.size := World.block_lt_of_cell? _ _ g1
      clear hb hos hml g0
      go_wp2_with fail
      have ts : Turns (fun b => b = w.heap.size + 1) w2 (w2.setCell ⟨w.heap.size + 1, 0, none⟩ (.slice xo rs1.length co)) := (Turns.refl (fun b => b = w.heap.size + 1) w2).setCell (p := ⟨w.heap.size + 1, 0, none⟩) (fun _ => rfl) _
      have er : (w2.setCell ⟨w.heap.size + 1, 0, none⟩ (.slice xo rs1.length co)).cell? ⟨w.heap.size + 1, 0, none⟩ = some (.slice xo rs1.length co) := World.cell?_setCell_same' _ _ _ (by rw [g1]; rfl)
      refine bodyPost_ret (v := .tuple #[.agg #[.slice xo rs1.length co], .int .i64 0]) (by simp [results, Try.results15, go_sem, er]) rfl ⟨xo, co, rs1, rfl, ?_, HML.out, hB2.setCell (p := ⟨w.heap.size + 1, 0, none⟩) (by simp <;> omega) _⟩
      exact (HOS.out.turnB ts (fun b hb _ e => by omega)).weaken (by omega)
    · obtain ⟨m, hmm⟩ : ∃ m, os.length = m + 1 := ⟨os.length - 1, by omega⟩
      have hm1 : (os.length : Int) - 1 = (m : Int) := by omega
      have d0 : ((os.length : Int) == 0) = false := by rw [beq_eq_false_iff_ne]; omega
      have d0n : (os.length == 0) = false := by rw [beq_eq_false_iff_ne]; omega
      have mB1 : (m : Int) < (os.length : Int) := by omega
      have mB2 : m < os.length := by omega
      have HMM := Lib.hid hmm
      have HCL := Lib.hid (cutL_last (rs0.map (·.l)) os m hmm)
      have HCO := Lib.hid (cutOk_last (rs0.map (·.l)) os m hmm HV.out)
      obtain ⟨b0, o0, rfl, c0, c1, c2, -⟩ := ho.at m mB2
      have hb0 : b0 < w.heap.size := World.block_lt_of_cell? _ _ c0
      obtain ⟨on, hon⟩ : ∃ o, os.getD m op0 = o := ⟨_, rfl⟩
      rw [hon] at c0 c1 c2 HCL HCO
      clear hmm hon hz0
      go_enter Try.func15, Try.ntmps15
      go_wp2_with fail
      refine (validops_any x rs0 c (some ⟨b0, o0, none⟩) os cy _ (hs.later (al (al hB _) _)) hn0 (ho.later (al (al hB _) _)) (by omega)).mono ?_
      rintro e w1 ⟨rfl, hb⟩
      rw [HV.out]
      have hB1 := thru (al (al hB _) _) hb
      have g0 := later (a := ⟨w.heap.size, 0, none⟩) (v := .slice x rs0.length c) hb (by go_simp)
      have g1 := later (a := ⟨w.heap.size + 1, 0, none⟩) (v := .slice none 0 0) hb (by go_simp)
      have f1 := (Below.frozen hb (p := ⟨w.heap.size + 1, 0, none⟩) (by simp)).trans (show _ = false by go_simp)
      have hz1 : w.heap.size + 1 < w1.heap.size := by have := hb.size; simp at this; omega
      clear hb
      replace c0 := later hB1 c0
      replace c1 := later hB1 c1
      replace c2 := later hB1 c2
      have hos1 := ho.later hB1
      have hss1 := hs.later hB1
      go_wp2_with fail
      refine wp_region_schedB (B := w.heap.size + 1) (fun X => X.cell? ⟨w.heap.size, 0, none⟩ = some (.slice x rs0.length c) ∧ X.cell? ⟨w.heap.size + 1, 0, none⟩ = some (.slice none 0 0) ∧ X.frozen? ⟨w.heap.size + 1, 0, none⟩ = false ∧ Turns (fun _ => False) w1 X) (.one [0, 1, 2, 3, 4, 5, 6] 7 (.one [] 8 (.one [9, 10] 11 (.done [12])))) (by kernel_rfl) (by kernel_rfl) (fun _ _ _ _ _ h => h) ⟨g0, g1, f1, (Turns.refl _ _).drew⟩ ?_
      clear g0 g1 f1
      rintro X ⟨g0, g1, f1, tX⟩
      have hBX : Below w.heap.size w X := hB1.trans (tX.below hB1.size (fun _ _ h => h))
      have hzX := tX.size
      have c0 := tX.cell (fun e => e) c0
      have c1 := tX.cell (fun e => e) c1
      have c2 := tX.cell (fun e => e) c2
      rw [wpSchedB]
      simp only [pick, List.map_cons, List.map_nil, Array.getD_eq_getD_getElem?, List.getElem?_toArray, List.getElem?_cons_succ, List.getElem?_cons_zero, Option.getD_some]
      have kg := plusB_cell (B := w.heap.size + 1) g0 (by simp)
      have k0 := plusB_cell (B := w.heap.size + 1) c0 (by simp; omega)
      have k1 := plusB_cell (B := w.heap.size + 1) c1 (by simp; omega)
      have k2 := plusB_cell (B := w.heap.size + 1) c2 (by simp; omega)
      repeat (first | go_big_quiet_step (fail) | quiet_step (fail))
      refine wpQuiet_nil ?_
      clear kg k0 k1 k2 g0 c0 c1 c2
      refine heavyB_want (by rfl) (fun K' hK' => ?_)
      go_simp
      refine (len_any on _).mono ?_
      rintro e X1 ⟨rfl, hb⟩
      refine hK' _ _ (hb.mono (by omega)) ?_
      clear hK' K'
      have t1 : Turns (fun _ => False) w1 X1 := tX.trans (Turns.of_below hb (Nat.le_refl _))
      replace g1 := later hb g1
      replace f1 := (Below.frozen hb (p := ⟨w.heap.size + 1, 0, none⟩) (by simp <;> omega)).trans f1
      have hs1 := hb.size
      clear hb
      try simp only [Act.put, List.setIfInBounds_toArray, List.set_cons_zero, List.set_cons_succ]
      rw [wpSchedB]
      simp only [pick, List.map_nil, Array.getD_eq_getD_getElem?, List.getElem?_toArray, List.getElem?_cons_succ, List.getElem?_cons_zero, Option.getD_some]
      refine wpQuiet_nil ?_
      refine heavyB_want (by rfl) (fun K' hK' => ?_)
      go_simp
      have hB3 : Below w.heap.size w X1 := hB1.trans (t1.below hB1.size (fun _ _ h => h))
      refine (cut_any x rs0 c (some ⟨b0, o0, none⟩) os cy (m : Int) (lenO on.er : Int) X1 (hs.later hB3) hn0 hl0 (ho.later hB3) hyn hm hcy).mono ?_
      rw [HCO.out, if_pos rfl, if_pos rfl, Int.toNat_natCast, Int.toNat_natCast, HCL.out]
      rintro e X2 ⟨xo, co, rs1, rfl, hos, hml, hb⟩
      refine hK' _ _ (hb.mono (by omega)) ?_
      clear hK' K'
      have HOS := Lib.hid hos
      have HML := Lib.hid hml
      have hB4 := thru hB3 hb
      replace g1 := later hb g1
      replace f1 := (Below.frozen hb (p := ⟨w.heap.size + 1, 0, none⟩) (by simp <;> omega)).trans f1
      have hs2 := hb.size
      clear hb hos hml
      try simp only [Act.put, List.setIfInBounds_toArray, List.set_cons_zero, List.set_cons_succ]
      rw [wpSchedB]
      simp only [pick, List.map_cons, List.map_nil, Array.getD_eq_getD_getElem?, List.getElem?_toArray, List.getElem?_cons_succ, List.getElem?_cons_zero, Option.getD_some]
      repeat (first | go_big_quiet_step (fail) | quiet_step (fail))
      refine wpQuiet_nil ?_
      refine heavyB_want (by rfl) (fun K' hK' => ?_)
      go_simp
      refine hK' _ _ ((Below.refl _ _).setCell (p := ⟨w.heap.size + 1, 0, none⟩) (Nat.le_refl _) _) ?_
      clear hK' K'
      have ts : Turns (fun b => b = w.heap.size + 1) X2 (X2.setCell ⟨w.heap.size + 1, 0, none⟩ (.slice xo rs1.length co)) := (Turns.refl (fun b => b = w.heap.size + 1) X2).setCell (p := ⟨w.heap.size + 1, 0, none⟩) (fun _ => rfl) _
      have er : (X2.setCell ⟨w.heap.size + 1, 0, none⟩ (.slice xo rs1.length co)).cell? ⟨w.heap.size + 1, 0, none⟩ = some (.slice xo rs1.length co) := World.cell?_setCell_same' _ _ _ (by rw [g1]; rfl)
      try simp only [Act.put, List.setIfInBounds_toArray, List.set_cons_zero, List.set_cons_succ]
      rw [wpSchedB]
      simp only [pick, List.map_cons, List.map_nil, Array.getD_eq_getD_getElem?, List.getElem?_toArray, List.getElem?_cons_succ, List.getElem?_cons_zero, Option.getD_some]
      repeat (first | go_big_quiet_step (fail) | quiet_step (fail))
      refine wpQuiet_nil ?_
      go_wp2_with fail
      refine bodyPost_ret (v := .tuple #[.agg #[.slice xo rs1.length co], .int .i64 0]) (by simp [results, Try.results15, go_sem, er]) rfl ⟨xo, co, rs1, rfl, ?_, HML.out, hB4.setCell (p := ⟨w.heap.size + 1, 0, none⟩) (by simp <;> omega) _⟩
      exact (HOS.out.turnB ts (fun b hb _ e => by omega)).weaken (by omega)
  · rw [if_neg hv, if_neg hv]
    have HV : Hid (vldO (rs0.map (·.l)) os = false) := by show _ = _; simpa using hv
    clear hv
    go_enter Try.func15, Try.ntmps15
    go_wp2_with fail
    refine (validops_any x rs0 c y os cy _ (hs.later (al (al hB _) _)) hn0 (ho.later (al (al hB _) _)) (by omega)).mono ?_
    rintro e w1 ⟨rfl, hb⟩
    rw [HV.out]
    have hB1 := thru (al (al hB _) _) hb
    have g0 := later (a := ⟨w.heap.size, 0, none⟩) (v := .slice x rs0.length c) hb (by go_simp)
    have g1 := later (a := ⟨w.heap.size + 1, 0, none⟩) (v := .slice none 0 0) hb (by go_simp)
    have f1 := (Below.frozen hb (p := ⟨w.heap.size + 1, 0, none⟩) (by simp)).trans (show _ = false by go_simp)
    have hz1 : w.heap.size + 1 < w1.heap.size := by have := hb.size; simp at this; omega
    clear hb
    go_wp2_with fail
    refine (own_any x rs0 c _ (hs.later hB1) hn0 hl0).mono ?_
    rintro e w2 ⟨xo, co, rs1, rfl, hos, hml, hb⟩
    have HOS := Lib.hid hos
    have HML := Lib.hid hml
    have hB2 := thru hB1 hb
    replace g1 := later hb g1
    replace f1 := (Below.frozen hb (p := ⟨w.heap.size + 1, 0, none⟩) (by simp <;> omega)).trans f1
    have hz2 : w.heap.size + 1 < w2.heap.size := World.block_lt_of_cell? _ _ g1
    clear hb hos hml g0
    go_wp2_with fail
    have ts : Turns (fun b => b = w.heap.size + 1) w2 (w2.setCell ⟨w.heap.size + 1, 0, none⟩ (.slice xo rs1.length co)) := (Turns.refl (fun b => b = w.heap.size + 1) w2).setCell (p := ⟨w.heap.size + 1, 0, none⟩) (fun _ => rfl) _
    have er : (w2.setCell ⟨w.heap.size + 1, 0, none⟩ (.slice xo rs1.length co)).cell? ⟨w.heap.size + 1, 0, none⟩ = some (.slice xo rs1.length co) := World.cell?_setCell_same' _ _ _ (by rw [g1]; rfl)
    refine bodyPost_ret (v := .tuple #[.agg #[.slice xo rs1.length co], .int .i64 2]) (by simp [results, Try.results15, go_sem, er]) rfl ⟨xo, co, rs1, rfl, ?_, HML.out, hB2.setCell (p := ⟨w.heap.size + 1, 0, none⟩) (by simp <;> omega) _⟩
    exact (HOS.out.turnB ts (fun b hb _ e => by omega)).weaken (by omega)

end Go.Proofs.Ytgibfagnfhgelaa
