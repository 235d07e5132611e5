/- LAW BlockRepairs. -/
import Derived.Test.YtgibfagnfhgelaaPureRn
import Derived.Test.YtgibfagnfhgelaaBlkN
import Derived.Test.YtgibfagnfhgelaaBlkO
import Derived.Test.YtgibfagnfhgelaaBlkQ
import Derived.Test.YtgibfagnfhgelaaRegionB
namespace Go.Proofs.Ytgibfagnfhgelaa
open Go.RowKit

theorem Rws.later_t {w w' : World} {x : Option Addr} {rs : List Rw} (h : Rws w x rs) (ht : Turns (fun _ => False) w w') : Rws w' x rs := h.later (ht.below (Nat.le_refl _) (fun _ _ h => h))
set_option maxRecDepth 20000 in
set_option maxHeartbeats 4000000 in
theorem repairs_law (x : Option Addr) (rs : List Rw) (c : Nat) (y : Option Addr) (os : List OpV) (cy : Nat) (n k : Int) (w : World) (hs : Rws w x rs) (hrn : rs.length ≤ 9223372036854775807) (ho : Ops w y os) (hyn : y = none → cy = 0) (hcy : os.length ≤ cy ∧ cy ≤ 9223372036854775807) :
    Calls Try.prog 7 #[.agg #[.slice x rs.length c], .slice y os.length cy, .int .i64 n, .int .i64 k] w (YesOf w) := by
  have hB := Below.refl w.heap.size w
  by_cases hf : fewB (rs.map (·.l)) os = false
  · have HF : Hid (fewB (rs.map (·.l)) os = false) := hf
    clear hf
    go_enter Try.func7, Try.ntmps7
    go_wp2_with fail
    refine (few_any x rs c y os cy _ (hs.later (al hB _)) (ho.later (al hB _)) hrn (by omega)).mono ?_
    rintro e w1 ⟨rfl, hb⟩
    rw [HF.out]
    have g0 := later (a := ⟨w.heap.size, 0, none⟩) (v := .slice x rs.length c) hb (by go_simp)
    have hB1 := thru (al hB _) hb
    clear hb
    go_wp2_with fail
    refine (awake_any _).mono ?_
    rintro e w' ⟨rfl, hb⟩
    go_wp2_with fail
    go_ret
    exact ⟨rfl, thru hB1 hb⟩
  · have hf1 : fewB (rs.map (·.l)) os = true := by simpa using hf
    have HF : Hid (fewB (rs.map (·.l)) os = true) := hf1
    obtain ⟨hl1, -, hr70, ho20⟩ := (fewB_iff _ _).1 hf1
    rw [List.length_map] at hr70
    have hl0 : ∀ r, r ∈ rs → r.l.length ≤ 100000 := fun r hr => by have := hl1 r.l (List.mem_map_of_mem hr); omega
    clear hf hf1 hl1
    by_cases hc : cutOk (rs.map (·.l)) os n k = true
    · obtain ⟨hv, hn0, hn1, hk0, -⟩ := (cutOk_iff _ _ _ _).1 hc
      obtain ⟨n, rfl⟩ : ∃ m : Nat, n = (m : Int) := ⟨n.toNat, by omega⟩
      obtain ⟨k, rfl⟩ : ∃ m : Nat, k = (m : Int) := ⟨k.toNat, by omega⟩
      have hno : n < os.length := by omega
      have hrep := repair (rs.map (·.l)) os n k hv hno
      have hvs := ((vldO_iff _ _).1 hv).1
      have hvc := vldS_cutL (rs.map (·.l)) os n k hvs
      have hvd : vldO (cutL (rs.map (·.l)) os n k) (os.drop n) = true := vldO_sub hv hvc (cutL_len _ _ _ _) (fun o h => List.mem_of_mem_drop h)
      obtain ⟨b0, o0, rfl, -⟩ := ho.at n hno
      have p0 : (0 : Int) ≤ (n : Int) := by omega
      have p1 : (n : Int) ≤ (os.length : Int) := by omega
      have p2 : ¬ cy = n := by omega
      have p3 : n ≤ os.length := by omega
      have hc54 : ∀ l, l ∈ cutL (rs.map (·.l)) os n k → l.length = 54 := ((vldS_iff _).1 hvc).2
      have hclen : (cutL (rs.map (·.l)) os n k).length = rs.length := by rw [cutL_len, List.length_map]
      obtain ⟨cl, hcl⟩ : ∃ l, cutL (rs.map (·.l)) os n k = l := ⟨_, rfl⟩
      have hCT : ∀ W, Rws W x rs → Ops W (some ⟨b0, o0, none⟩) os → Calls Try.prog 16 #[.agg #[.slice x rs.length c], .slice (some ⟨b0, o0, none⟩) os.length cy, .int .i64 (n : Int), .int .i64 (k : Int)] W (ErrOf cl 0 W) := fun W h1 h2 => by
        have := cut_any x rs c (some ⟨b0, o0, none⟩) os cy (n : Int) (k : Int) W h1 (by omega) hl0 h2 hyn (by omega) hcy
        rwa [hc, if_pos rfl, if_pos rfl, Int.toNat_natCast, Int.toNat_natCast, hcl] at this
      have HC := Lib.hid hCT
      rw [hcl] at hrep hvd hc54 hclen
      obtain ⟨fl, hfl⟩ : ∃ l, runL (rs.map (·.l)) os = l := ⟨_, rfl⟩
      rw [hfl] at hrep
      have hR2 : ∀ W, Rws W x rs → Ops W (some ⟨b0, o0, none⟩) os → Calls Try.prog 15 #[.agg #[.slice x rs.length c], .slice (some ⟨b0, o0, none⟩) os.length cy] W (ErrOf fl 0 W) := fun W h1 h2 => by
        have := run_any x rs c (some ⟨b0, o0, none⟩) os cy W h1 (by omega) hl0 h2 hyn (by omega) hcy
        rwa [hv, if_pos rfl, if_pos rfl, hfl] at this
      have HR2 := Lib.hid hR2
      have HVD := Lib.hid hvd
      have HREP := Lib.hid hrep
      have HC54 := Lib.hid hc54
      have HCL := Lib.hid hclen
      clear hCT hc hv hvs hvc hvd hrep hR2 hcl hfl hc54 hclen hn0 hn1 hk0
      go_enter Try.func7, Try.ntmps7
      go_wp2_with fail
      refine (few_any x rs c (some ⟨b0, o0, none⟩) os cy _ (hs.later (al hB _)) (ho.later (al hB _)) hrn (by omega)).mono ?_
      rintro e w1 ⟨rfl, hb⟩
      rw [HF.out]
      have g0 := later (a := ⟨w.heap.size, 0, none⟩) (v := .slice x rs.length c) hb (by go_simp)
      have hB1 := thru (al hB _) hb
      clear hb
      go_wp2_with fail
      refine (HC.out _ (hs.later hB1) (ho.later hB1)).mono ?_
      rintro e w2 ⟨xt, ct, rt, rfl, hot, hmt, hb⟩
      have hB2 := thru hB1 hb
      have hrt := hot.rws
      replace g0 := later hb g0
      clear hb hot
      have hlt : rt.length = rs.length := by have := congrArg List.length hmt; rw [List.length_map] at this; rw [this]; exact HCL.out
      have hR1 : ∀ W, Rws W xt rt → Ops W (some ⟨b0, o0, none⟩) os → Calls Try.prog 15 #[.agg #[.slice xt rt.length ct], .slice (some ⟨b0, o0 + n * 3, none⟩) (os.length - n) (cy - n)] W (ErrOf fl 0 W) := fun W h1 h2 => by
        have := run_any xt rt ct (some ⟨b0, o0 + n * 3, none⟩) (os.drop n) (cy - n) W h1 (by omega) (fun r hr => by have := HC54.out r.l (by rw [← hmt]; exact List.mem_map_of_mem hr); omega) (h2.drop n) (fun h => by cases h) (by rw [List.length_drop]; omega) (by rw [List.length_drop]; omega)
        rwa [List.length_drop, hmt, HVD.out, if_pos rfl, if_pos rfl, HREP.out] at this
      have HR1 := Lib.hid hR1
      have HMT := Lib.hid hmt
      have HLT := Lib.hid hlt
      clear hR1 hmt hlt
      have HFL : Hid (fl.length ≤ 1000) := by show _ ≤ _; rw [← HREP.out, runL_len, HCL.out]; omega
      go_wp2_with fail
      have v9 : (w2.alloc (.cells #[.slice xt rt.length ct] 24)).cell? ⟨w2.heap.size, 0, none⟩ = some (.slice xt rt.length ct) := cell_new w2 _ _ _ 0
      have v0 : (w2.alloc (.cells #[.slice xt rt.length ct] 24)).cell? ⟨w.heap.size, 0, none⟩ = some (.slice x rs.length c) := later (al (Below.refl _ _) _) g0
      have hBV := al hB2 (.cells #[.slice xt rt.length ct] 24)
      have hrV := hrt.later (al (Below.refl _ w2) (.cells #[.slice xt rt.length ct] 24))
      obtain ⟨b9, hb9⟩ : ∃ b, w2.heap.size = b := ⟨_, rfl⟩
      obtain ⟨V, hV⟩ : ∃ V, w2.alloc (.cells #[.slice xt rt.length ct] 24) = V := ⟨_, rfl⟩
      rw [hV] at v9 v0 hBV hrV ⊢
      rw [hb9] at v9 ⊢
      clear hV hb9 hrt g0 hB2 hB1
      have hzV0 : w.heap.size < V.heap.size := World.block_lt_of_cell? _ _ v0
      have hzV9 : b9 < V.heap.size := World.block_lt_of_cell? _ _ v9
      refine wp_region_schedB (B := V.heap.size) (fun X => X.cell? ⟨b9, 0, none⟩ = some (.slice xt rt.length ct) ∧ Turns (fun _ => False) V X) (.two [0, 1, 2, 3] 4 (.one [5, 6, 7] 8 (.one [] 9 (.done [10]))) 8 (.one [] 4 (.one [5, 6, 7] 9 (.done [10])))) (by kernel_rfl) (by kernel_rfl) (fun _ _ _ _ _ h => h) ⟨v9, (Turns.refl _ _).drew⟩ ?_
      rintro X ⟨x9, tX⟩
      have hBX : Below w.heap.size w X := hBV.trans (tX.below hBV.size (fun _ _ h => h))
      rw [wpSchedB]
      simp only [pick, List.map_cons, List.map_nil, Array.getD_eq_getD_getElem?, List.getElem?_toArray, List.getElem?_cons_succ, List.getElem?_cons_zero, Option.getD_some]
      have k9 := plusB_cell (B := V.heap.size) x9 hzV9
      repeat (first | go_big_quiet_step (fail) | quiet_step (fail))
      refine wpQuiet_nil ?_
      clear k9 x9
      refine ⟨?_, ?_⟩
      · refine heavyB_want (by rfl) (fun K' hK' => ?_)
        go_simp
        refine (HR1.out X (hrV.later_t tX) (ho.later hBX)).mono ?_
        rintro e X1 ⟨xx, cx, rx, rfl, hox, hmx, hb⟩
        refine hK' _ _ (hb.mono (by have := tX.size; omega)) ?_
        clear hK' K'
        have t1 : Turns (fun _ => False) V X1 := tX.trans (Turns.of_below hb (Nat.le_refl _))
        have hrx0 := hox.rws
        have HMX := Lib.hid hmx
        clear hb hox hmx
        try simp only [Act.put, List.setIfInBounds_toArray, List.set_cons_zero, List.set_cons_succ]
        rw [wpSchedB]
        simp only [pick, List.map_cons, List.map_nil, Array.getD_eq_getD_getElem?, List.getElem?_toArray, List.getElem?_cons_succ, List.getElem?_cons_zero, Option.getD_some]
        repeat (first | go_big_quiet_step (fail) | quiet_step (fail))
        refine wpQuiet_nil ?_
        refine heavyB_want (by rfl) (fun K' hK' => ?_)
        go_simp
        refine hK' _ _ ((Below.refl _ _).alloc (by have := t1.size; omega) _) ?_
        clear hK' K'
        try simp only [Act.put, List.setIfInBounds_toArray, List.set_cons_zero, List.set_cons_succ]
        rw [wpSchedB]
        simp only [pick, List.map_nil, Array.getD_eq_getD_getElem?, List.getElem?_toArray, List.getElem?_cons_succ, List.getElem?_cons_zero, Option.getD_some]
        refine wpQuiet_nil ?_
        obtain ⟨X2, hX2⟩ : ∃ Y, X1.alloc (.cells #[.slice none 0 0] 24) = Y := ⟨_, rfl⟩
        have n11 : X2.cell? ⟨X1.heap.size, 0, none⟩ = some (.slice none 0 0) := by rw [← hX2]; exact cell_new X1 _ _ _ 0
        have m11 : X2.frozen? ⟨X1.heap.size, 0, none⟩ = false := by rw [← hX2]; exact frozen_new X1 _ _ 0
        have t0 : Turns (fun _ => False) X1 X2 := by rw [← hX2]; exact (Turns.refl _ _).alloc _
        rw [hX2]
        clear hX2
        refine heavyB_want (by rfl) (fun K' hK' => ?_)
        go_simp
        refine hK' _ _ ((Below.refl _ _).setCell (p := ⟨X1.heap.size, 0, none⟩) (by have := t1.size; simp; omega) _) ?_
        clear hK' K'
        try simp only [Act.put, List.setIfInBounds_toArray, List.set_cons_zero, List.set_cons_succ]
        rw [wpSchedB]
        simp only [pick, List.map_cons, List.map_nil, Array.getD_eq_getD_getElem?, List.getElem?_toArray, List.getElem?_cons_succ, List.getElem?_cons_zero, Option.getD_some]
        repeat (first | go_big_quiet_step (fail) | quiet_step (fail))
        refine wpQuiet_nil ?_
        obtain ⟨Y, hY⟩ : ∃ Y, X2.setCell ⟨X1.heap.size, 0, none⟩ (.slice xx rx.length cx) = Y := ⟨_, rfl⟩
        have y11 : Y.cell? ⟨X1.heap.size, 0, none⟩ = some (.slice xx rx.length cx) := by rw [← hY]; exact World.cell?_setCell_same' _ _ _ (by rw [n11]; rfl)
        have tXY : Turns (fun _ => False) X1 Y := by rw [← hY]; exact Turns.setCell (p := ⟨X1.heap.size, 0, none⟩) t0 (fun h => absurd h (by simp)) _
        have HRX := Lib.hid (hrx0.later_t tXY)
        have tVY := t1.trans tXY
        rw [hY]
        clear hY tXY t1 hrx0 n11 m11 t0
        obtain ⟨b11, hb11⟩ : ∃ b, X1.heap.size = b := ⟨_, rfl⟩
        rw [hb11] at y11 ⊢
        clear hb11
        have hBY : Below w.heap.size w Y := (hBV.trans (tVY.below hBV.size (fun _ _ h => h)))
        have hrxY := HRX.out
        have g0Y := tVY.cell (fun e => e) v0
        go_wp2_with fail
        refine (HR2.out _ (hs.later hBY) (ho.later hBY)).mono ?_
        rintro e Z ⟨xy, cyy, ry, rfl, hoy, hmy, hb⟩
        have hBZ := thru hBY hb
        have hry := hoy.rws
        have hrxZ := hrxY.later hb
        replace y11 := later hb y11
        have hz11 : b11 < Z.heap.size := World.block_lt_of_cell? _ _ y11
        have HMY := Lib.hid hmy
        have hly : rx.length ≤ 1000 := by have h1 := congrArg List.length HMX.out; rw [List.length_map] at h1; rw [h1]; exact HFL.out
        clear hb hoy hmy g0Y
        go_wp2_with fail
        refine (same_any xx rx cx xy ry cyy _ (hrxZ.later (al (Below.refl _ _) _)) (hry.later (al (Below.refl _ _) _)) hly).mono ?_
        rintro e Z2 ⟨rfl, hb⟩
        have hBZ2 := thru (al hBZ _) hb
        rw [HMX.out, HMY.out, beq_self_eq_true]
        clear hb
        go_wp2_with fail
        refine (awake_any _).mono ?_
        rintro e w' ⟨rfl, hb⟩
        go_wp2_with fail
        go_ret
        exact ⟨rfl, thru hBZ2 hb⟩
      · refine heavyB_want (by rfl) (fun K' hK' => ?_)
        go_simp
        refine hK' _ _ ((Below.refl _ _).alloc (by have := tX.size; omega) _) ?_
        clear hK' K'
        try simp only [Act.put, List.setIfInBounds_toArray, List.set_cons_zero, List.set_cons_succ]
        rw [wpSchedB]
        simp only [pick, List.map_nil, Array.getD_eq_getD_getElem?, List.getElem?_toArray, List.getElem?_cons_succ, List.getElem?_cons_zero, Option.getD_some]
        refine wpQuiet_nil ?_
        obtain ⟨X0, hX0⟩ : ∃ Y, X.alloc (.cells #[.slice none 0 0] 24) = Y := ⟨_, rfl⟩
        have n11 : X0.cell? ⟨X.heap.size, 0, none⟩ = some (.slice none 0 0) := by rw [← hX0]; exact cell_new X _ _ _ 0
        have m11 : X0.frozen? ⟨X.heap.size, 0, none⟩ = false := by rw [← hX0]; exact frozen_new X _ _ 0
        have t0 : Turns (fun _ => False) V X0 := by rw [← hX0]; exact tX.alloc _
        rw [hX0]
        clear hX0
        refine heavyB_want (by rfl) (fun K' hK' => ?_)
        go_simp
        refine (HR1.out X0 (hrV.later_t t0) (ho.later (hBV.trans (t0.below hBV.size (fun _ _ h => h))))).mono ?_
        rintro e X1 ⟨xx, cx, rx, rfl, hox, hmx, hb⟩
        refine hK' _ _ (hb.mono (by have := t0.size; omega)) ?_
        clear hK' K'
        have t1 : Turns (fun _ => False) V X1 := t0.trans (Turns.of_below hb (Nat.le_refl _))
        have hrx0 := hox.rws
        have hxlow : ∀ b, RowOf xx b → X0.heap.size ≤ b := fun b h => (hox.row.low b h).1
        have HOX := Lib.hid hox
        have HMX := Lib.hid hmx
        replace m11 := (Below.frozen hb (p := ⟨X.heap.size, 0, none⟩) (World.block_lt_of_cell? _ _ n11)).trans m11
        have hx0 : X.heap.size < X0.heap.size := World.block_lt_of_cell? _ _ n11
        replace n11 := later hb n11
        clear hb hox hmx hrx0
        try simp only [Act.put, List.setIfInBounds_toArray, List.set_cons_zero, List.set_cons_succ]
        rw [wpSchedB]
        simp only [pick, List.map_cons, List.map_nil, Array.getD_eq_getD_getElem?, List.getElem?_toArray, List.getElem?_cons_succ, List.getElem?_cons_zero, Option.getD_some]
        repeat (first | go_big_quiet_step (fail) | quiet_step (fail))
        refine wpQuiet_nil ?_
        refine heavyB_want (by rfl) (fun K' hK' => ?_)
        go_simp
        refine hK' _ _ ((Below.refl _ _).setCell (p := ⟨X.heap.size, 0, none⟩) (by have := tX.size; simp; omega) _) ?_
        clear hK' K'
        try simp only [Act.put, List.setIfInBounds_toArray, List.set_cons_zero, List.set_cons_succ]
        rw [wpSchedB]
        simp only [pick, List.map_cons, List.map_nil, Array.getD_eq_getD_getElem?, List.getElem?_toArray, List.getElem?_cons_succ, List.getElem?_cons_zero, Option.getD_some]
        repeat (first | go_big_quiet_step (fail) | quiet_step (fail))
        refine wpQuiet_nil ?_
        obtain ⟨Y, hY⟩ : ∃ Y, X1.setCell ⟨X.heap.size, 0, none⟩ (.slice xx rx.length cx) = Y := ⟨_, rfl⟩
        have y11 : Y.cell? ⟨X.heap.size, 0, none⟩ = some (.slice xx rx.length cx) := by rw [← hY]; exact World.cell?_setCell_same' _ _ _ (by rw [n11]; rfl)
        have tXY : Turns (fun b => b = X.heap.size) X1 Y := by rw [← hY]; exact (Turns.refl (fun b => b = X.heap.size) X1).setCell (p := ⟨X.heap.size, 0, none⟩) (fun _ => rfl) _
        have HRX := Lib.hid (HOX.out.turn tXY (fun b hb e => by have := (HOX.out.row.low b hb).1; omega) (fun r hr b hb e => by have := ((HOX.out.each r hr).low b hb).1; omega)).rws
        have tVY : Turns (fun _ => False) V Y := t1.trans' tXY (fun i hi e => by have := tX.size; omega)
        rw [hY]
        clear hY tXY t1 n11 m11 hxlow HOX t0 hx0
        obtain ⟨b11, hb11⟩ : ∃ b, X.heap.size = b := ⟨_, rfl⟩
        rw [hb11] at y11 ⊢
        clear hb11
        have hBY : Below w.heap.size w Y := (hBV.trans (tVY.below hBV.size (fun _ _ h => h)))
        have hrxY := HRX.out
        have g0Y := tVY.cell (fun e => e) v0
        go_wp2_with fail
        refine (HR2.out _ (hs.later hBY) (ho.later hBY)).mono ?_
        rintro e Z ⟨xy, cyy, ry, rfl, hoy, hmy, hb⟩
        have hBZ := thru hBY hb
        have hry := hoy.rws
        have hrxZ := hrxY.later hb
        replace y11 := later hb y11
        have hz11 : b11 < Z.heap.size := World.block_lt_of_cell? _ _ y11
        have HMY := Lib.hid hmy
        have hly : rx.length ≤ 1000 := by have h1 := congrArg List.length HMX.out; rw [List.length_map] at h1; rw [h1]; exact HFL.out
        clear hb hoy hmy g0Y
        go_wp2_with fail
        refine (same_any xx rx cx xy ry cyy _ (hrxZ.later (al (Below.refl _ _) _)) (hry.later (al (Below.refl _ _) _)) hly).mono ?_
        rintro e Z2 ⟨rfl, hb⟩
        have hBZ2 := thru (al hBZ _) hb
        rw [HMX.out, HMY.out, beq_self_eq_true]
        clear hb
        go_wp2_with fail
        refine (awake_any _).mono ?_
        rintro e w' ⟨rfl, hb⟩
        go_wp2_with fail
        go_ret
        exact ⟨rfl, thru hBZ2 hb⟩
    · have hCT : ∀ W, Rws W x rs → Ops W y os → Calls Try.prog 16 #[.agg #[.slice x rs.length c], .slice y os.length cy, .int .i64 n, .int .i64 k] W (ErrOf (rs.map (·.l)) 2 W) := fun W h1 h2 => by
        have := cut_any x rs c y os cy n k W h1 (by omega) hl0 h2 hyn (by omega) hcy
        rwa [if_neg hc, if_neg hc] at this
      have HC := Lib.hid hCT
      clear hCT
      clear hc
      go_enter Try.func7, Try.ntmps7
      go_wp2_with fail
      refine (few_any x rs c y os cy _ (hs.later (al hB _)) (ho.later (al hB _)) hrn (by omega)).mono ?_
      rintro e w1 ⟨rfl, hb⟩
      rw [HF.out]
      have g0 := later (a := ⟨w.heap.size, 0, none⟩) (v := .slice x rs.length c) hb (by go_simp)
      have hB1 := thru (al hB _) hb
      clear hb
      go_wp2_with fail
      refine (HC.out _ (hs.later hB1) (ho.later hB1)).mono ?_
      rintro e w2 ⟨xt, ct, rt, rfl, hot, hmt, hb⟩
      have hB2 := thru hB1 hb
      have hrt := hot.rws
      replace g0 := later hb g0
      clear hb hot
      go_wp2_with fail
      refine (awake_any _).mono ?_
      rintro e w' ⟨rfl, hb⟩
      go_wp2_with fail
      go_ret
      exact ⟨rfl, thru (al hB2 _) hb⟩

end Go.Proofs.Ytgibfagnfhgelaa
