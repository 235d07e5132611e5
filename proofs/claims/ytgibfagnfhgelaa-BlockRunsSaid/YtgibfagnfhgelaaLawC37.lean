/- LAW BlockRuns. -/
import Derived.Test.YtgibfagnfhgelaaRunA
import Derived.Test.YtgibfagnfhgelaaOpsRow
import Derived.Test.YtgibfagnfhgelaaLawA37
import Derived.Test.YtgibfagnfhgelaaRegionB
import Derived.Deep.RegionWith
namespace Go.Proofs.Ytgibfagnfhgelaa
open Go.RowKit

theorem swap_call {x : Option Addr} {rs : List Rw} {c : Nat} {os : List OpV} {n : Nat} (hn70 : rs.length ≤ 70) (hl0 : ∀ r, r ∈ rs → r.l.length ≤ 100000) (ho20 : os.length ≤ 20) (hv : vldO (rs.map (·.l)) os = true) (hno1 : n + 1 < os.length) (hne : (os.getD n op0).blk ≠ (os.getD (n + 1) op0).blk) (g co : Nat) (hco : os.length ≤ co ∧ co ≤ 9223372036854775807) :
    ∀ W, Rws W x rs → Ops W (some ⟨g, 0, none⟩) (swapO os n) → Calls Try.prog 15 #[.agg #[.slice x rs.length c], .slice (some ⟨g, 0, none⟩) os.length co] W (ErrOf (runL (rs.map (·.l)) os) 0 W) := fun W h1 h2 => by
  have := run_any x rs c (some ⟨g, 0, none⟩) (swapO os n) co W h1 (by omega) hl0 h2 (fun h => by cases h) (by rw [swapO_len]; omega) (by rw [swapO_len]; exact hco)
  rwa [vldO_swap _ _ _ hv hno1, if_pos rfl, if_pos rfl, runs_swap _ _ _ hv hno1 hne, swapO_len] at this
theorem ex_frame {p : (Nat → Value) → Act} {a : Act} (h : a = p (fun i => a.tmps.getD i undef)) : ∃ u, a = p u := ⟨_, h⟩
set_option maxRecDepth 20000 in
set_option maxHeartbeats 4000000 in
theorem runs_law (x : Option Addr) (rs : List Rw) (c : Nat) (y : Option Addr) (os : List OpV) (cy : Nat) (t0 : UInt8) (w : World) (hs : Rws w x rs) (hrn : rs.length ≤ 9223372036854775807) (ho : Ops w y os) (hyn : y = none → cy = 0) (hcy : os.length ≤ cy ∧ cy ≤ 9223372036854775807) :
    Calls Try.prog 6 #[.agg #[.slice x rs.length c], .slice y os.length cy, .int .u8 (t0.toNat : Int)] w (YesOf w) := by
  have hB := Below.refl w.heap.size w
  by_cases hf : fewB (rs.map (·.l)) os = false
  · have HF : Hid (fewB (rs.map (·.l)) os = false) := hf
    clear hf
    go_enter Try.func6, Try.ntmps6
    go_wp2_with fail
    refine (few_any x rs c y os cy _ (hs.later (al hB _)) (ho.later (al hB _)) hrn (by omega)).mono ?_
    rintro e w1 ⟨rfl, hb⟩
    rw [HF.out]
    have g0 := later (a := ⟨w.heap.size, 0, none⟩) (v := .slice x rs.length c) hb (by go_simp)
    have hB1 := thru (al hB _) hb
    clear hb
    go_wp2_with fail
    refine (awake_any _).mono ?_
    rintro e w' ⟨rfl, hb⟩
    go_wp2_with fail
    go_ret
    exact ⟨rfl, thru hB1 hb⟩
  · have hf1 : fewB (rs.map (·.l)) os = true := by simpa using hf
    have HF : Hid (fewB (rs.map (·.l)) os = true) := hf1
    obtain ⟨hl1, -, hr70, ho20⟩ := (fewB_iff _ _).1 hf1
    rw [List.length_map] at hr70
    have hl0 : ∀ r, r ∈ rs → r.l.length ≤ 100000 := fun r hr => by have := hl1 r.l (List.mem_map_of_mem hr); omega
    clear hf hf1 hl1
    by_cases hv : vldO (rs.map (·.l)) os = true
    · have HW : Hid (∀ W, Rws W x rs → Ops W y os → Calls Try.prog 15 #[.agg #[.slice x rs.length c], .slice y os.length cy] W (ErrOf (runL (rs.map (·.l)) os) 0 W)) := fun W h1 h2 => by
        have := run_take (x := x) (c := c) hr70 hl0 hyn ho20 hcy hv (Nat.le_refl os.length) W h1 h2
        rwa [List.take_length] at this
      obtain ⟨n, hn⟩ : ∃ n, t0.toNat % (os.length + 1) = n := ⟨_, rfl⟩
      have hnl : n ≤ os.length := by have := Nat.mod_lt t0.toNat (show 0 < os.length + 1 by omega); omega
      have ht0 : t0.toNat < 256 := t0.toNat_lt
      have hmod : (t0.toNat : Int).tmod ((os.length : Int) + 1) = (n : Int) := by
        rw [← hn]; exact (Int.ofNat_tmod _ _).symm
      have hwl : wrap64 ((os.length : Int) + 1) = (os.length : Int) + 1 := IntWalk.wrap64_in _ (by omega)
      have hwt : wrap64 (t0.toNat : Int) = (t0.toNat : Int) := IntWalk.wrap64_in _ (by omega)
      have hwn : wrap64 (n : Int) = (n : Int) := IntWalk.wrap64_in _ (by omega)
      have HA := Lib.hid (run_take (x := x) (c := c) hr70 hl0 hyn ho20 hcy hv hnl)
      have HR := Lib.hid (run_rest hr70 hyn ho20 hcy hv hnl)
      have hpre : ∀ W : World, (Instr.slice 26 (.slice y os.length cy) none (some (.int .i64 (n : Int))) none).run Try.prog W = .ok (.slice y n cy) W := run_pre y os.length cy n (by omega)
      have hsuf : ∀ W : World, (Instr.slice 26 (.slice y os.length cy) (some (.int .i64 (n : Int))) none none).run Try.prog W = .ok (.slice (sufA y cy n) (os.length - n) (cy - n)) W := run_suf y os.length cy n hnl
      have hz1 : ((os.length : Int) + 1 == 0) = false := by rw [beq_eq_false_iff_ne]; omega
      go_enter Try.func6, Try.ntmps6
      go_wp2_with fail
      refine (few_any x rs c y os cy _ (hs.later (al hB _)) (ho.later (al hB _)) hrn (by omega)).mono ?_
      rintro e w1 ⟨rfl, hb⟩
      rw [HF.out]
      have g0 := later (a := ⟨w.heap.size, 0, none⟩) (v := .slice x rs.length c) hb (by go_simp)
      have hB1 := thru (al hB _) hb
      clear hb
      go_wp2_with fail
      refine (HW.out _ (hs.later hB1) (ho.later hB1)).mono ?_
      rintro e w2 ⟨xh, ch, rh, rfl, hoh, hmh, hb⟩
      have hB2 := thru hB1 hb
      have hrh := hoh.rws
      replace g0 := later hb g0
      have HMH := Lib.hid hmh
      clear hb hoh hmh
      go_wp2_with fail
      have v7 : (w2.alloc (.cells #[.slice xh rh.length ch] 24)).cell? ⟨w2.heap.size, 0, none⟩ = some (.slice xh rh.length ch) := cell_new w2 _ _ _ 0
      replace g0 := later (al (Below.refl _ w2) (.cells #[.slice xh rh.length ch] 24)) g0
      have hBV := al hB2 (.cells #[.slice xh rh.length ch] 24)
      replace hrh := hrh.later (al (Below.refl _ w2) (.cells #[.slice xh rh.length ch] 24))
      obtain ⟨b7, hb7⟩ : ∃ b, w2.heap.size = b := ⟨_, rfl⟩
      obtain ⟨V, hV⟩ : ∃ V, w2.alloc (.cells #[.slice xh rh.length ch] 24) = V := ⟨_, rfl⟩
      rw [hV] at v7 g0 hBV hrh ⊢
      rw [hb7] at v7 ⊢
      clear hV hb7 hB2 hB1
      have z0 : w.heap.size < V.heap.size := World.block_lt_of_cell? _ _ g0
      have hsV := hs.later hBV
      refine wp_cut (fun a' w' => Below V.heap.size V w' ∧ ∃ (b10 : Nat) (xa : Option Addr) (ca : Nat) (ra : List Rw), w'.cell? ⟨b10, 0, none⟩ = some (.slice xa ra.length ca) ∧ Rws w' xa ra ∧ ra.map (·.l) = runL (rs.map (·.l)) (os.take n) ∧ ∃ u : Nat → Value, a' = { tmps := #[.agg #[.slice x rs.length c], .slice y os.length cy, .int .u8 (t0.toNat : Int), .pointer (some ⟨w.heap.size, 0, none⟩), undef, undef, .bool false, .pointer (some ⟨b7, 0, none⟩), .int .i64 0, .int .i64 (n : Int), .pointer (some ⟨b10, 0, none⟩), .int .i64 0, undef, undef, undef, undef, undef, undef, undef, undef, undef, undef, undef, undef, undef, undef, u 26, u 27, u 28, u 29, undef, u 31, u 32, u 33, u 34, u 35, u 36, u 37, u 38, undef, u 40, u 41, u 42, u 43, u 44, u 45, u 46, u 47, u 48, u 49, u 50, u 51, u 52, u 53, undef, undef, undef, undef, undef, undef, undef, undef, undef, undef, undef, undef, undef, undef, undef, undef, undef, undef, undef, undef, undef, undef, undef, undef, undef, undef, undef, undef, undef, undef, undef, undef, undef, undef, undef, undef, undef, undef, undef, undef, undef, undef, undef, undef, undef, undef, undef, undef, undef, undef, undef, undef, undef, undef, undef, undef, undef, undef, undef, undef, undef, undef, undef, undef, undef, undef, undef, undef, undef, undef, undef, undef, undef, undef, undef, undef, undef, undef, undef, undef, undef, undef, undef, undef, undef, undef, undef, undef, undef, undef, undef, undef, undef, undef, undef, undef, undef, undef, undef, undef, undef, undef, undef, undef, undef, undef, undef, undef, undef, undef, undef, undef, undef, undef, undef, undef, undef, undef, undef, undef, undef, undef, undef, undef, undef, undef, undef, undef, undef, undef, undef, undef, undef, undef, undef, undef, undef, undef, undef, undef, undef], defers := [] }) ?_ ?_
      · refine wp_region_schedB (B := V.heap.size) (fun X => X.cell? ⟨w.heap.size, 0, none⟩ = some (.slice x rs.length c) ∧ Turns (fun _ => False) V X) (.two [0, 1, 2, 3] 4 (.one [5, 6, 7] 8 (.one [] 9 (.done [10]))) 8 (.one [] 4 (.one [5, 6, 7] 9 (.done [10])))) (by kernel_rfl) (by kernel_rfl) (fun _ _ _ _ _ h => by cases h.1) ⟨g0, (Turns.refl _ _).drew⟩ ?_
        rintro X ⟨x9, tX⟩
        have hBX : Below w.heap.size w X := hBV.trans (tX.below hBV.size (fun _ _ h => h))
        rw [wpSchedB]
        simp only [pick, List.map_cons, List.map_nil, Array.getD_eq_getD_getElem?, List.getElem?_toArray, List.getElem?_cons_succ, List.getElem?_cons_zero, Option.getD_some]
        have k9 := plusB_cell (B := V.heap.size) x9 z0
        repeat (first | go_big_quiet_step (fail) | quiet_step (fail))
        refine wpQuiet_nil ?_
        clear k9 x9
        refine ⟨?_, ?_⟩
        · refine heavyB_want (by rfl) (fun K' hK' => ?_)
          go_simp
          refine (HA.out X (hsV.later_t tX) (ho.later hBX)).mono ?_
          rintro e X1 ⟨xx, cx, rx, rfl, hox, hmx, hb⟩
          refine hK' _ _ (hb.mono (by have := tX.size; omega)) ?_
          clear hK' K'
          have t1 : Turns (fun _ => False) V X1 := tX.trans (Turns.of_below hb (Nat.le_refl _))
          have hrx0 := hox.rws
          have HMX := Lib.hid hmx
          clear hb hox hmx
          try simp only [Act.put, List.setIfInBounds_toArray, List.set_cons_zero, List.set_cons_succ]
          rw [wpSchedB]
          simp only [pick, List.map_cons, List.map_nil, Array.getD_eq_getD_getElem?, List.getElem?_toArray, List.getElem?_cons_succ, List.getElem?_cons_zero, Option.getD_some]
          repeat (first | go_big_quiet_step (fail) | quiet_step (fail))
          refine wpQuiet_nil ?_
          refine heavyB_want (by rfl) (fun K' hK' => ?_)
          go_simp
          refine hK' _ _ ((Below.refl _ _).alloc (by have := t1.size; omega) _) ?_
          clear hK' K'
          try simp only [Act.put, List.setIfInBounds_toArray, List.set_cons_zero, List.set_cons_succ]
          rw [wpSchedB]
          simp only [pick, List.map_nil, Array.getD_eq_getD_getElem?, List.getElem?_toArray, List.getElem?_cons_succ, List.getElem?_cons_zero, Option.getD_some]
          refine wpQuiet_nil ?_
          obtain ⟨X2, hX2⟩ : ∃ Y, X1.alloc (.cells #[.slice none 0 0] 24) = Y := ⟨_, rfl⟩
          have n11 : X2.cell? ⟨X1.heap.size, 0, none⟩ = some (.slice none 0 0) := by rw [← hX2]; exact cell_new X1 _ _ _ 0
          have m11 : X2.frozen? ⟨X1.heap.size, 0, none⟩ = false := by rw [← hX2]; exact frozen_new X1 _ _ 0
          have t0' : Turns (fun _ => False) X1 X2 := by rw [← hX2]; exact (Turns.refl _ _).alloc _
          rw [hX2]
          clear hX2
          refine heavyB_want (by rfl) (fun K' hK' => ?_)
          go_simp
          refine hK' _ _ ((Below.refl _ _).setCell (p := ⟨X1.heap.size, 0, none⟩) (by have := t1.size; simp; omega) _) ?_
          clear hK' K'
          try simp only [Act.put, List.setIfInBounds_toArray, List.set_cons_zero, List.set_cons_succ]
          rw [wpSchedB]
          simp only [pick, List.map_cons, List.map_nil, Array.getD_eq_getD_getElem?, List.getElem?_toArray, List.getElem?_cons_succ, List.getElem?_cons_zero, Option.getD_some]
          repeat (first | go_big_quiet_step (fail) | quiet_step (fail))
          refine wpQuiet_nil ?_
          obtain ⟨Y, hY⟩ : ∃ Y, X2.setCell ⟨X1.heap.size, 0, none⟩ (.slice xx rx.length cx) = Y := ⟨_, rfl⟩
          have y11 : Y.cell? ⟨X1.heap.size, 0, none⟩ = some (.slice xx rx.length cx) := by rw [← hY]; exact World.cell?_setCell_same' _ _ _ (by rw [n11]; rfl)
          have tXY : Turns (fun _ => False) X1 Y := by rw [← hY]; exact Turns.setCell (p := ⟨X1.heap.size, 0, none⟩) t0' (fun h => absurd h (by simp)) _
          have HRX := Lib.hid (hrx0.later_t tXY)
          have tVY := t1.trans tXY
          rw [hY]
          exact ⟨trivial, tVY.below (Nat.le_refl _) (fun _ _ h => h), X1.heap.size, xx, cx, rx, y11, HRX.out, HMX.out, ex_frame (by kernel_rfl)⟩
        · refine heavyB_want (by rfl) (fun K' hK' => ?_)
          go_simp
          refine hK' _ _ ((Below.refl _ _).alloc (by have := tX.size; omega) _) ?_
          clear hK' K'
          try simp only [Act.put, List.setIfInBounds_toArray, List.set_cons_zero, List.set_cons_succ]
          rw [wpSchedB]
          simp only [pick, List.map_nil, Array.getD_eq_getD_getElem?, List.getElem?_toArray, List.getElem?_cons_succ, List.getElem?_cons_zero, Option.getD_some]
          refine wpQuiet_nil ?_
          obtain ⟨X0, hX0⟩ : ∃ Y, X.alloc (.cells #[.slice none 0 0] 24) = Y := ⟨_, rfl⟩
          have n11 : X0.cell? ⟨X.heap.size, 0, none⟩ = some (.slice none 0 0) := by rw [← hX0]; exact cell_new X _ _ _ 0
          have m11 : X0.frozen? ⟨X.heap.size, 0, none⟩ = false := by rw [← hX0]; exact frozen_new X _ _ 0
          have t0' : Turns (fun _ => False) V X0 := by rw [← hX0]; exact tX.alloc _
          rw [hX0]
          clear hX0
          refine heavyB_want (by rfl) (fun K' hK' => ?_)
          go_simp
          refine (HA.out X0 (hsV.later_t t0') (ho.later (hBV.trans (t0'.below hBV.size (fun _ _ h => h))))).mono ?_
          rintro e X1 ⟨xx, cx, rx, rfl, hox, hmx, hb⟩
          refine hK' _ _ (hb.mono (by have := t0'.size; omega)) ?_
          clear hK' K'
          have t1 : Turns (fun _ => False) V X1 := t0'.trans (Turns.of_below hb (Nat.le_refl _))
          have HOX := Lib.hid hox
          have HMX := Lib.hid hmx
          replace m11 := (Below.frozen hb (p := ⟨X.heap.size, 0, none⟩) (World.block_lt_of_cell? _ _ n11)).trans m11
          have hx0 : X.heap.size < X0.heap.size := World.block_lt_of_cell? _ _ n11
          replace n11 := later hb n11
          clear hb hox hmx
          try simp only [Act.put, List.setIfInBounds_toArray, List.set_cons_zero, List.set_cons_succ]
          rw [wpSchedB]
          simp only [pick, List.map_cons, List.map_nil, Array.getD_eq_getD_getElem?, List.getElem?_toArray, List.getElem?_cons_succ, List.getElem?_cons_zero, Option.getD_some]
          repeat (first | go_big_quiet_step (fail) | quiet_step (fail))
          refine wpQuiet_nil ?_
          refine heavyB_want (by rfl) (fun K' hK' => ?_)
          go_simp
          refine hK' _ _ ((Below.refl _ _).setCell (p := ⟨X.heap.size, 0, none⟩) (by have := tX.size; simp; omega) _) ?_
          clear hK' K'
          try simp only [Act.put, List.setIfInBounds_toArray, List.set_cons_zero, List.set_cons_succ]
          rw [wpSchedB]
          simp only [pick, List.map_cons, List.map_nil, Array.getD_eq_getD_getElem?, List.getElem?_toArray, List.getElem?_cons_succ, List.getElem?_cons_zero, Option.getD_some]
          repeat (first | go_big_quiet_step (fail) | quiet_step (fail))
          refine wpQuiet_nil ?_
          obtain ⟨Y, hY⟩ : ∃ Y, X1.setCell ⟨X.heap.size, 0, none⟩ (.slice xx rx.length cx) = Y := ⟨_, rfl⟩
          have y11 : Y.cell? ⟨X.heap.size, 0, none⟩ = some (.slice xx rx.length cx) := by rw [← hY]; exact World.cell?_setCell_same' _ _ _ (by rw [n11]; rfl)
          have tXY : Turns (fun b => b = X.heap.size) X1 Y := by rw [← hY]; exact (Turns.refl (fun b => b = X.heap.size) X1).setCell (p := ⟨X.heap.size, 0, none⟩) (fun _ => rfl) _
          have HRX := Lib.hid (HOX.out.turn tXY (fun b hb e => by have := (HOX.out.row.low b hb).1; omega) (fun r hr b hb e => by have := ((HOX.out.each r hr).low b hb).1; omega)).rws
          have tVY : Turns (fun _ => False) V Y := t1.trans' tXY (fun i hi e => by have := tX.size; omega)
          rw [hY]
          exact ⟨trivial, tVY.below (Nat.le_refl _) (fun _ _ h => h), X.heap.size, xx, cx, rx, y11, HRX.out, HMX.out, ex_frame (by kernel_rfl)⟩
      rintro a' V2 ⟨hb, b10, xa, ca, ra, v10, hra, mra, u10, rfl⟩
      have Mra := Lib.hid mra
      clear mra
      replace g0 := later hb g0
      replace v7 := later hb v7
      replace hrh := hrh.later hb
      replace hBV := thru hBV hb
      clear hb
      have z10 : b10 < V2.heap.size := World.block_lt_of_cell? _ _ v10
      go_wp2_with fail
      refine wp_cut (fun a' w' => Below V2.heap.size V2 w' ∧ ∃ (b12 : Nat) (xb : Option Addr) (cb : Nat) (rb : List Rw), w'.cell? ⟨b12, 0, none⟩ = some (.slice xb rb.length cb) ∧ Rws w' xb rb ∧ rb.map (·.l) = runL (rs.map (·.l)) os ∧ ∃ u : Nat → Value, a' = { tmps := #[.agg #[.slice x rs.length c], .slice y os.length cy, .int .u8 (t0.toNat : Int), .pointer (some ⟨w.heap.size, 0, none⟩), undef, undef, .bool false, .pointer (some ⟨b7, 0, none⟩), .int .i64 0, .int .i64 (n : Int), .pointer (some ⟨b10, 0, none⟩), .int .i64 0, .pointer (some ⟨b12, 0, none⟩), .int .i64 0, undef, undef, undef, undef, undef, undef, undef, undef, undef, undef, undef, undef, u 26, u 27, u 28, u 29, undef, u 31, u 32, u 33, u 34, u 35, u 36, u 37, u 38, undef, u 40, u 41, u 42, u 43, u 44, u 45, u 46, u 47, u 48, u 49, u 50, u 51, u 52, u 53, u 54, u 55, u 56, u 57, u 58, u 59, u 60, u 61, undef, undef, undef, undef, undef, undef, undef, undef, undef, undef, undef, undef, undef, undef, undef, undef, undef, undef, undef, undef, undef, undef, undef, undef, undef, undef, undef, undef, undef, undef, undef, undef, undef, undef, undef, undef, undef, undef, undef, undef, undef, undef, undef, undef, undef, undef, undef, undef, undef, undef, undef, undef, undef, undef, undef, undef, undef, undef, undef, undef, undef, undef, undef, undef, undef, undef, undef, undef, undef, undef, undef, undef, undef, undef, undef, undef, undef, undef, undef, undef, undef, undef, undef, undef, undef, undef, undef, undef, undef, undef, undef, undef, undef, undef, undef, undef, undef, undef, undef, undef, undef, undef, undef, undef, undef, undef, undef, undef, undef, undef, undef, undef, undef, undef, undef, undef, undef, undef, undef, undef, undef, undef, undef, undef, undef, undef, undef, undef, undef, undef, undef, undef, undef], defers := [] }) ?_ ?_
      · refine wp_region_schedB (B := V2.heap.size) (fun X => X.cell? ⟨b10, 0, none⟩ = some (.slice xa ra.length ca) ∧ Turns (fun _ => False) V2 X) (.two [0, 1, 2, 3] 4 (.one [5, 6, 7] 8 (.one [] 9 (.done [10]))) 8 (.one [] 4 (.one [5, 6, 7] 9 (.done [10])))) (by kernel_rfl) (by kernel_rfl) (fun _ _ _ _ _ h => by cases h.1) ⟨v10, (Turns.refl _ _).drew⟩ ?_
        rintro X ⟨x9, tX⟩
        have hBX : Below w.heap.size w X := hBV.trans (tX.below hBV.size (fun _ _ h => h))
        rw [wpSchedB]
        simp only [pick, List.map_cons, List.map_nil, Array.getD_eq_getD_getElem?, List.getElem?_toArray, List.getElem?_cons_succ, List.getElem?_cons_zero, Option.getD_some]
        have k9 := plusB_cell (B := V2.heap.size) x9 z10
        repeat (first | go_big_quiet_step (fail) | quiet_step (fail))
        refine wpQuiet_nil ?_
        clear k9 x9
        refine ⟨?_, ?_⟩
        · refine heavyB_want (by rfl) (fun K' hK' => ?_)
          go_simp
          refine (HR.out X _ _ _ (hra.later_t tX) Mra.out (ho.later hBX)).mono ?_
          rintro e X1 ⟨xx, cx, rx, rfl, hox, hmx, hb⟩
          refine hK' _ _ (hb.mono (by have := tX.size; omega)) ?_
          clear hK' K'
          have t1 : Turns (fun _ => False) V2 X1 := tX.trans (Turns.of_below hb (Nat.le_refl _))
          have hrx0 := hox.rws
          have HMX := Lib.hid hmx
          clear hb hox hmx
          try simp only [Act.put, List.setIfInBounds_toArray, List.set_cons_zero, List.set_cons_succ]
          rw [wpSchedB]
          simp only [pick, List.map_cons, List.map_nil, Array.getD_eq_getD_getElem?, List.getElem?_toArray, List.getElem?_cons_succ, List.getElem?_cons_zero, Option.getD_some]
          repeat (first | go_big_quiet_step (fail) | quiet_step (fail))
          refine wpQuiet_nil ?_
          refine heavyB_want (by rfl) (fun K' hK' => ?_)
          go_simp
          refine hK' _ _ ((Below.refl _ _).alloc (by have := t1.size; omega) _) ?_
          clear hK' K'
          try simp only [Act.put, List.setIfInBounds_toArray, List.set_cons_zero, List.set_cons_succ]
          rw [wpSchedB]
          simp only [pick, List.map_nil, Array.getD_eq_getD_getElem?, List.getElem?_toArray, List.getElem?_cons_succ, List.getElem?_cons_zero, Option.getD_some]
          refine wpQuiet_nil ?_
          obtain ⟨X2, hX2⟩ : ∃ Y, X1.alloc (.cells #[.slice none 0 0] 24) = Y := ⟨_, rfl⟩
          have n11 : X2.cell? ⟨X1.heap.size, 0, none⟩ = some (.slice none 0 0) := by rw [← hX2]; exact cell_new X1 _ _ _ 0
          have m11 : X2.frozen? ⟨X1.heap.size, 0, none⟩ = false := by rw [← hX2]; exact frozen_new X1 _ _ 0
          have t0' : Turns (fun _ => False) X1 X2 := by rw [← hX2]; exact (Turns.refl _ _).alloc _
          rw [hX2]
          clear hX2
          refine heavyB_want (by rfl) (fun K' hK' => ?_)
          go_simp
          refine hK' _ _ ((Below.refl _ _).setCell (p := ⟨X1.heap.size, 0, none⟩) (by have := t1.size; simp; omega) _) ?_
          clear hK' K'
          try simp only [Act.put, List.setIfInBounds_toArray, List.set_cons_zero, List.set_cons_succ]
          rw [wpSchedB]
          simp only [pick, List.map_cons, List.map_nil, Array.getD_eq_getD_getElem?, List.getElem?_toArray, List.getElem?_cons_succ, List.getElem?_cons_zero, Option.getD_some]
          repeat (first | go_big_quiet_step (fail) | quiet_step (fail))
          refine wpQuiet_nil ?_
          obtain ⟨Y, hY⟩ : ∃ Y, X2.setCell ⟨X1.heap.size, 0, none⟩ (.slice xx rx.length cx) = Y := ⟨_, rfl⟩
          have y11 : Y.cell? ⟨X1.heap.size, 0, none⟩ = some (.slice xx rx.length cx) := by rw [← hY]; exact World.cell?_setCell_same' _ _ _ (by rw [n11]; rfl)
          have tXY : Turns (fun _ => False) X1 Y := by rw [← hY]; exact Turns.setCell (p := ⟨X1.heap.size, 0, none⟩) t0' (fun h => absurd h (by simp)) _
          have HRX := Lib.hid (hrx0.later_t tXY)
          have tVY := t1.trans tXY
          rw [hY]
          exact ⟨trivial, tVY.below (Nat.le_refl _) (fun _ _ h => h), X1.heap.size, xx, cx, rx, y11, HRX.out, HMX.out, ex_frame (by kernel_rfl)⟩
        · refine heavyB_want (by rfl) (fun K' hK' => ?_)
          go_simp
          refine hK' _ _ ((Below.refl _ _).alloc (by have := tX.size; omega) _) ?_
          clear hK' K'
          try simp only [Act.put, List.setIfInBounds_toArray, List.set_cons_zero, List.set_cons_succ]
          rw [wpSchedB]
          simp only [pick, List.map_nil, Array.getD_eq_getD_getElem?, List.getElem?_toArray, List.getElem?_cons_succ, List.getElem?_cons_zero, Option.getD_some]
          refine wpQuiet_nil ?_
          obtain ⟨X0, hX0⟩ : ∃ Y, X.alloc (.cells #[.slice none 0 0] 24) = Y := ⟨_, rfl⟩
          have n11 : X0.cell? ⟨X.heap.size, 0, none⟩ = some (.slice none 0 0) := by rw [← hX0]; exact cell_new X _ _ _ 0
          have m11 : X0.frozen? ⟨X.heap.size, 0, none⟩ = false := by rw [← hX0]; exact frozen_new X _ _ 0
          have t0' : Turns (fun _ => False) V2 X0 := by rw [← hX0]; exact tX.alloc _
          rw [hX0]
          clear hX0
          refine heavyB_want (by rfl) (fun K' hK' => ?_)
          go_simp
          refine (HR.out X0 _ _ _ (hra.later_t t0') Mra.out (ho.later (hBV.trans (t0'.below hBV.size (fun _ _ h => h))))).mono ?_
          rintro e X1 ⟨xx, cx, rx, rfl, hox, hmx, hb⟩
          refine hK' _ _ (hb.mono (by have := t0'.size; omega)) ?_
          clear hK' K'
          have t1 : Turns (fun _ => False) V2 X1 := t0'.trans (Turns.of_below hb (Nat.le_refl _))
          have HOX := Lib.hid hox
          have HMX := Lib.hid hmx
          replace m11 := (Below.frozen hb (p := ⟨X.heap.size, 0, none⟩) (World.block_lt_of_cell? _ _ n11)).trans m11
          have hx0 : X.heap.size < X0.heap.size := World.block_lt_of_cell? _ _ n11
          replace n11 := later hb n11
          clear hb hox hmx
          try simp only [Act.put, List.setIfInBounds_toArray, List.set_cons_zero, List.set_cons_succ]
          rw [wpSchedB]
          simp only [pick, List.map_cons, List.map_nil, Array.getD_eq_getD_getElem?, List.getElem?_toArray, List.getElem?_cons_succ, List.getElem?_cons_zero, Option.getD_some]
          repeat (first | go_big_quiet_step (fail) | quiet_step (fail))
          refine wpQuiet_nil ?_
          refine heavyB_want (by rfl) (fun K' hK' => ?_)
          go_simp
          refine hK' _ _ ((Below.refl _ _).setCell (p := ⟨X.heap.size, 0, none⟩) (by have := tX.size; simp; omega) _) ?_
          clear hK' K'
          try simp only [Act.put, List.setIfInBounds_toArray, List.set_cons_zero, List.set_cons_succ]
          rw [wpSchedB]
          simp only [pick, List.map_cons, List.map_nil, Array.getD_eq_getD_getElem?, List.getElem?_toArray, List.getElem?_cons_succ, List.getElem?_cons_zero, Option.getD_some]
          repeat (first | go_big_quiet_step (fail) | quiet_step (fail))
          refine wpQuiet_nil ?_
          obtain ⟨Y, hY⟩ : ∃ Y, X1.setCell ⟨X.heap.size, 0, none⟩ (.slice xx rx.length cx) = Y := ⟨_, rfl⟩
          have y11 : Y.cell? ⟨X.heap.size, 0, none⟩ = some (.slice xx rx.length cx) := by rw [← hY]; exact World.cell?_setCell_same' _ _ _ (by rw [n11]; rfl)
          have tXY : Turns (fun b => b = X.heap.size) X1 Y := by rw [← hY]; exact (Turns.refl (fun b => b = X.heap.size) X1).setCell (p := ⟨X.heap.size, 0, none⟩) (fun _ => rfl) _
          have HRX := Lib.hid (HOX.out.turn tXY (fun b hb e => by have := (HOX.out.row.low b hb).1; omega) (fun r hr b hb e => by have := ((HOX.out.each r hr).low b hb).1; omega)).rws
          have tVY : Turns (fun _ => False) V2 Y := t1.trans' tXY (fun i hi e => by have := tX.size; omega)
          rw [hY]
          exact ⟨trivial, tVY.below (Nat.le_refl _) (fun _ _ h => h), X.heap.size, xx, cx, rx, y11, HRX.out, HMX.out, ex_frame (by kernel_rfl)⟩
      rintro a' V3 ⟨hb, b12, xb, cb, rb, v12, hrb, mrb, u12, rfl⟩
      have Mrb := Lib.hid mrb
      clear mrb
      replace g0 := later hb g0
      replace v7 := later hb v7
      replace hrh := hrh.later hb
      replace v10 := later hb v10
      replace hra := hra.later hb
      replace hBV := thru hBV hb
      clear hb
      have z12 : b12 < V3.heap.size := World.block_lt_of_cell? _ _ v12
      go_wp2_with fail
      refine (same_both _ hrb hrh Mrb.out HMH.out (by rw [runL_len, List.length_map]; exact hr70)).mono ?_
      rintro e V4 ⟨rfl, hb⟩
      replace g0 := later hb g0
      replace v7 := later hb v7
      replace hrh := hrh.later hb
      replace v10 := later hb v10
      replace hra := hra.later hb
      replace hBV := thru hBV hb
      clear hb
      clear HR hsuf v12 z12 hrb Mrb
      by_cases hno : n < os.length
      · have d1 : decide ((n : Int) < (os.length : Int)) = true := decide_eq_true (by omega)
        have p0 : (0 : Int) ≤ (n : Int) := by omega
        have p1 : (n : Int) < (os.length : Int) := by omega
        have p2 : n < os.length := hno
        obtain ⟨b0, o0, rfl, e0, e1, -⟩ := (ho.later hBV).at n hno
        cases her : (os.getD n op0).er
        · have HX0 : Hid (∀ W, Rws W x rs → Ops W (some ⟨b0, o0, none⟩) os → Calls Try.prog 16 #[.agg #[.slice x rs.length c], .slice (some ⟨b0, o0, none⟩) os.length cy, .int .i64 (n : Int), .int .i64 0] W (ErrOf (runL (rs.map (·.l)) (os.take n)) 0 W)) := fun W h1 h2 => by
            have := cut_good (x := x) (c := c) hr70 hl0 hyn ho20 hcy hv hno 0 (Nat.zero_le _) W h1 h2
            rw [cutL_zero] at this
            exact this
          have HX1 : Hid (∀ W, Rws W x rs → Ops W (some ⟨b0, o0, none⟩) os → Calls Try.prog 16 #[.agg #[.slice x rs.length c], .slice (some ⟨b0, o0, none⟩) os.length cy, .int .i64 (n : Int), .int .i64 108] W (ErrOf (runL (rs.map (·.l)) (os.take (n + 1))) 0 W)) := fun W h1 h2 => by
            have := cut_good (x := x) (c := c) hr70 hl0 hyn ho20 hcy hv hno (lenO (os.getD n op0).er) (Nat.le_refl _) W h1 h2
            rw [cutL_end _ _ _ hno, her] at this
            exact this
          have HX2 : Hid (∀ W, Rws W x rs → Ops W (some ⟨b0, o0, none⟩) os → Calls Try.prog 16 #[.agg #[.slice x rs.length c], .slice (some ⟨b0, o0, none⟩) os.length cy, .int .i64 (n : Int), .int .i64 109] W (ErrOf (rs.map (·.l)) 2 W)) := fun W h1 h2 => by
            have := cut_over (x := x) (n := n) (c := c) hr70 hl0 hyn ho20 hcy 109 (by rw [her]; decide) W h1 h2
            exact this
          have HA1 := Lib.hid (run_take (x := x) (c := c) hr70 hl0 hyn ho20 hcy hv (show n + 1 ≤ os.length from hno))
          have hpre1 : ∀ W : World, (Instr.slice 26 (.slice (some ⟨b0, o0, none⟩) os.length cy) none (some (.int .i64 ((n : Int) + 1))) none).run Try.prog W = .ok (.slice (some ⟨b0, o0, none⟩) (n + 1) cy) W := run_pre (some ⟨b0, o0, none⟩) os.length cy (n + 1) (by omega)
          have hw1 : IntKind.i64.wrap ((n : Int) + 1) = (n : Int) + 1 := wrap64_of _ (by omega)
          rw [her] at e1
          clear hpre HA
          go_wp2_with fail
          refine (HX0.out _ (hs.later hBV) (ho.later hBV)).mono ?_
          rintro e W5 ⟨xp, cp, rp, rfl, horp, mrp, hb⟩
          have hrp := horp.rws
          have Mrp := Lib.hid mrp
          clear horp mrp
          replace g0 := later hb g0
          replace v7 := later hb v7
          replace hrh := hrh.later hb
          replace v10 := later hb v10
          replace hra := hra.later hb
          replace e0 := later hb e0
          replace e1 := later hb e1
          replace hBV := thru hBV hb
          clear hb
          have q0 : w.heap.size < W5.heap.size := World.block_lt_of_cell? _ _ g0
          have qv7 : b7 < W5.heap.size := World.block_lt_of_cell? _ _ v7
          have qv10 : b10 < W5.heap.size := World.block_lt_of_cell? _ _ v10
          go_wp2_with fail
          have v15 : (W5.alloc (.cells #[.slice xp rp.length cp] 24)).cell? ⟨W5.heap.size, 0, none⟩ = some (.slice xp rp.length cp) := cell_new W5 _ _ _ 0
          have hb := al (Below.refl _ W5) (.cells #[.slice xp rp.length cp] 24)
          replace g0 := later hb g0
          replace v7 := later hb v7
          replace hrh := hrh.later hb
          replace v10 := later hb v10
          replace hra := hra.later hb
          replace e0 := later hb e0
          replace e1 := later hb e1
          replace hrp := hrp.later hb
          replace hBV := thru hBV hb
          clear hb
          obtain ⟨b15, hb15⟩ : ∃ b, W5.heap.size = b := ⟨_, rfl⟩
          obtain ⟨V5, hV⟩ : ∃ V, W5.alloc (.cells #[.slice xp rp.length cp] 24) = V := ⟨_, rfl⟩
          rw [hV] at g0 v7 hrh v10 hra e0 e1 hrp v15 hBV ⊢
          rw [hb15] at v15 ⊢
          clear hV hb15 q0 qv7 qv10
          have z15 : b15 < V5.heap.size := World.block_lt_of_cell? _ _ v15
          refine (HX1.out _ (hs.later hBV) (ho.later hBV)).mono ?_
          rintro e W6 ⟨xq, cq, rq, rfl, horq, mrq, hb⟩
          have hrq := horq.rws
          have Mrq := Lib.hid mrq
          clear horq mrq
          replace g0 := later hb g0
          replace v7 := later hb v7
          replace hrh := hrh.later hb
          replace v10 := later hb v10
          replace hra := hra.later hb
          replace e0 := later hb e0
          replace e1 := later hb e1
          replace v15 := later hb v15
          replace hrp := hrp.later hb
          replace hBV := thru hBV hb
          clear hb
          have q0 : w.heap.size < W6.heap.size := World.block_lt_of_cell? _ _ g0
          have qv7 : b7 < W6.heap.size := World.block_lt_of_cell? _ _ v7
          have qv10 : b10 < W6.heap.size := World.block_lt_of_cell? _ _ v10
          have qv15 : b15 < W6.heap.size := World.block_lt_of_cell? _ _ v15
          go_wp2_with fail
          have v17 : (W6.alloc (.cells #[.slice xq rq.length cq] 24)).cell? ⟨W6.heap.size, 0, none⟩ = some (.slice xq rq.length cq) := cell_new W6 _ _ _ 0
          have hb := al (Below.refl _ W6) (.cells #[.slice xq rq.length cq] 24)
          replace g0 := later hb g0
          replace v7 := later hb v7
          replace hrh := hrh.later hb
          replace v10 := later hb v10
          replace hra := hra.later hb
          replace e0 := later hb e0
          replace e1 := later hb e1
          replace v15 := later hb v15
          replace hrp := hrp.later hb
          replace hrq := hrq.later hb
          replace hBV := thru hBV hb
          clear hb
          obtain ⟨b17, hb17⟩ : ∃ b, W6.heap.size = b := ⟨_, rfl⟩
          obtain ⟨V6, hV⟩ : ∃ V, W6.alloc (.cells #[.slice xq rq.length cq] 24) = V := ⟨_, rfl⟩
          rw [hV] at g0 v7 hrh v10 hra e0 e1 v15 hrp hrq v17 hBV ⊢
          rw [hb17] at v17 ⊢
          clear hV hb17 q0 qv7 qv10 qv15
          have z17 : b17 < V6.heap.size := World.block_lt_of_cell? _ _ v17
          have hsV6 := hs.later hBV
          have z0 : w.heap.size < V6.heap.size := World.block_lt_of_cell? _ _ g0
          refine wp_cut (fun a' w' => Below V6.heap.size V6 w' ∧ ∃ (b19 : Nat) (xc : Option Addr) (cc : Nat) (rc : List Rw), w'.cell? ⟨b19, 0, none⟩ = some (.slice xc rc.length cc) ∧ Rws w' xc rc ∧ rc.map (·.l) = runL (rs.map (·.l)) (os.take (n + 1)) ∧ ∃ u : Nat → Value, a' = { tmps := #[.agg #[.slice x rs.length c], .slice (some ⟨b0, o0, none⟩) os.length cy, .int .u8 (t0.toNat : Int), .pointer (some ⟨w.heap.size, 0, none⟩), undef, undef, .bool false, .pointer (some ⟨b7, 0, none⟩), .int .i64 0, .int .i64 (n : Int), .pointer (some ⟨b10, 0, none⟩), .int .i64 0, .pointer (some ⟨b12, 0, none⟩), .int .i64 0, .int .i64 108, .pointer (some ⟨b15, 0, none⟩), .int .i64 0, .pointer (some ⟨b17, 0, none⟩), .int .i64 0, .pointer (some ⟨b19, 0, none⟩), .int .i64 0, undef, undef, undef, undef, undef, u 26, u 27, u 28, u 29, u 30, u 31, u 32, u 33, u 34, u 35, u 36, u 37, u 38, u 39, u 40, u 41, u 42, u 43, u 44, u 45, u 46, u 47, u 48, u 49, u 50, u 51, u 52, u 53, u 54, u 55, u 56, u 57, u 58, u 59, u 60, u 61, u 62, u 63, u 64, u 65, u 66, u 67, u 68, u 69, u 70, u 71, u 72, u 73, u 74, u 75, u 76, u 77, u 78, u 79, u 80, u 81, u 82, u 83, u 84, u 85, u 86, u 87, u 88, u 89, u 90, u 91, u 92, u 93, u 94, u 95, u 96, u 97, u 98, u 99, u 100, u 101, u 102, u 103, u 104, u 105, u 106, undef, undef, undef, undef, undef, undef, undef, undef, undef, undef, undef, undef, undef, undef, undef, undef, undef, undef, undef, undef, undef, undef, undef, undef, undef, undef, undef, undef, undef, undef, undef, undef, undef, undef, undef, undef, undef, undef, undef, undef, undef, undef, undef, undef, undef, undef, undef, undef, undef, undef, undef, undef, undef, undef, undef, undef, undef, undef, undef, undef, undef, undef, undef, undef, undef, undef, undef, undef, undef, undef, undef, undef, undef, undef, undef, undef, undef, undef, undef, undef, undef, undef, undef, undef, undef, undef, undef, undef], defers := [] }) ?_ ?_
          · refine wp_region_schedB (B := V6.heap.size) (fun X => X.cell? ⟨w.heap.size, 0, none⟩ = some (.slice x rs.length c) ∧ Turns (fun _ => False) V6 X) (.two [0, 1, 2, 3, 4] 5 (.one [6, 7, 8] 9 (.one [] 10 (.done [11]))) 9 (.one [] 5 (.one [6, 7, 8] 10 (.done [11])))) (by kernel_rfl) (by kernel_rfl) (fun _ _ _ _ _ h => by cases h.1) ⟨g0, (Turns.refl _ _).drew⟩ ?_
            rintro X ⟨x9, tX⟩
            have hBX : Below w.heap.size w X := hBV.trans (tX.below hBV.size (fun _ _ h => h))
            rw [wpSchedB]
            simp only [pick, List.map_cons, List.map_nil, Array.getD_eq_getD_getElem?, List.getElem?_toArray, List.getElem?_cons_succ, List.getElem?_cons_zero, Option.getD_some]
            have k9 := plusB_cell (B := V6.heap.size) x9 z0
            repeat (first | go_big_quiet_step (fail) | quiet_step (fail))
            refine wpQuiet_nil ?_
            clear k9 x9
            refine ⟨?_, ?_⟩
            · refine heavyB_want (by rfl) (fun K' hK' => ?_)
              go_simp
              refine (HA1.out X (hsV6.later_t tX) (ho.later hBX)).mono ?_
              rintro e X1 ⟨xx, cx, rx, rfl, hox, hmx, hb⟩
              refine hK' _ _ (hb.mono (by have := tX.size; omega)) ?_
              clear hK' K'
              have t1 : Turns (fun _ => False) V6 X1 := tX.trans (Turns.of_below hb (Nat.le_refl _))
              have hrx0 := hox.rws
              have HMX := Lib.hid hmx
              clear hb hox hmx
              try simp only [Act.put, List.setIfInBounds_toArray, List.set_cons_zero, List.set_cons_succ]
              rw [wpSchedB]
              simp only [pick, List.map_cons, List.map_nil, Array.getD_eq_getD_getElem?, List.getElem?_toArray, List.getElem?_cons_succ, List.getElem?_cons_zero, Option.getD_some]
              repeat (first | go_big_quiet_step (fail) | quiet_step (fail))
              refine wpQuiet_nil ?_
              refine heavyB_want (by rfl) (fun K' hK' => ?_)
              go_simp
              refine hK' _ _ ((Below.refl _ _).alloc (by have := t1.size; omega) _) ?_
              clear hK' K'
              try simp only [Act.put, List.setIfInBounds_toArray, List.set_cons_zero, List.set_cons_succ]
              rw [wpSchedB]
              simp only [pick, List.map_nil, Array.getD_eq_getD_getElem?, List.getElem?_toArray, List.getElem?_cons_succ, List.getElem?_cons_zero, Option.getD_some]
              refine wpQuiet_nil ?_
              obtain ⟨X2, hX2⟩ : ∃ Y, X1.alloc (.cells #[.slice none 0 0] 24) = Y := ⟨_, rfl⟩
              have n11 : X2.cell? ⟨X1.heap.size, 0, none⟩ = some (.slice none 0 0) := by rw [← hX2]; exact cell_new X1 _ _ _ 0
              have m11 : X2.frozen? ⟨X1.heap.size, 0, none⟩ = false := by rw [← hX2]; exact frozen_new X1 _ _ 0
              have t0' : Turns (fun _ => False) X1 X2 := by rw [← hX2]; exact (Turns.refl _ _).alloc _
              rw [hX2]
              clear hX2
              refine heavyB_want (by rfl) (fun K' hK' => ?_)
              go_simp
              refine hK' _ _ ((Below.refl _ _).setCell (p := ⟨X1.heap.size, 0, none⟩) (by have := t1.size; simp; omega) _) ?_
              clear hK' K'
              try simp only [Act.put, List.setIfInBounds_toArray, List.set_cons_zero, List.set_cons_succ]
              rw [wpSchedB]
              simp only [pick, List.map_cons, List.map_nil, Array.getD_eq_getD_getElem?, List.getElem?_toArray, List.getElem?_cons_succ, List.getElem?_cons_zero, Option.getD_some]
              repeat (first | go_big_quiet_step (fail) | quiet_step (fail))
              refine wpQuiet_nil ?_
              obtain ⟨Y, hY⟩ : ∃ Y, X2.setCell ⟨X1.heap.size, 0, none⟩ (.slice xx rx.length cx) = Y := ⟨_, rfl⟩
              have y11 : Y.cell? ⟨X1.heap.size, 0, none⟩ = some (.slice xx rx.length cx) := by rw [← hY]; exact World.cell?_setCell_same' _ _ _ (by rw [n11]; rfl)
              have tXY : Turns (fun _ => False) X1 Y := by rw [← hY]; exact Turns.setCell (p := ⟨X1.heap.size, 0, none⟩) t0' (fun h => absurd h (by simp)) _
              have HRX := Lib.hid (hrx0.later_t tXY)
              have tVY := t1.trans tXY
              rw [hY]
              exact ⟨trivial, tVY.below (Nat.le_refl _) (fun _ _ h => h), X1.heap.size, xx, cx, rx, y11, HRX.out, HMX.out, ex_frame (by kernel_rfl)⟩
            · refine heavyB_want (by rfl) (fun K' hK' => ?_)
              go_simp
              refine hK' _ _ ((Below.refl _ _).alloc (by have := tX.size; omega) _) ?_
              clear hK' K'
              try simp only [Act.put, List.setIfInBounds_toArray, List.set_cons_zero, List.set_cons_succ]
              rw [wpSchedB]
              simp only [pick, List.map_nil, Array.getD_eq_getD_getElem?, List.getElem?_toArray, List.getElem?_cons_succ, List.getElem?_cons_zero, Option.getD_some]
              refine wpQuiet_nil ?_
              obtain ⟨X0, hX0⟩ : ∃ Y, X.alloc (.cells #[.slice none 0 0] 24) = Y := ⟨_, rfl⟩
              have n11 : X0.cell? ⟨X.heap.size, 0, none⟩ = some (.slice none 0 0) := by rw [← hX0]; exact cell_new X _ _ _ 0
              have m11 : X0.frozen? ⟨X.heap.size, 0, none⟩ = false := by rw [← hX0]; exact frozen_new X _ _ 0
              have t0' : Turns (fun _ => False) V6 X0 := by rw [← hX0]; exact tX.alloc _
              rw [hX0]
              clear hX0
              refine heavyB_want (by rfl) (fun K' hK' => ?_)
              go_simp
              refine (HA1.out X0 (hsV6.later_t t0') (ho.later (hBV.trans (t0'.below hBV.size (fun _ _ h => h))))).mono ?_
              rintro e X1 ⟨xx, cx, rx, rfl, hox, hmx, hb⟩
              refine hK' _ _ (hb.mono (by have := t0'.size; omega)) ?_
              clear hK' K'
              have t1 : Turns (fun _ => False) V6 X1 := t0'.trans (Turns.of_below hb (Nat.le_refl _))
              have HOX := Lib.hid hox
              have HMX := Lib.hid hmx
              replace m11 := (Below.frozen hb (p := ⟨X.heap.size, 0, none⟩) (World.block_lt_of_cell? _ _ n11)).trans m11
              have hx0 : X.heap.size < X0.heap.size := World.block_lt_of_cell? _ _ n11
              replace n11 := later hb n11
              clear hb hox hmx
              try simp only [Act.put, List.setIfInBounds_toArray, List.set_cons_zero, List.set_cons_succ]
              rw [wpSchedB]
              simp only [pick, List.map_cons, List.map_nil, Array.getD_eq_getD_getElem?, List.getElem?_toArray, List.getElem?_cons_succ, List.getElem?_cons_zero, Option.getD_some]
              repeat (first | go_big_quiet_step (fail) | quiet_step (fail))
              refine wpQuiet_nil ?_
              refine heavyB_want (by rfl) (fun K' hK' => ?_)
              go_simp
              refine hK' _ _ ((Below.refl _ _).setCell (p := ⟨X.heap.size, 0, none⟩) (by have := tX.size; simp; omega) _) ?_
              clear hK' K'
              try simp only [Act.put, List.setIfInBounds_toArray, List.set_cons_zero, List.set_cons_succ]
              rw [wpSchedB]
              simp only [pick, List.map_cons, List.map_nil, Array.getD_eq_getD_getElem?, List.getElem?_toArray, List.getElem?_cons_succ, List.getElem?_cons_zero, Option.getD_some]
              repeat (first | go_big_quiet_step (fail) | quiet_step (fail))
              refine wpQuiet_nil ?_
              obtain ⟨Y, hY⟩ : ∃ Y, X1.setCell ⟨X.heap.size, 0, none⟩ (.slice xx rx.length cx) = Y := ⟨_, rfl⟩
              have y11 : Y.cell? ⟨X.heap.size, 0, none⟩ = some (.slice xx rx.length cx) := by rw [← hY]; exact World.cell?_setCell_same' _ _ _ (by rw [n11]; rfl)
              have tXY : Turns (fun b => b = X.heap.size) X1 Y := by rw [← hY]; exact (Turns.refl (fun b => b = X.heap.size) X1).setCell (p := ⟨X.heap.size, 0, none⟩) (fun _ => rfl) _
              have HRX := Lib.hid (HOX.out.turn tXY (fun b hb e => by have := (HOX.out.row.low b hb).1; omega) (fun r hr b hb e => by have := ((HOX.out.each r hr).low b hb).1; omega)).rws
              have tVY : Turns (fun _ => False) V6 Y := t1.trans' tXY (fun i hi e => by have := tX.size; omega)
              rw [hY]
              exact ⟨trivial, tVY.below (Nat.le_refl _) (fun _ _ h => h), X.heap.size, xx, cx, rx, y11, HRX.out, HMX.out, ex_frame (by kernel_rfl)⟩
          rintro a' V7 ⟨hb, b19, xc, cc, rc, v19, hrc, mrc, u19, rfl⟩
          have Mrc := Lib.hid mrc
          clear mrc
          replace g0 := later hb g0
          replace v7 := later hb v7
          replace hrh := hrh.later hb
          replace v10 := later hb v10
          replace hra := hra.later hb
          replace e0 := later hb e0
          replace e1 := later hb e1
          replace v15 := later hb v15
          replace hrp := hrp.later hb
          replace v17 := later hb v17
          replace hrq := hrq.later hb
          replace hBV := thru hBV hb
          clear hb
          have z19 : b19 < V7.heap.size := World.block_lt_of_cell? _ _ v19
          clear hsV6 z0
          go_wp2_with fail
          refine (HX2.out _ (hs.later hBV) (ho.later hBV)).mono ?_
          rintro e W8 ⟨xd, cd, rd, rfl, hord, mrd, hb⟩
          have hrd := hord.rws
          have Mrd := Lib.hid mrd
          clear hord mrd
          replace g0 := later hb g0
          replace v7 := later hb v7
          replace hrh := hrh.later hb
          replace v10 := later hb v10
          replace hra := hra.later hb
          replace e0 := later hb e0
          replace e1 := later hb e1
          replace v15 := later hb v15
          replace hrp := hrp.later hb
          replace v17 := later hb v17
          replace hrq := hrq.later hb
          replace v19 := later hb v19
          replace hrc := hrc.later hb
          replace hBV := thru hBV hb
          clear hb
          have q0 : w.heap.size < W8.heap.size := World.block_lt_of_cell? _ _ g0
          have qv7 : b7 < W8.heap.size := World.block_lt_of_cell? _ _ v7
          have qv10 : b10 < W8.heap.size := World.block_lt_of_cell? _ _ v10
          have qv15 : b15 < W8.heap.size := World.block_lt_of_cell? _ _ v15
          have qv17 : b17 < W8.heap.size := World.block_lt_of_cell? _ _ v17
          have qv19 : b19 < W8.heap.size := World.block_lt_of_cell? _ _ v19
          go_wp2_with fail
          have v21 : (W8.alloc (.cells #[.slice xd rd.length cd] 24)).cell? ⟨W8.heap.size, 0, none⟩ = some (.slice xd rd.length cd) := cell_new W8 _ _ _ 0
          have hb := al (Below.refl _ W8) (.cells #[.slice xd rd.length cd] 24)
          replace g0 := later hb g0
          replace v7 := later hb v7
          replace hrh := hrh.later hb
          replace v10 := later hb v10
          replace hra := hra.later hb
          replace e0 := later hb e0
          replace e1 := later hb e1
          replace v15 := later hb v15
          replace hrp := hrp.later hb
          replace v17 := later hb v17
          replace hrq := hrq.later hb
          replace v19 := later hb v19
          replace hrc := hrc.later hb
          replace hrd := hrd.later hb
          replace hBV := thru hBV hb
          clear hb
          obtain ⟨b21, hb21⟩ : ∃ b, W8.heap.size = b := ⟨_, rfl⟩
          obtain ⟨V8, hV⟩ : ∃ V, W8.alloc (.cells #[.slice xd rd.length cd] 24) = V := ⟨_, rfl⟩
          rw [hV] at g0 v7 hrh v10 hra e0 e1 v15 hrp v17 hrq v19 hrc hrd v21 hBV ⊢
          rw [hb21] at v21 ⊢
          clear hV hb21 q0 qv7 qv10 qv15 qv17 qv19
          have z21 : b21 < V8.heap.size := World.block_lt_of_cell? _ _ v21
          clear v21 z21 hrd Mrd
          refine (same_both _ hrp hra Mrp.out Mra.out (by rw [runL_len, List.length_map]; exact hr70)).mono ?_
          rintro e V9 ⟨rfl, hb⟩
          replace g0 := later hb g0
          replace v7 := later hb v7
          replace hrh := hrh.later hb
          replace v10 := later hb v10
          replace hra := hra.later hb
          replace e0 := later hb e0
          replace e1 := later hb e1
          replace v15 := later hb v15
          replace hrp := hrp.later hb
          replace v17 := later hb v17
          replace hrq := hrq.later hb
          replace v19 := later hb v19
          replace hrc := hrc.later hb
          replace hBV := thru hBV hb
          clear hb
          go_wp2_with fail
          refine (same_both _ hrq hrc Mrq.out Mrc.out (by rw [runL_len, List.length_map]; exact hr70)).mono ?_
          rintro e V10 ⟨rfl, hb⟩
          replace g0 := later hb g0
          replace v7 := later hb v7
          replace hrh := hrh.later hb
          replace v10 := later hb v10
          replace hra := hra.later hb
          replace e0 := later hb e0
          replace e1 := later hb e1
          replace v15 := later hb v15
          replace hrp := hrp.later hb
          replace v17 := later hb v17
          replace hrq := hrq.later hb
          replace v19 := later hb v19
          replace hrc := hrc.later hb
          replace hBV := thru hBV hb
          clear hb
          clear HX0 HX1 HX2 HA1 hpre1 v10 hra Mra v15 v17 v19 hrp hrq hrc Mrp Mrq Mrc
          go_wp2_with fail
          by_cases hno1 : n + 1 < os.length
          · have d2 : decide ((n : Int) + 1 < (os.length : Int)) = true := decide_eq_true (by omega)
            obtain ⟨b9, o9, hy9, f0, -, -, -⟩ := (ho.later hBV).at (n + 1) hno1
            cases hy9
            have p4 : (0 : Int) ≤ (n : Int) + 1 := by omega
            have p5 : (n : Int) + 1 < (os.length : Int) := by omega
            have p6 : n + 1 < os.length := hno1
            refine wp_region_sched (fun X => X.cell? ⟨b0, o0 + n * 3, none⟩ = some (.int .i64 (os.getD n op0).blk) ∧ X.cell? ⟨b0, o0 + (n + 1) * 3, none⟩ = some (.int .i64 (os.getD (n + 1) op0).blk) ∧ Turns (fun _ => False) V10 X) (.done [0, 1, 2, 3, 4, 5, 6, 7, 8, 9, 10, 11, 12, 13, 14, 15, 16, 17, 18]) (by kernel_rfl) (by kernel_rfl) (fun _ _ _ _ _ h => h) ⟨e0, f0, (Turns.refl _ _).drew⟩ ?_
            clear f0 e0 e1
            rintro X ⟨x9, x8, tX⟩
            have hb : Below V10.heap.size V10 X := tX.below (Nat.le_refl _) (fun _ _ h => h)
            replace g0 := later hb g0
            replace v7 := later hb v7
            replace hrh := hrh.later hb
            replace hBV := thru hBV hb
            clear hb tX
            rw [wpSched]
            simp only [pick, List.map_cons, List.map_nil, Array.getD_eq_getD_getElem?, List.getElem?_toArray, List.getElem?_cons_succ, List.getElem?_cons_zero, Option.getD_some]
            have k9 := plusW_cell x9
            have k8 := plusW_cell x8
            repeat (first | go_big_quiet_step (fail) | quiet_step (fail))
            refine wpQuiet_nil ?_
            clear k9 k8 x9 x8
            obtain ⟨q, hq⟩ : ∃ q, (os[n].blk != os[n + 1].blk) = q := ⟨_, rfl⟩
            rw [hq]
            cases q
            · go_wp2_with fail
              refine (awake_any _).mono ?_
              rintro e w' ⟨rfl, hb⟩
              go_wp2_with fail
              go_ret
              exact ⟨rfl, thru hBV hb⟩
            · have hne : (os.getD n op0).blk ≠ (os.getD (n + 1) op0).blk := by simpa [hno, hno1] using hq
              have hc0 := (ho.later hBV).cellsO
              have hol : os.length ≤ 100000 := by omega
              clear hq
              go_wp2_with (at_builtin; (refine wpList_appOs rfl (.tmp 161) (.tmp 162) rfl (B := X.heap.size) (xa := some ⟨X.heap.size, 0, none⟩) (cap := 0) (OwnsO.whole0 _ _ X (Nat.le_refl _) rfl) rfl (b := b0) (q := o0) (c := cy) (os := os) rfl (hc0.later (al (Below.refl _ X) _)) hol (by simp) ?_); intro xo co Y hoy hb; refine Hid.out ?_)
              unfold Hid
              have hXY := (al (Below.refl _ X) (.cells #[] 31)).trans hb
              clear hb hc0
              obtain ⟨g, rfl, hg1, hg2⟩ := hoy.some_of (by omega : 0 < os.length)
              have HC := Lib.hid hoy.cellsO
              have hco := hoy.le_cap
              obtain ⟨c0, c1, c2⟩ := hoy.cellsO n hno
              obtain ⟨k0, k1, k2⟩ := hoy.cellsO (n + 1) hno1
              rw [Nat.zero_add] at c0 c1 c2 k0 k1 k2
              have HFZ : Hid (∀ i, Y.frozen? ⟨g, i, none⟩ = false) := fun i => hoy.free i
              have f0 := HFZ.out (n * 3)
              have f1 := HFZ.out (n * 3 + 1)
              have f2 := HFZ.out (n * 3 + 2)
              have f3 := HFZ.out ((n + 1) * 3)
              have f4 := HFZ.out ((n + 1) * 3 + 1)
              have f5 := HFZ.out ((n + 1) * 3 + 2)
              clear hoy HFZ
              obtain ⟨A, hA⟩ : ∃ A, os.getD n op0 = A := ⟨_, rfl⟩
              obtain ⟨E, hE⟩ : ∃ A, os.getD (n + 1) op0 = A := ⟨_, rfl⟩
              rw [hA] at c0 c1 c2
              rw [hE] at k0 k1 k2
              have HA2 := Lib.hid hA
              have HE2 := Lib.hid hE
              have HSW := Lib.hid (swap_call (x := x) (c := c) hr70 hl0 ho20 hv hno1 hne g co hco)
              clear hA hE hne
              go_wp2_with fail
              go_region_with (fail)
              all_goals (
                obtain ⟨Z0, hZ0⟩ : ∃ Z, ((((((Y.setCell ⟨g, n * 3, none⟩ (.int .i64 E.blk)).setCell ⟨g, n * 3 + 1, none⟩ (.bool E.er)).setCell ⟨g, n * 3 + 2, none⟩ (.slice E.x E.d.length E.c)).setCell ⟨g, (n + 1) * 3, none⟩ (.int .i64 A.blk)).setCell ⟨g, (n + 1) * 3 + 1, none⟩ (.bool A.er)).setCell ⟨g, (n + 1) * 3 + 2, none⟩ (.slice A.x A.d.length A.c)) = Z := ⟨_, rfl⟩
                have hc := (HC.out.set n hno E).set (n + 1) (by rw [List.length_set]; exact hno1) A
                have hXZ : Below X.heap.size X Z0 := by rw [← hZ0]; exact ((((((hXY.setCell (p := ⟨g, _, none⟩) hg1 _).setCell (p := ⟨g, _, none⟩) hg1 _).setCell (p := ⟨g, _, none⟩) hg1 _).setCell (p := ⟨g, _, none⟩) hg1 _).setCell (p := ⟨g, _, none⟩) hg1 _).setCell (p := ⟨g, _, none⟩) hg1 _)
                rw [hZ0] at hc ⊢
                obtain ⟨Z, hZ⟩ : ∃ Z, Z0.drew = Z := ⟨_, rfl⟩
                replace hc : CellsO Z g 0 ((os.set n E).set (n + 1) A) := by rw [← hZ]; exact hc.later (Below.refl _ Z0).drew
                replace hXZ : Below X.heap.size X Z := by rw [← hZ]; exact hXZ.drew
                rw [hZ]
                rw [← HE2.out, ← HA2.out] at hc
                replace g0 := later hXZ g0
                replace v7 := later hXZ v7
                replace hrh := hrh.later hXZ
                replace hBV := thru hBV hXZ
                have hops : Ops Z (some ⟨g, 0, none⟩) (swapO os n) := CellsO.ops hc (fun q hq => (ho.2 q (swapO_mem os n hno1 q hq)).later hBV)
                clear hZ0 hZ hXZ hXY hc HC c0 c1 c2 k0 k1 k2 f0 f1 f2 f3 f4 f5 HA2 HE2
                go_wp2_with fail
                refine (HSW.out _ (hs.later hBV) hops).mono ?_
                rintro e W11 ⟨xz, cz, rz, rfl, horz, mrz, hb⟩
                have hrz := horz.rws
                have Mrz := Lib.hid mrz
                clear horz mrz
                replace g0 := later hb g0
                replace v7 := later hb v7
                replace hrh := hrh.later hb
                replace hBV := thru hBV hb
                clear hb
                have q0 : w.heap.size < W11.heap.size := World.block_lt_of_cell? _ _ g0
                have qv7 : b7 < W11.heap.size := World.block_lt_of_cell? _ _ v7
                go_wp2_with fail
                have v24 : (W11.alloc (.cells #[.slice xz rz.length cz] 24)).cell? ⟨W11.heap.size, 0, none⟩ = some (.slice xz rz.length cz) := cell_new W11 _ _ _ 0
                have hb := al (Below.refl _ W11) (.cells #[.slice xz rz.length cz] 24)
                replace g0 := later hb g0
                replace v7 := later hb v7
                replace hrh := hrh.later hb
                replace hrz := hrz.later hb
                replace hBV := thru hBV hb
                clear hb
                obtain ⟨b24, hb24⟩ : ∃ b, W11.heap.size = b := ⟨_, rfl⟩
                obtain ⟨V11, hV⟩ : ∃ V, W11.alloc (.cells #[.slice xz rz.length cz] 24) = V := ⟨_, rfl⟩
                rw [hV] at g0 v7 hrh hrz v24 hBV ⊢
                rw [hb24] at v24 ⊢
                clear hV hb24 q0 qv7
                have z24 : b24 < V11.heap.size := World.block_lt_of_cell? _ _ v24
                refine (same_both _ hrz hrh Mrz.out HMH.out (by rw [runL_len, List.length_map]; exact hr70)).mono ?_
                rintro e V12 ⟨rfl, hb⟩
                replace hBV := thru hBV hb
                clear hb
                go_wp2_with fail
                refine (awake_any _).mono ?_
                rintro e w' ⟨rfl, hb⟩
                go_wp2_with fail
                go_ret
                exact ⟨rfl, thru hBV hb⟩
                )
          · have d2 : decide ((n : Int) + 1 < (os.length : Int)) = false := decide_eq_false (by omega)
            refine wp_region_sched (fun X => True ∧ Turns (fun _ => False) V10 X) (.done [0, 1, 2, 3, 4, 5, 6, 7, 8, 9, 10, 11, 12, 13, 14, 15, 16, 17, 18]) (by kernel_rfl) (by kernel_rfl) (fun _ _ _ _ _ h => h) ⟨trivial, (Turns.refl _ _).drew⟩ ?_
            rintro X ⟨-, tX⟩
            have hb : Below V10.heap.size V10 X := tX.below (Nat.le_refl _) (fun _ _ h => h)
            replace hBV := thru hBV hb
            clear hb tX
            rw [wpSched]
            simp only [pick, List.map_cons, List.map_nil, Array.getD_eq_getD_getElem?, List.getElem?_toArray, List.getElem?_cons_succ, List.getElem?_cons_zero, Option.getD_some]
            repeat (first | go_big_quiet_step (fail) | quiet_step (fail))
            refine wpQuiet_nil ?_
            go_wp2_with fail
            refine (awake_any _).mono ?_
            rintro e w' ⟨rfl, hb⟩
            go_wp2_with fail
            go_ret
            exact ⟨rfl, thru hBV hb⟩
        · have HX0 : Hid (∀ W, Rws W x rs → Ops W (some ⟨b0, o0, none⟩) os → Calls Try.prog 16 #[.agg #[.slice x rs.length c], .slice (some ⟨b0, o0, none⟩) os.length cy, .int .i64 (n : Int), .int .i64 0] W (ErrOf (runL (rs.map (·.l)) (os.take n)) 0 W)) := fun W h1 h2 => by
            have := cut_good (x := x) (c := c) hr70 hl0 hyn ho20 hcy hv hno 0 (Nat.zero_le _) W h1 h2
            rw [cutL_zero] at this
            exact this
          have HX1 : Hid (∀ W, Rws W x rs → Ops W (some ⟨b0, o0, none⟩) os → Calls Try.prog 16 #[.agg #[.slice x rs.length c], .slice (some ⟨b0, o0, none⟩) os.length cy, .int .i64 (n : Int), .int .i64 54] W (ErrOf (runL (rs.map (·.l)) (os.take (n + 1))) 0 W)) := fun W h1 h2 => by
            have := cut_good (x := x) (c := c) hr70 hl0 hyn ho20 hcy hv hno (lenO (os.getD n op0).er) (Nat.le_refl _) W h1 h2
            rw [cutL_end _ _ _ hno, her] at this
            exact this
          have HX2 : Hid (∀ W, Rws W x rs → Ops W (some ⟨b0, o0, none⟩) os → Calls Try.prog 16 #[.agg #[.slice x rs.length c], .slice (some ⟨b0, o0, none⟩) os.length cy, .int .i64 (n : Int), .int .i64 55] W (ErrOf (rs.map (·.l)) 2 W)) := fun W h1 h2 => by
            have := cut_over (x := x) (n := n) (c := c) hr70 hl0 hyn ho20 hcy 55 (by rw [her]; decide) W h1 h2
            exact this
          have HA1 := Lib.hid (run_take (x := x) (c := c) hr70 hl0 hyn ho20 hcy hv (show n + 1 ≤ os.length from hno))
          have hpre1 : ∀ W : World, (Instr.slice 26 (.slice (some ⟨b0, o0, none⟩) os.length cy) none (some (.int .i64 ((n : Int) + 1))) none).run Try.prog W = .ok (.slice (some ⟨b0, o0, none⟩) (n + 1) cy) W := run_pre (some ⟨b0, o0, none⟩) os.length cy (n + 1) (by omega)
          have hw1 : IntKind.i64.wrap ((n : Int) + 1) = (n : Int) + 1 := wrap64_of _ (by omega)
          rw [her] at e1
          clear hpre HA
          go_wp2_with fail
          refine (HX0.out _ (hs.later hBV) (ho.later hBV)).mono ?_
          rintro e W5 ⟨xp, cp, rp, rfl, horp, mrp, hb⟩
          have hrp := horp.rws
          have Mrp := Lib.hid mrp
          clear horp mrp
          replace g0 := later hb g0
          replace v7 := later hb v7
          replace hrh := hrh.later hb
          replace v10 := later hb v10
          replace hra := hra.later hb
          replace e0 := later hb e0
          replace e1 := later hb e1
          replace hBV := thru hBV hb
          clear hb
          have q0 : w.heap.size < W5.heap.size := World.block_lt_of_cell? _ _ g0
          have qv7 : b7 < W5.heap.size := World.block_lt_of_cell? _ _ v7
          have qv10 : b10 < W5.heap.size := World.block_lt_of_cell? _ _ v10
          go_wp2_with fail
          have v15 : (W5.alloc (.cells #[.slice xp rp.length cp] 24)).cell? ⟨W5.heap.size, 0, none⟩ = some (.slice xp rp.length cp) := cell_new W5 _ _ _ 0
          have hb := al (Below.refl _ W5) (.cells #[.slice xp rp.length cp] 24)
          replace g0 := later hb g0
          replace v7 := later hb v7
          replace hrh := hrh.later hb
          replace v10 := later hb v10
          replace hra := hra.later hb
          replace e0 := later hb e0
          replace e1 := later hb e1
          replace hrp := hrp.later hb
          replace hBV := thru hBV hb
          clear hb
          obtain ⟨b15, hb15⟩ : ∃ b, W5.heap.size = b := ⟨_, rfl⟩
          obtain ⟨V5, hV⟩ : ∃ V, W5.alloc (.cells #[.slice xp rp.length cp] 24) = V := ⟨_, rfl⟩
          rw [hV] at g0 v7 hrh v10 hra e0 e1 hrp v15 hBV ⊢
          rw [hb15] at v15 ⊢
          clear hV hb15 q0 qv7 qv10
          have z15 : b15 < V5.heap.size := World.block_lt_of_cell? _ _ v15
          refine (HX1.out _ (hs.later hBV) (ho.later hBV)).mono ?_
          rintro e W6 ⟨xq, cq, rq, rfl, horq, mrq, hb⟩
          have hrq := horq.rws
          have Mrq := Lib.hid mrq
          clear horq mrq
          replace g0 := later hb g0
          replace v7 := later hb v7
          replace hrh := hrh.later hb
          replace v10 := later hb v10
          replace hra := hra.later hb
          replace e0 := later hb e0
          replace e1 := later hb e1
          replace v15 := later hb v15
          replace hrp := hrp.later hb
          replace hBV := thru hBV hb
          clear hb
          have q0 : w.heap.size < W6.heap.size := World.block_lt_of_cell? _ _ g0
          have qv7 : b7 < W6.heap.size := World.block_lt_of_cell? _ _ v7
          have qv10 : b10 < W6.heap.size := World.block_lt_of_cell? _ _ v10
          have qv15 : b15 < W6.heap.size := World.block_lt_of_cell? _ _ v15
          go_wp2_with fail
          have v17 : (W6.alloc (.cells #[.slice xq rq.length cq] 24)).cell? ⟨W6.heap.size, 0, none⟩ = some (.slice xq rq.length cq) := cell_new W6 _ _ _ 0
          have hb := al (Below.refl _ W6) (.cells #[.slice xq rq.length cq] 24)
          replace g0 := later hb g0
          replace v7 := later hb v7
          replace hrh := hrh.later hb
          replace v10 := later hb v10
          replace hra := hra.later hb
          replace e0 := later hb e0
          replace e1 := later hb e1
          replace v15 := later hb v15
          replace hrp := hrp.later hb
          replace hrq := hrq.later hb
          replace hBV := thru hBV hb
          clear hb
          obtain ⟨b17, hb17⟩ : ∃ b, W6.heap.size = b := ⟨_, rfl⟩
          obtain ⟨V6, hV⟩ : ∃ V, W6.alloc (.cells #[.slice xq rq.length cq] 24) = V := ⟨_, rfl⟩
          rw [hV] at g0 v7 hrh v10 hra e0 e1 v15 hrp hrq v17 hBV ⊢
          rw [hb17] at v17 ⊢
          clear hV hb17 q0 qv7 qv10 qv15
          have z17 : b17 < V6.heap.size := World.block_lt_of_cell? _ _ v17
          have hsV6 := hs.later hBV
          have z0 : w.heap.size < V6.heap.size := World.block_lt_of_cell? _ _ g0
          refine wp_cut (fun a' w' => Below V6.heap.size V6 w' ∧ ∃ (b19 : Nat) (xc : Option Addr) (cc : Nat) (rc : List Rw), w'.cell? ⟨b19, 0, none⟩ = some (.slice xc rc.length cc) ∧ Rws w' xc rc ∧ rc.map (·.l) = runL (rs.map (·.l)) (os.take (n + 1)) ∧ ∃ u : Nat → Value, a' = { tmps := #[.agg #[.slice x rs.length c], .slice (some ⟨b0, o0, none⟩) os.length cy, .int .u8 (t0.toNat : Int), .pointer (some ⟨w.heap.size, 0, none⟩), undef, undef, .bool false, .pointer (some ⟨b7, 0, none⟩), .int .i64 0, .int .i64 (n : Int), .pointer (some ⟨b10, 0, none⟩), .int .i64 0, .pointer (some ⟨b12, 0, none⟩), .int .i64 0, .int .i64 54, .pointer (some ⟨b15, 0, none⟩), .int .i64 0, .pointer (some ⟨b17, 0, none⟩), .int .i64 0, .pointer (some ⟨b19, 0, none⟩), .int .i64 0, undef, undef, undef, undef, undef, u 26, u 27, u 28, u 29, u 30, u 31, u 32, u 33, u 34, u 35, u 36, u 37, u 38, u 39, u 40, u 41, u 42, u 43, u 44, u 45, u 46, u 47, u 48, u 49, u 50, u 51, u 52, u 53, u 54, u 55, u 56, u 57, u 58, u 59, u 60, u 61, u 62, u 63, u 64, u 65, u 66, u 67, u 68, u 69, u 70, u 71, u 72, u 73, u 74, u 75, u 76, u 77, u 78, u 79, u 80, u 81, u 82, u 83, u 84, u 85, u 86, u 87, u 88, u 89, u 90, u 91, u 92, u 93, u 94, u 95, u 96, u 97, u 98, u 99, u 100, u 101, u 102, u 103, u 104, u 105, u 106, undef, undef, undef, undef, undef, undef, undef, undef, undef, undef, undef, undef, undef, undef, undef, undef, undef, undef, undef, undef, undef, undef, undef, undef, undef, undef, undef, undef, undef, undef, undef, undef, undef, undef, undef, undef, undef, undef, undef, undef, undef, undef, undef, undef, undef, undef, undef, undef, undef, undef, undef, undef, undef, undef, undef, undef, undef, undef, undef, undef, undef, undef, undef, undef, undef, undef, undef, undef, undef, undef, undef, undef, undef, undef, undef, undef, undef, undef, undef, undef, undef, undef, undef, undef, undef, undef, undef, undef], defers := [] }) ?_ ?_
          · refine wp_region_schedB (B := V6.heap.size) (fun X => X.cell? ⟨w.heap.size, 0, none⟩ = some (.slice x rs.length c) ∧ Turns (fun _ => False) V6 X) (.two [0, 1, 2, 3, 4] 5 (.one [6, 7, 8] 9 (.one [] 10 (.done [11]))) 9 (.one [] 5 (.one [6, 7, 8] 10 (.done [11])))) (by kernel_rfl) (by kernel_rfl) (fun _ _ _ _ _ h => by cases h.1) ⟨g0, (Turns.refl _ _).drew⟩ ?_
            rintro X ⟨x9, tX⟩
            have hBX : Below w.heap.size w X := hBV.trans (tX.below hBV.size (fun _ _ h => h))
            rw [wpSchedB]
            simp only [pick, List.map_cons, List.map_nil, Array.getD_eq_getD_getElem?, List.getElem?_toArray, List.getElem?_cons_succ, List.getElem?_cons_zero, Option.getD_some]
            have k9 := plusB_cell (B := V6.heap.size) x9 z0
            repeat (first | go_big_quiet_step (fail) | quiet_step (fail))
            refine wpQuiet_nil ?_
            clear k9 x9
            refine ⟨?_, ?_⟩
            · refine heavyB_want (by rfl) (fun K' hK' => ?_)
              go_simp
              refine (HA1.out X (hsV6.later_t tX) (ho.later hBX)).mono ?_
              rintro e X1 ⟨xx, cx, rx, rfl, hox, hmx, hb⟩
              refine hK' _ _ (hb.mono (by have := tX.size; omega)) ?_
              clear hK' K'
              have t1 : Turns (fun _ => False) V6 X1 := tX.trans (Turns.of_below hb (Nat.le_refl _))
              have hrx0 := hox.rws
              have HMX := Lib.hid hmx
              clear hb hox hmx
              try simp only [Act.put, List.setIfInBounds_toArray, List.set_cons_zero, List.set_cons_succ]
              rw [wpSchedB]
              simp only [pick, List.map_cons, List.map_nil, Array.getD_eq_getD_getElem?, List.getElem?_toArray, List.getElem?_cons_succ, List.getElem?_cons_zero, Option.getD_some]
              repeat (first | go_big_quiet_step (fail) | quiet_step (fail))
              refine wpQuiet_nil ?_
              refine heavyB_want (by rfl) (fun K' hK' => ?_)
              go_simp
              refine hK' _ _ ((Below.refl _ _).alloc (by have := t1.size; omega) _) ?_
              clear hK' K'
              try simp only [Act.put, List.setIfInBounds_toArray, List.set_cons_zero, List.set_cons_succ]
              rw [wpSchedB]
              simp only [pick, List.map_nil, Array.getD_eq_getD_getElem?, List.getElem?_toArray, List.getElem?_cons_succ, List.getElem?_cons_zero, Option.getD_some]
              refine wpQuiet_nil ?_
              obtain ⟨X2, hX2⟩ : ∃ Y, X1.alloc (.cells #[.slice none 0 0] 24) = Y := ⟨_, rfl⟩
              have n11 : X2.cell? ⟨X1.heap.size, 0, none⟩ = some (.slice none 0 0) := by rw [← hX2]; exact cell_new X1 _ _ _ 0
              have m11 : X2.frozen? ⟨X1.heap.size, 0, none⟩ = false := by rw [← hX2]; exact frozen_new X1 _ _ 0
              have t0' : Turns (fun _ => False) X1 X2 := by rw [← hX2]; exact (Turns.refl _ _).alloc _
              rw [hX2]
              clear hX2
              refine heavyB_want (by rfl) (fun K' hK' => ?_)
              go_simp
              refine hK' _ _ ((Below.refl _ _).setCell (p := ⟨X1.heap.size, 0, none⟩) (by have := t1.size; simp; omega) _) ?_
              clear hK' K'
              try simp only [Act.put, List.setIfInBounds_toArray, List.set_cons_zero, List.set_cons_succ]
              rw [wpSchedB]
              simp only [pick, List.map_cons, List.map_nil, Array.getD_eq_getD_getElem?, List.getElem?_toArray, List.getElem?_cons_succ, List.getElem?_cons_zero, Option.getD_some]
              repeat (first | go_big_quiet_step (fail) | quiet_step (fail))
              refine wpQuiet_nil ?_
              obtain ⟨Y, hY⟩ : ∃ Y, X2.setCell ⟨X1.heap.size, 0, none⟩ (.slice xx rx.length cx) = Y := ⟨_, rfl⟩
              have y11 : Y.cell? ⟨X1.heap.size, 0, none⟩ = some (.slice xx rx.length cx) := by rw [← hY]; exact World.cell?_setCell_same' _ _ _ (by rw [n11]; rfl)
              have tXY : Turns (fun _ => False) X1 Y := by rw [← hY]; exact Turns.setCell (p := ⟨X1.heap.size, 0, none⟩) t0' (fun h => absurd h (by simp)) _
              have HRX := Lib.hid (hrx0.later_t tXY)
              have tVY := t1.trans tXY
              rw [hY]
              exact ⟨trivial, tVY.below (Nat.le_refl _) (fun _ _ h => h), X1.heap.size, xx, cx, rx, y11, HRX.out, HMX.out, ex_frame (by kernel_rfl)⟩
            · refine heavyB_want (by rfl) (fun K' hK' => ?_)
              go_simp
              refine hK' _ _ ((Below.refl _ _).alloc (by have := tX.size; omega) _) ?_
              clear hK' K'
              try simp only [Act.put, List.setIfInBounds_toArray, List.set_cons_zero, List.set_cons_succ]
              rw [wpSchedB]
              simp only [pick, List.map_nil, Array.getD_eq_getD_getElem?, List.getElem?_toArray, List.getElem?_cons_succ, List.getElem?_cons_zero, Option.getD_some]
              refine wpQuiet_nil ?_
              obtain ⟨X0, hX0⟩ : ∃ Y, X.alloc (.cells #[.slice none 0 0] 24) = Y := ⟨_, rfl⟩
              have n11 : X0.cell? ⟨X.heap.size, 0, none⟩ = some (.slice none 0 0) := by rw [← hX0]; exact cell_new X _ _ _ 0
              have m11 : X0.frozen? ⟨X.heap.size, 0, none⟩ = false := by rw [← hX0]; exact frozen_new X _ _ 0
              have t0' : Turns (fun _ => False) V6 X0 := by rw [← hX0]; exact tX.alloc _
              rw [hX0]
              clear hX0
              refine heavyB_want (by rfl) (fun K' hK' => ?_)
              go_simp
              refine (HA1.out X0 (hsV6.later_t t0') (ho.later (hBV.trans (t0'.below hBV.size (fun _ _ h => h))))).mono ?_
              rintro e X1 ⟨xx, cx, rx, rfl, hox, hmx, hb⟩
              refine hK' _ _ (hb.mono (by have := t0'.size; omega)) ?_
              clear hK' K'
              have t1 : Turns (fun _ => False) V6 X1 := t0'.trans (Turns.of_below hb (Nat.le_refl _))
              have HOX := Lib.hid hox
              have HMX := Lib.hid hmx
              replace m11 := (Below.frozen hb (p := ⟨X.heap.size, 0, none⟩) (World.block_lt_of_cell? _ _ n11)).trans m11
              have hx0 : X.heap.size < X0.heap.size := World.block_lt_of_cell? _ _ n11
              replace n11 := later hb n11
              clear hb hox hmx
              try simp only [Act.put, List.setIfInBounds_toArray, List.set_cons_zero, List.set_cons_succ]
              rw [wpSchedB]
              simp only [pick, List.map_cons, List.map_nil, Array.getD_eq_getD_getElem?, List.getElem?_toArray, List.getElem?_cons_succ, List.getElem?_cons_zero, Option.getD_some]
              repeat (first | go_big_quiet_step (fail) | quiet_step (fail))
              refine wpQuiet_nil ?_
              refine heavyB_want (by rfl) (fun K' hK' => ?_)
              go_simp
              refine hK' _ _ ((Below.refl _ _).setCell (p := ⟨X.heap.size, 0, none⟩) (by have := tX.size; simp; omega) _) ?_
              clear hK' K'
              try simp only [Act.put, List.setIfInBounds_toArray, List.set_cons_zero, List.set_cons_succ]
              rw [wpSchedB]
              simp only [pick, List.map_cons, List.map_nil, Array.getD_eq_getD_getElem?, List.getElem?_toArray, List.getElem?_cons_succ, List.getElem?_cons_zero, Option.getD_some]
              repeat (first | go_big_quiet_step (fail) | quiet_step (fail))
              refine wpQuiet_nil ?_
              obtain ⟨Y, hY⟩ : ∃ Y, X1.setCell ⟨X.heap.size, 0, none⟩ (.slice xx rx.length cx) = Y := ⟨_, rfl⟩
              have y11 : Y.cell? ⟨X.heap.size, 0, none⟩ = some (.slice xx rx.length cx) := by rw [← hY]; exact World.cell?_setCell_same' _ _ _ (by rw [n11]; rfl)
              have tXY : Turns (fun b => b = X.heap.size) X1 Y := by rw [← hY]; exact (Turns.refl (fun b => b = X.heap.size) X1).setCell (p := ⟨X.heap.size, 0, none⟩) (fun _ => rfl) _
              have HRX := Lib.hid (HOX.out.turn tXY (fun b hb e => by have := (HOX.out.row.low b hb).1; omega) (fun r hr b hb e => by have := ((HOX.out.each r hr).low b hb).1; omega)).rws
              have tVY : Turns (fun _ => False) V6 Y := t1.trans' tXY (fun i hi e => by have := tX.size; omega)
              rw [hY]
              exact ⟨trivial, tVY.below (Nat.le_refl _) (fun _ _ h => h), X.heap.size, xx, cx, rx, y11, HRX.out, HMX.out, ex_frame (by kernel_rfl)⟩
          rintro a' V7 ⟨hb, b19, xc, cc, rc, v19, hrc, mrc, u19, rfl⟩
          have Mrc := Lib.hid mrc
          clear mrc
          replace g0 := later hb g0
          replace v7 := later hb v7
          replace hrh := hrh.later hb
          replace v10 := later hb v10
          replace hra := hra.later hb
          replace e0 := later hb e0
          replace e1 := later hb e1
          replace v15 := later hb v15
          replace hrp := hrp.later hb
          replace v17 := later hb v17
          replace hrq := hrq.later hb
          replace hBV := thru hBV hb
          clear hb
          have z19 : b19 < V7.heap.size := World.block_lt_of_cell? _ _ v19
          clear hsV6 z0
          go_wp2_with fail
          refine (HX2.out _ (hs.later hBV) (ho.later hBV)).mono ?_
          rintro e W8 ⟨xd, cd, rd, rfl, hord, mrd, hb⟩
          have hrd := hord.rws
          have Mrd := Lib.hid mrd
          clear hord mrd
          replace g0 := later hb g0
          replace v7 := later hb v7
          replace hrh := hrh.later hb
          replace v10 := later hb v10
          replace hra := hra.later hb
          replace e0 := later hb e0
          replace e1 := later hb e1
          replace v15 := later hb v15
          replace hrp := hrp.later hb
          replace v17 := later hb v17
          replace hrq := hrq.later hb
          replace v19 := later hb v19
          replace hrc := hrc.later hb
          replace hBV := thru hBV hb
          clear hb
          have q0 : w.heap.size < W8.heap.size := World.block_lt_of_cell? _ _ g0
          have qv7 : b7 < W8.heap.size := World.block_lt_of_cell? _ _ v7
          have qv10 : b10 < W8.heap.size := World.block_lt_of_cell? _ _ v10
          have qv15 : b15 < W8.heap.size := World.block_lt_of_cell? _ _ v15
          have qv17 : b17 < W8.heap.size := World.block_lt_of_cell? _ _ v17
          have qv19 : b19 < W8.heap.size := World.block_lt_of_cell? _ _ v19
          go_wp2_with fail
          have v21 : (W8.alloc (.cells #[.slice xd rd.length cd] 24)).cell? ⟨W8.heap.size, 0, none⟩ = some (.slice xd rd.length cd) := cell_new W8 _ _ _ 0
          have hb := al (Below.refl _ W8) (.cells #[.slice xd rd.length cd] 24)
          replace g0 := later hb g0
          replace v7 := later hb v7
          replace hrh := hrh.later hb
          replace v10 := later hb v10
          replace hra := hra.later hb
          replace e0 := later hb e0
          replace e1 := later hb e1
          replace v15 := later hb v15
          replace hrp := hrp.later hb
          replace v17 := later hb v17
          replace hrq := hrq.later hb
          replace v19 := later hb v19
          replace hrc := hrc.later hb
          replace hrd := hrd.later hb
          replace hBV := thru hBV hb
          clear hb
          obtain ⟨b21, hb21⟩ : ∃ b, W8.heap.size = b := ⟨_, rfl⟩
          obtain ⟨V8, hV⟩ : ∃ V, W8.alloc (.cells #[.slice xd rd.length cd] 24) = V := ⟨_, rfl⟩
          rw [hV] at g0 v7 hrh v10 hra e0 e1 v15 hrp v17 hrq v19 hrc hrd v21 hBV ⊢
          rw [hb21] at v21 ⊢
          clear hV hb21 q0 qv7 qv10 qv15 qv17 qv19
          have z21 : b21 < V8.heap.size := World.block_lt_of_cell? _ _ v21
          clear v21 z21 hrd Mrd
          refine (same_both _ hrp hra Mrp.out Mra.out (by rw [runL_len, List.length_map]; exact hr70)).mono ?_
          rintro e V9 ⟨rfl, hb⟩
          replace g0 := later hb g0
          replace v7 := later hb v7
          replace hrh := hrh.later hb
          replace v10 := later hb v10
          replace hra := hra.later hb
          replace e0 := later hb e0
          replace e1 := later hb e1
          replace v15 := later hb v15
          replace hrp := hrp.later hb
          replace v17 := later hb v17
          replace hrq := hrq.later hb
          replace v19 := later hb v19
          replace hrc := hrc.later hb
          replace hBV := thru hBV hb
          clear hb
          go_wp2_with fail
          refine (same_both _ hrq hrc Mrq.out Mrc.out (by rw [runL_len, List.length_map]; exact hr70)).mono ?_
          rintro e V10 ⟨rfl, hb⟩
          replace g0 := later hb g0
          replace v7 := later hb v7
          replace hrh := hrh.later hb
          replace v10 := later hb v10
          replace hra := hra.later hb
          replace e0 := later hb e0
          replace e1 := later hb e1
          replace v15 := later hb v15
          replace hrp := hrp.later hb
          replace v17 := later hb v17
          replace hrq := hrq.later hb
          replace v19 := later hb v19
          replace hrc := hrc.later hb
          replace hBV := thru hBV hb
          clear hb
          clear HX0 HX1 HX2 HA1 hpre1 v10 hra Mra v15 v17 v19 hrp hrq hrc Mrp Mrq Mrc
          go_wp2_with fail
          by_cases hno1 : n + 1 < os.length
          · have d2 : decide ((n : Int) + 1 < (os.length : Int)) = true := decide_eq_true (by omega)
            obtain ⟨b9, o9, hy9, f0, -, -, -⟩ := (ho.later hBV).at (n + 1) hno1
            cases hy9
            have p4 : (0 : Int) ≤ (n : Int) + 1 := by omega
            have p5 : (n : Int) + 1 < (os.length : Int) := by omega
            have p6 : n + 1 < os.length := hno1
            refine wp_region_sched (fun X => X.cell? ⟨b0, o0 + n * 3, none⟩ = some (.int .i64 (os.getD n op0).blk) ∧ X.cell? ⟨b0, o0 + (n + 1) * 3, none⟩ = some (.int .i64 (os.getD (n + 1) op0).blk) ∧ Turns (fun _ => False) V10 X) (.done [0, 1, 2, 3, 4, 5, 6, 7, 8, 9, 10, 11, 12, 13, 14, 15, 16, 17, 18]) (by kernel_rfl) (by kernel_rfl) (fun _ _ _ _ _ h => h) ⟨e0, f0, (Turns.refl _ _).drew⟩ ?_
            clear f0 e0 e1
            rintro X ⟨x9, x8, tX⟩
            have hb : Below V10.heap.size V10 X := tX.below (Nat.le_refl _) (fun _ _ h => h)
            replace g0 := later hb g0
            replace v7 := later hb v7
            replace hrh := hrh.later hb
            replace hBV := thru hBV hb
            clear hb tX
            rw [wpSched]
            simp only [pick, List.map_cons, List.map_nil, Array.getD_eq_getD_getElem?, List.getElem?_toArray, List.getElem?_cons_succ, List.getElem?_cons_zero, Option.getD_some]
            have k9 := plusW_cell x9
            have k8 := plusW_cell x8
            repeat (first | go_big_quiet_step (fail) | quiet_step (fail))
            refine wpQuiet_nil ?_
            clear k9 k8 x9 x8
            obtain ⟨q, hq⟩ : ∃ q, (os[n].blk != os[n + 1].blk) = q := ⟨_, rfl⟩
            rw [hq]
            cases q
            · go_wp2_with fail
              refine (awake_any _).mono ?_
              rintro e w' ⟨rfl, hb⟩
              go_wp2_with fail
              go_ret
              exact ⟨rfl, thru hBV hb⟩
            · have hne : (os.getD n op0).blk ≠ (os.getD (n + 1) op0).blk := by simpa [hno, hno1] using hq
              have hc0 := (ho.later hBV).cellsO
              have hol : os.length ≤ 100000 := by omega
              clear hq
              go_wp2_with (at_builtin; (refine wpList_appOs rfl (.tmp 161) (.tmp 162) rfl (B := X.heap.size) (xa := some ⟨X.heap.size, 0, none⟩) (cap := 0) (OwnsO.whole0 _ _ X (Nat.le_refl _) rfl) rfl (b := b0) (q := o0) (c := cy) (os := os) rfl (hc0.later (al (Below.refl _ X) _)) hol (by simp) ?_); intro xo co Y hoy hb; refine Hid.out ?_)
              unfold Hid
              have hXY := (al (Below.refl _ X) (.cells #[] 31)).trans hb
              clear hb hc0
              obtain ⟨g, rfl, hg1, hg2⟩ := hoy.some_of (by omega : 0 < os.length)
              have HC := Lib.hid hoy.cellsO
              have hco := hoy.le_cap
              obtain ⟨c0, c1, c2⟩ := hoy.cellsO n hno
              obtain ⟨k0, k1, k2⟩ := hoy.cellsO (n + 1) hno1
              rw [Nat.zero_add] at c0 c1 c2 k0 k1 k2
              have HFZ : Hid (∀ i, Y.frozen? ⟨g, i, none⟩ = false) := fun i => hoy.free i
              have f0 := HFZ.out (n * 3)
              have f1 := HFZ.out (n * 3 + 1)
              have f2 := HFZ.out (n * 3 + 2)
              have f3 := HFZ.out ((n + 1) * 3)
              have f4 := HFZ.out ((n + 1) * 3 + 1)
              have f5 := HFZ.out ((n + 1) * 3 + 2)
              clear hoy HFZ
              obtain ⟨A, hA⟩ : ∃ A, os.getD n op0 = A := ⟨_, rfl⟩
              obtain ⟨E, hE⟩ : ∃ A, os.getD (n + 1) op0 = A := ⟨_, rfl⟩
              rw [hA] at c0 c1 c2
              rw [hE] at k0 k1 k2
              have HA2 := Lib.hid hA
              have HE2 := Lib.hid hE
              have HSW := Lib.hid (swap_call (x := x) (c := c) hr70 hl0 ho20 hv hno1 hne g co hco)
              clear hA hE hne
              go_wp2_with fail
              go_region_with (fail)
              all_goals (
                obtain ⟨Z0, hZ0⟩ : ∃ Z, ((((((Y.setCell ⟨g, n * 3, none⟩ (.int .i64 E.blk)).setCell ⟨g, n * 3 + 1, none⟩ (.bool E.er)).setCell ⟨g, n * 3 + 2, none⟩ (.slice E.x E.d.length E.c)).setCell ⟨g, (n + 1) * 3, none⟩ (.int .i64 A.blk)).setCell ⟨g, (n + 1) * 3 + 1, none⟩ (.bool A.er)).setCell ⟨g, (n + 1) * 3 + 2, none⟩ (.slice A.x A.d.length A.c)) = Z := ⟨_, rfl⟩
                have hc := (HC.out.set n hno E).set (n + 1) (by rw [List.length_set]; exact hno1) A
                have hXZ : Below X.heap.size X Z0 := by rw [← hZ0]; exact ((((((hXY.setCell (p := ⟨g, _, none⟩) hg1 _).setCell (p := ⟨g, _, none⟩) hg1 _).setCell (p := ⟨g, _, none⟩) hg1 _).setCell (p := ⟨g, _, none⟩) hg1 _).setCell (p := ⟨g, _, none⟩) hg1 _).setCell (p := ⟨g, _, none⟩) hg1 _)
                rw [hZ0] at hc ⊢
                obtain ⟨Z, hZ⟩ : ∃ Z, Z0.drew = Z := ⟨_, rfl⟩
                replace hc : CellsO Z g 0 ((os.set n E).set (n + 1) A) := by rw [← hZ]; exact hc.later (Below.refl _ Z0).drew
                replace hXZ : Below X.heap.size X Z := by rw [← hZ]; exact hXZ.drew
                rw [hZ]
                rw [← HE2.out, ← HA2.out] at hc
                replace g0 := later hXZ g0
                replace v7 := later hXZ v7
                replace hrh := hrh.later hXZ
                replace hBV := thru hBV hXZ
                have hops : Ops Z (some ⟨g, 0, none⟩) (swapO os n) := CellsO.ops hc (fun q hq => (ho.2 q (swapO_mem os n hno1 q hq)).later hBV)
                clear hZ0 hZ hXZ hXY hc HC c0 c1 c2 k0 k1 k2 f0 f1 f2 f3 f4 f5 HA2 HE2
                go_wp2_with fail
                refine (HSW.out _ (hs.later hBV) hops).mono ?_
                rintro e W11 ⟨xz, cz, rz, rfl, horz, mrz, hb⟩
                have hrz := horz.rws
                have Mrz := Lib.hid mrz
                clear horz mrz
                replace g0 := later hb g0
                replace v7 := later hb v7
                replace hrh := hrh.later hb
                replace hBV := thru hBV hb
                clear hb
                have q0 : w.heap.size < W11.heap.size := World.block_lt_of_cell? _ _ g0
                have qv7 : b7 < W11.heap.size := World.block_lt_of_cell? _ _ v7
                go_wp2_with fail
                have v24 : (W11.alloc (.cells #[.slice xz rz.length cz] 24)).cell? ⟨W11.heap.size, 0, none⟩ = some (.slice xz rz.length cz) := cell_new W11 _ _ _ 0
                have hb := al (Below.refl _ W11) (.cells #[.slice xz rz.length cz] 24)
                replace g0 := later hb g0
                replace v7 := later hb v7
                replace hrh := hrh.later hb
                replace hrz := hrz.later hb
                replace hBV := thru hBV hb
                clear hb
                obtain ⟨b24, hb24⟩ : ∃ b, W11.heap.size = b := ⟨_, rfl⟩
                obtain ⟨V11, hV⟩ : ∃ V, W11.alloc (.cells #[.slice xz rz.length cz] 24) = V := ⟨_, rfl⟩
                rw [hV] at g0 v7 hrh hrz v24 hBV ⊢
                rw [hb24] at v24 ⊢
                clear hV hb24 q0 qv7
                have z24 : b24 < V11.heap.size := World.block_lt_of_cell? _ _ v24
                refine (same_both _ hrz hrh Mrz.out HMH.out (by rw [runL_len, List.length_map]; exact hr70)).mono ?_
                rintro e V12 ⟨rfl, hb⟩
                replace hBV := thru hBV hb
                clear hb
                go_wp2_with fail
                refine (awake_any _).mono ?_
                rintro e w' ⟨rfl, hb⟩
                go_wp2_with fail
                go_ret
                exact ⟨rfl, thru hBV hb⟩
                )
          · have d2 : decide ((n : Int) + 1 < (os.length : Int)) = false := decide_eq_false (by omega)
            refine wp_region_sched (fun X => True ∧ Turns (fun _ => False) V10 X) (.done [0, 1, 2, 3, 4, 5, 6, 7, 8, 9, 10, 11, 12, 13, 14, 15, 16, 17, 18]) (by kernel_rfl) (by kernel_rfl) (fun _ _ _ _ _ h => h) ⟨trivial, (Turns.refl _ _).drew⟩ ?_
            rintro X ⟨-, tX⟩
            have hb : Below V10.heap.size V10 X := tX.below (Nat.le_refl _) (fun _ _ h => h)
            replace hBV := thru hBV hb
            clear hb tX
            rw [wpSched]
            simp only [pick, List.map_cons, List.map_nil, Array.getD_eq_getD_getElem?, List.getElem?_toArray, List.getElem?_cons_succ, List.getElem?_cons_zero, Option.getD_some]
            repeat (first | go_big_quiet_step (fail) | quiet_step (fail))
            refine wpQuiet_nil ?_
            go_wp2_with fail
            refine (awake_any _).mono ?_
            rintro e w' ⟨rfl, hb⟩
            go_wp2_with fail
            go_ret
            exact ⟨rfl, thru hBV hb⟩
      · have d1 : decide ((n : Int) < (os.length : Int)) = false := decide_eq_false (by omega)
        have d2 : decide ((n : Int) + 1 < (os.length : Int)) = false := decide_eq_false (by omega)
        have hw1 : IntKind.i64.wrap ((n : Int) + 1) = (n : Int) + 1 := wrap64_of _ (by omega)
        go_wp2_with fail
        refine wp_region_sched (fun X => True ∧ Turns (fun _ => False) V4 X) (.done [0, 1, 2, 3, 4, 5, 6, 7, 8, 9, 10, 11, 12, 13, 14, 15, 16, 17, 18]) (by kernel_rfl) (by kernel_rfl) (fun _ _ _ _ _ h => h) ⟨trivial, (Turns.refl _ _).drew⟩ ?_
        rintro X ⟨-, tX⟩
        have hb : Below V4.heap.size V4 X := tX.below (Nat.le_refl _) (fun _ _ h => h)
        replace hBV := thru hBV hb
        clear hb tX
        rw [wpSched]
        simp only [pick, List.map_cons, List.map_nil, Array.getD_eq_getD_getElem?, List.getElem?_toArray, List.getElem?_cons_succ, List.getElem?_cons_zero, Option.getD_some]
        repeat (first | go_big_quiet_step (fail) | quiet_step (fail))
        refine wpQuiet_nil ?_
        go_wp2_with fail
        refine (awake_any _).mono ?_
        rintro e w' ⟨rfl, hb⟩
        go_wp2_with fail
        go_ret
        exact ⟨rfl, thru hBV hb⟩
    · have HW : Hid (∀ W, Rws W x rs → Ops W y os → Calls Try.prog 15 #[.agg #[.slice x rs.length c], .slice y os.length cy] W (ErrOf (rs.map (·.l)) 2 W)) := fun W h1 h2 => by
        have := run_any x rs c y os cy W h1 (by omega) hl0 h2 hyn (by omega) hcy
        rwa [if_neg hv, if_neg hv] at this
      clear hv
      go_enter Try.func6, Try.ntmps6
      go_wp2_with fail
      refine (few_any x rs c y os cy _ (hs.later (al hB _)) (ho.later (al hB _)) hrn (by omega)).mono ?_
      rintro e w1 ⟨rfl, hb⟩
      rw [HF.out]
      have g0 := later (a := ⟨w.heap.size, 0, none⟩) (v := .slice x rs.length c) hb (by go_simp)
      have hB1 := thru (al hB _) hb
      clear hb
      go_wp2_with fail
      refine (HW.out _ (hs.later hB1) (ho.later hB1)).mono ?_
      rintro e w2 ⟨xh, ch, rh, rfl, hoh, hmh, hb⟩
      have hBV := al (thru hB1 hb) (.cells #[.slice xh rh.length ch] 24)
      clear hb hoh hmh
      go_wp2_with fail
      refine (awake_any _).mono ?_
      rintro e w' ⟨rfl, hb⟩
      go_wp2_with fail
      go_ret
      exact ⟨rfl, thru hBV hb⟩

end Go.Proofs.Ytgibfagnfhgelaa
