/- THE LAW LoaderForms. -/
import Derived.Test.YtapefonhgkjgnaaGreatLdFw
import Derived.Test.YtapefonhgkjgnaaGreatLdX
import Derived.Test.YtapefonhgkjgnaaGreatRfC
set_option maxRecDepth 20000
namespace Go.Proofs.YtapefonhgkjgnaaGreat
open Go.RowKit

theorem few0_any (s : Ld.Sw) (a : SwA) (w : World) : Calls Tryz.prog 5 #[.agg #[.slice none 0 0], aggN 23 (softV s a)] w fun e w' => e = .returned (.bool (fewS s)) ∧ Below w.heap.size w w' := by
  have := few_any none [] 0 s a w ⟨.inl rfl, fun r hr => by cases hr⟩ (by simp)
  rw [fewB_nil] at this
  exact this
theorem un_path (d : List UInt8) : (unS d).path.length ≤ 100 := by
  by_cases h : Ld.okU d = true
  · rw [(un_yes h).1]
    unfold Ld.okU at h
    simp only [Bool.and_eq_true] at h
    have := ((Ld.Sw.vld_iff _).1 h.2.2).2.2.2.1
    omega
  · rw [(un_no h).1]; decide
def DgOf (d : D64) (c : Int) (w : World) (e : Ending) (w' : World) : Prop := e = .returned (.tuple #[.int .u64 (num d), .int .i64 c]) ∧ Below w.heap.size w w'
def PkOf (l : List UInt8) (n : Nat) (c : Int) (w : World) (e : Ending) (w' : World) : Prop := ∃ y cy, e = .returned (.tuple #[.slice y n cy, .int .i64 c]) ∧ OwnsB w.heap.size w' y cy l ∧ Below w.heap.size w w'
theorem dg_yes (s : Ld.Sw) (a : SwA) (w : World) (hi : SwIn w s a) (hv : s.vld = true) : Calls Tryz.prog 8 #[aggN 23 (softV s a)] w (DgOf (dgV s) 0 w) := by
  have e2 : dgC s = 0 := if_pos hv
  have := digest_any s a w hi
  rw [e2] at this
  exact this
theorem dg_no (s : Ld.Sw) (a : SwA) (w : World) (hi : SwIn w s a) (hv : s.vld = false) : Calls Tryz.prog 8 #[aggN 23 (softV s a)] w fun e w' => e = .returned (.tuple #[.int .u64 0, .int .i64 2]) ∧ Below w.heap.size w w' := by
  have hv' : ¬ s.vld = true := by rw [hv]; decide
  have e1 : dgV s = 0#64 := if_neg hv'
  have e2 : dgC s = 2 := if_neg hv'
  have := digest_any s a w hi
  rw [e1, e2] at this
  exact this
theorem pk_yes (s : Ld.Sw) (a : SwA) (w : World) (hi : SwIn w s a) (hv : s.vld = true) : Calls Tryz.prog 9 #[aggN 23 (softV s a)] w (PkOf (Ld.form s) (Ld.form s).length 0 w) := by
  refine (pack_any s a w hi).mono ?_
  rintro e w' ⟨y, cy, rfl, ho, hb⟩
  have e1 : pkV s = Ld.form s := if_pos hv
  have e2 : dgC s = 0 := if_pos hv
  rw [e1] at ho ⊢
  rw [e2]
  exact ⟨y, cy, rfl, ho, hb⟩
theorem pk_no (s : Ld.Sw) (a : SwA) (w : World) (hi : SwIn w s a) (hv : s.vld = false) : Calls Tryz.prog 9 #[aggN 23 (softV s a)] w fun e w' => ∃ y cy, e = .returned (.tuple #[.slice y 0 cy, .int .i64 2]) ∧ Below w.heap.size w w' := by
  refine (pack_any s a w hi).mono ?_
  rintro e w' ⟨y, cy, rfl, ho, hb⟩
  have hv' : ¬ s.vld = true := by rw [hv]; decide
  have e1 : pkV s = [] := if_neg hv'
  have e2 : dgC s = 2 := if_neg hv'
  rw [e1, e2]
  exact ⟨y, cy, rfl, hb⟩

set_option maxHeartbeats 4000000 in
theorem forms_law (s : Ld.Sw) (a : SwA) (xd : Option Addr) (d : List UInt8) (cd : Nat) (root : D64) (hh : Int) (w : World) (hi : SwIn w s a) (hd : Bts w xd d) (hnd : xd = none → cd = 0) (hcd : d.length ≤ cd ∧ cd ≤ 9223372036854775807) (hxd : ∀ p, xd = some p → p.block < w.heap.size) :
    Calls Tryz.prog 3 #[aggN 23 (softV s a), .slice xd d.length cd, .int .u64 (num root), .int .i64 hh] w (YesOf w) := by
  have HU : ∀ W, Bts W xd d → w.heap.size ≤ W.heap.size → Calls Tryz.prog 10 #[.slice xd d.length cd] W (UnOf d W) := fun W h1 h2 => unpack_any xd d cd W h1 hnd hcd (fun p e => Nat.lt_of_lt_of_le (hxd p e) h2)
  have HRU : d.length ≤ 1000 → ∀ W, Bts W xd d → Calls Tryz.prog 11 #[.slice xd d.length cd] W (RupOf d W) := fun h W h1 => runpack_any xd d cd W h1 hcd.1 (Nat.le_trans h (by decide))
  have HUP := Lib.hid (un_path d)
  unfold UnOf at HU
  unfold RupOf at HRU
  obtain ⟨us, hus⟩ : ∃ t, unS d = t := ⟨_, rfl⟩
  obtain ⟨uc, huc⟩ : ∃ t, unC d = t := ⟨_, rfl⟩
  rw [hus] at HU HRU HUP
  rw [huc] at HU HRU
  obtain ⟨ld, hld⟩ : ∃ n, d.length = n := ⟨_, rfl⟩
  rw [hld] at HU HRU ⊢
  have HUH := Lib.hid HU
  have HRUH := Lib.hid HRU
  obtain ⟨gg, hgg⟩ : ∃ b, Ld.genu s root hh = b := ⟨_, rfl⟩
  have HG1 := fun W h => genu_any s a root hh W h
  have HG2 := fun W h => rgenu_any s a root hh W h
  rw [hgg] at HG1 HG2
  have HG1H := Lib.hid HG1
  have HG2H := Lib.hid HG2
  have d0 := hd
  have i0 := hi
  obtain ⟨q, hq⟩ : ∃ q : ByteArray, (⟨(Ld.form s).toArray⟩ : ByteArray) = q := ⟨_, rfl⟩
  have hqq : (q == q) = true := by rw [← hq, str_eq]; exact beq_self_eq_true _
  have HQ := Lib.hid hq
  have HQQ := Lib.hid hqq
  clear hld hd hi hnd hcd hxd HU HRU hus huc hgg HG1 HG2 hq hqq
  go_enter Tryz.func3, Tryz.ntmps3
  go_wp2_with (refine wpList_boxN rfl _ _ rfl rfl ?_; intro W a_b4 hB hz; refine Hid.out ?_)
  unfold Hid
  obtain ⟨b4, e4⟩ : ∃ b, w.heap.size = b := ⟨_, rfl⟩
  replace d0 := d0.later hB
  replace i0 := i0.later hB
  have HE4 := Lib.hid e4
  rw [e4] at a_b4 ⊢
  clear hz e4
  go_wp2_with (refine wpList_loadN rfl _ (.tmp 4) rfl (b := b4) (q := 0) rfl (run_loadSw a_b4) ?_)
  refine (few0_any s a _).mono ?_
  rintro e w1 ⟨rfl, hb⟩
  replace i0 := i0.later hb
  replace a_b4 := a_b4.later hb
  replace d0 := d0.later hb
  replace hB := hB.trans (hb.mono hB.size)
  clear hb
  obtain ⟨fq, hfq⟩ : ∃ b, fewS s = b := ⟨_, rfl⟩
  rw [hfq]
  clear hfq
  cases fq with
  | false =>
    clear i0 a_b4 d0
    go_wp2_with fail
    refine (awake_any _).mono ?_
    rintro e wX ⟨rfl, hb⟩
    have hBX := hB.trans (hb.mono hB.size)
    clear hb
    go_wp2_with fail
    go_ret
    exact ⟨rfl, hBX⟩
  | true =>
    by_cases hl : 1000 < ld
    · have d1 : decide ((1000 : Int) < (ld : Int)) = true := by simp; omega
      have d2 : decide ((ld : Int) > 1000) = true := by simp; omega
      have d3 : decide (1000 < ld) = true := by simp; omega
      clear i0 a_b4 d0
      go_wp2_with fail
      refine (awake_any _).mono ?_
      rintro e wX ⟨rfl, hb⟩
      have hBX := hB.trans (hb.mono hB.size)
      clear hb
      go_wp2_with fail
      go_ret
      exact ⟨rfl, hBX⟩
    have d1 : decide ((1000 : Int) < (ld : Int)) = false := by simp; omega
    have d2 : decide ((ld : Int) > 1000) = false := by simp; omega
    have d3 : decide (1000 < ld) = false := by simp; omega
    cases hv : s.vld with
    | false =>
      clear d2 d3
      go_wp2_with (refine wpList_loadN rfl _ (.tmp 4) rfl (b := b4) (q := 0) rfl (run_loadSw a_b4) ?_)
      refine (rvsoft_any s a _ i0).mono ?_
      rintro e w2 ⟨rfl, hb⟩
      replace i0 := i0.later hb
      replace a_b4 := a_b4.later hb
      replace d0 := d0.later hb
      replace hB := hB.trans (hb.mono hB.size)
      clear hb
      rw [hv]
      clear d1
      go_wp2_with (refine wpList_loadN rfl _ (.tmp 4) rfl (b := b4) (q := 0) rfl (run_loadSw a_b4) ?_)
      refine (dg_no s a _ i0 hv).mono ?_
      rintro e w3 ⟨rfl, hb⟩
      replace i0 := i0.later hb
      replace a_b4 := a_b4.later hb
      replace d0 := d0.later hb
      replace hB := hB.trans (hb.mono hB.size)
      clear hb
      go_wp2_with (refine wpList_loadN rfl _ (.tmp 4) rfl (b := b4) (q := 0) rfl (run_loadSw a_b4) ?_)
      refine (pk_no s a _ i0 hv).mono ?_
      rintro e w4 ⟨y12, c12, rfl, hb⟩
      replace i0 := i0.later hb
      replace a_b4 := a_b4.later hb
      replace d0 := d0.later hb
      replace hB := hB.trans (hb.mono hB.size)
      clear hb
      go_wp2_with fail
      refine (HUH.out _ d0 (by have := hB.size; omega)).mono ?_
      rintro e w5 ⟨sa1, rfl, i1, _, hb⟩
      replace i0 := i0.later hb
      replace a_b4 := a_b4.later hb
      replace d0 := d0.later hb
      replace hB := hB.trans (hb.mono hB.size)
      clear hb
      go_wp2_with (refine wpList_allocTo 14 rfl rfl _ rfl soft_zero ?_; intro Xf0 a_b14 hb0 hz0; refine Hid.out ?_)
      unfold Hid
      try simp only [Act.put, List.setIfInBounds_toArray, List.set_cons_zero, List.set_cons_succ]
      obtain ⟨b14, e_b14⟩ : ∃ a, w5.heap.size = a := ⟨_, rfl⟩
      have s_b14 : w5.heap.size ≤ b14 := by omega
      have hb := hb0
      rw [e_b14] at a_b14 hz0 ⊢
      clear hb0
      have hz : b14 < Xf0.heap.size := by omega
      clear e_b14 hz0
      go_wp2_with (refine wpList_storeB rfl rfl _ (.tmp 14) _ rfl (b := b14) (q := 0) rfl (n := 23) (v := softV us sa1) rfl a_b14 (fun j _ => soft_one _ _ _) soft_size ?_; intro Yf0 t1; refine Hid.out ?_)
      unfold Hid
      replace hb := t1.below _ _ (by omega) hb
      replace a_b14 := t1.blk
      rw [← t1.size] at hz
      clear t1
      replace i0 := i0.later hb
      replace a_b4 := a_b4.later hb
      replace d0 := d0.later hb
      replace i1 := i1.later hb
      replace hB := hB.trans (hb.mono hB.size)
      clear hb hz
      clear s_b14
      go_wp2_with fail
      refine (HRUH.out (Nat.le_of_not_lt hl) _ d0).mono ?_
      rintro e w6 ⟨sa2, rfl, i2, _, hb⟩
      replace i0 := i0.later hb
      replace a_b4 := a_b4.later hb
      replace d0 := d0.later hb
      replace i1 := i1.later hb
      replace a_b14 := a_b14.later hb
      replace hB := hB.trans (hb.mono hB.size)
      clear hb
      clear d0
      go_wp2_with (refine wpList_allocTo 16 rfl rfl _ rfl soft_zero ?_; intro Xg0 a_b16 hb0 hz0; refine Hid.out ?_)
      unfold Hid
      try simp only [Act.put, List.setIfInBounds_toArray, List.set_cons_zero, List.set_cons_succ]
      obtain ⟨b16, e_b16⟩ : ∃ a, w6.heap.size = a := ⟨_, rfl⟩
      have s_b16 : w6.heap.size ≤ b16 := by omega
      have hb := hb0
      rw [e_b16] at a_b16 hz0 ⊢
      clear hb0
      have hz : b16 < Xg0.heap.size := by omega
      clear e_b16 hz0
      go_wp2_with (refine wpList_storeB rfl rfl _ (.tmp 16) _ rfl (b := b16) (q := 0) rfl (n := 23) (v := softV us sa2) rfl a_b16 (fun j _ => soft_one _ _ _) soft_size ?_; intro Yg0 t1; refine Hid.out ?_)
      unfold Hid
      replace hb := t1.below _ _ (by omega) hb
      replace a_b16 := t1.blk
      rw [← t1.size] at hz
      clear t1
      replace i0 := i0.later hb
      replace a_b4 := a_b4.later hb
      replace i1 := i1.later hb
      replace a_b14 := a_b14.later hb
      replace i2 := i2.later hb
      replace hB := hB.trans (hb.mono hB.size)
      clear hb hz
      clear s_b16
      go_wp2_with fail
      obtain ⟨NH, hNH⟩ : ∃ n, Yg0.heap.size = n := ⟨_, rfl⟩
      have HNH := Lib.hid hNH
      have zb4N : b4 < NH := hNH ▸ World.block_lt_of_cell? _ _ (a_b4.at 0 (by decide)).1
      have zb14N : b14 < NH := hNH ▸ World.block_lt_of_cell? _ _ (a_b14.at 0 (by decide)).1
      have zb16N : b16 < NH := hNH ▸ World.block_lt_of_cell? _ _ (a_b16.at 0 (by decide)).1
      clear hNH
      have I0 := Lib.hid i0
      have I1 := Lib.hid i1
      have I2 := Lib.hid i2
      have AB4 := Lib.hid a_b4
      have AB14 := Lib.hid a_b14
      have AB16 := Lib.hid a_b16
      clear i0 i1 i2 a_b4 a_b14 a_b16
      refine wp_cutN (fun a' X => Below NH Yg0 X ∧ ∃ u : Nat → Value, a' = { tmps := #[u 0, u 1, u 2, u 3, .pointer (some ⟨b4, 0, none⟩), u 5, u 6, u 7, u 8, .bool false, u 10, u 11, .slice y12 0 c12, u 13, u 14, u 15, u 16, u 17, u 18, u 19, u 20, u 21, u 22, u 23, u 24, u 25, u 26, u 27, u 28, u 29, u 30, u 31, u 32, u 33, u 34, u 35, u 36, u 37, u 38, u 39, u 40, u 41, u 42, u 43, u 44, u 45, u 46, u 47, u 48, u 49, u 50, u 51, u 52, u 53, u 54, u 55, u 56, u 57, u 58, u 59, u 60, u 61, u 62, u 63, u 64, u 65, u 66, u 67, u 68, u 69, u 70, u 71, u 72, u 73, u 74, u 75, u 76, u 77, u 78, u 79, u 80, u 81, u 82, u 83, u 84, u 85, u 86, u 87, u 88, u 89, u 90, u 91, u 92, u 93, u 94, u 95, u 96, u 97, u 98, u 99, u 100, u 101, u 102, .bool false, u 104, u 105, u 106, u 107, u 108, u 109, u 110, u 111, u 112, u 113, u 114, u 115, u 116], defers := [] }) ?_ ?_
      · refine wp_region_schedB (B := NH) (fun X8 => Below NH Yg0 X8 ∧ NH ≤ X8.heap.size) (.one [0, 2] 1 (.one [3, 4, 5, 6, 7, 8, 9, 10, 11, 12, 13, 14, 15, 16, 17, 18, 19, 20, 21, 22, 23, 24, 25, 26, 27, 28, 29, 30, 31, 32, 33, 34, 35, 36, 37, 38, 39] 40 (.one [41, 42, 43, 44, 45, 46, 48, 49, 50] 47 (.one [] 51 (.done [52, 53]))))) (by kernel_rfl) (by kernel_rfl) (fun _ _ _ _ _ h => h) ⟨(Below.refl _ _).drew, Nat.le_of_eq HNH.out.symm⟩ ?_
        rintro X8 ⟨hN, hZ⟩
        rw [wpSchedB]
        simp only [pick, List.map_cons, List.map_nil, Array.getD_eq_getD_getElem?, List.getElem?_toArray, List.getElem?_cons_succ, List.getElem?_cons_zero, Option.getD_some]
        have hY : Below Yg0.heap.size Yg0 X8 := by rw [HNH.out]; exact hN
        have r4 := loadN_B (B := NH) (t := 29) (AB4.out.later hY) zb4N (fun X h => run_loadSw h)
        (refine wpQuiet_loadN (by rfl) _ (.tmp 4) rfl (b := b4) (q := 0) rfl r4 ?_; try simp only [Act.put, List.setIfInBounds_toArray, List.set_cons_zero, List.set_cons_succ])
        (first | go_big_quiet_step (fail) | quiet_step (fail))
        refine wpQuiet_nil ?_
        clear r4
        refine heavyB_want (by rfl) (fun K' hK' => ?_)
        go_simp
        refine (vsoft_any s a _ (I0.out.later hY)).mono ?_
        rintro e X8a ⟨rfl, hb⟩
        rw [hv]
        refine hK' _ _ (hb.mono hZ) ?_
        clear hK' K' hY
        replace hN := hN.trans (hb.mono hZ)
        replace hZ := Nat.le_trans hZ hb.size
        clear hb
        have hY : Below Yg0.heap.size Yg0 X8a := by rw [HNH.out]; exact hN
        try simp only [Act.put, List.setIfInBounds_toArray, List.set_cons_zero, List.set_cons_succ]
        rw [wpSchedB]
        simp only [pick, List.map_cons, List.map_nil, Array.getD_eq_getD_getElem?, List.getElem?_toArray, List.getElem?_cons_succ, List.getElem?_cons_zero, Option.getD_some]
        have r14 := loadN_B (B := NH) (t := 29) (AB14.out.later hY) zb14N (fun X h => run_loadSw h)
        have r16 := loadN_B (B := NH) (t := 29) (AB16.out.later hY) zb16N (fun X h => run_loadSw h)
        iterate 35 (first | go_big_quiet_step (fail) | quiet_step (fail))
        (refine wpQuiet_loadN (by rfl) _ (.tmp 14) rfl (b := b14) (q := 0) rfl r14 ?_; try simp only [Act.put, List.setIfInBounds_toArray, List.set_cons_zero, List.set_cons_succ])
        (refine wpQuiet_loadN (by rfl) _ (.tmp 16) rfl (b := b16) (q := 0) rfl r16 ?_; try simp only [Act.put, List.setIfInBounds_toArray, List.set_cons_zero, List.set_cons_succ])
        refine wpQuiet_nil ?_
        clear r14 r16
        refine heavyB_want (by rfl) (fun K' hK' => ?_)
        go_simp
        refine (same_soft us sa1 sa2 _ (I1.out.later hY) (I2.out.later hY) HUP.out).mono ?_
        rintro e X8b ⟨rfl, hb⟩
        refine hK' _ _ (hb.mono hZ) ?_
        clear hK' K' hY
        replace hN := hN.trans (hb.mono hZ)
        replace hZ := Nat.le_trans hZ hb.size
        clear hb
        have hY : Below Yg0.heap.size Yg0 X8b := by rw [HNH.out]; exact hN
        try simp only [Act.put, List.setIfInBounds_toArray, List.set_cons_zero, List.set_cons_succ]
        rw [wpSchedB]
        simp only [pick, List.map_cons, List.map_nil, Array.getD_eq_getD_getElem?, List.getElem?_toArray, List.getElem?_cons_succ, List.getElem?_cons_zero, Option.getD_some]
        have r4 := loadN_B (B := NH) (t := 29) (AB4.out.later hY) zb4N (fun X h => run_loadSw h)
        iterate 3 (first | go_big_quiet_step (fail) | quiet_step (fail))
        (refine wpQuiet_loadN (by rfl) _ (.tmp 4) rfl (b := b4) (q := 0) rfl r4 ?_; try simp only [Act.put, List.setIfInBounds_toArray, List.set_cons_zero, List.set_cons_succ])
        iterate 2 (first | go_big_quiet_step (fail) | quiet_step (fail))
        (refine wpQuiet_loadN (by rfl) _ (.tmp 4) rfl (b := b4) (q := 0) rfl r4 ?_; try simp only [Act.put, List.setIfInBounds_toArray, List.set_cons_zero, List.set_cons_succ])
        iterate 2 (first | go_big_quiet_step (fail) | quiet_step (fail))
        refine wpQuiet_nil ?_
        clear r4
        refine heavyB_want (by rfl) (fun K' hK' => ?_)
        go_simp
        refine (HG1H.out _ (I0.out.later hY)).mono ?_
        rintro e X8c ⟨rfl, hb⟩
        refine hK' _ _ (hb.mono hZ) ?_
        clear hK' K' hY
        replace hN := hN.trans (hb.mono hZ)
        replace hZ := Nat.le_trans hZ hb.size
        clear hb
        have hY : Below Yg0.heap.size Yg0 X8c := by rw [HNH.out]; exact hN
        try simp only [Act.put, List.setIfInBounds_toArray, List.set_cons_zero, List.set_cons_succ]
        rw [wpSchedB]
        simp only [pick, List.map_nil, Array.getD_eq_getD_getElem?, List.getElem?_toArray, List.getElem?_cons_succ, List.getElem?_cons_zero, Option.getD_some]
        refine wpQuiet_nil ?_
        refine heavyB_want (by rfl) (fun K' hK' => ?_)
        go_simp
        refine (HG2H.out _ (I0.out.later hY)).mono ?_
        rintro e X8d ⟨rfl, hb⟩
        refine hK' _ _ (hb.mono hZ) ?_
        clear hK' K' hY
        replace hN := hN.trans (hb.mono hZ)
        replace hZ := Nat.le_trans hZ hb.size
        clear hb
        have hY : Below Yg0.heap.size Yg0 X8d := by rw [HNH.out]; exact hN
        try simp only [Act.put, List.setIfInBounds_toArray, List.set_cons_zero, List.set_cons_succ]
        rw [wpSchedB]
        simp only [pick, List.map_cons, List.map_nil, Array.getD_eq_getD_getElem?, List.getElem?_toArray, List.getElem?_cons_succ, List.getElem?_cons_zero, Option.getD_some]
        repeat (first | go_big_quiet_step (fail) | quiet_step (fail))
        refine wpQuiet_nil ?_
        exact NormQ.mk ⟨hN, ex_frame (by kernel_rfl)⟩
      rintro a' V ⟨hN, u, rfl⟩
      have hb : Below Yg0.heap.size Yg0 V := by rw [HNH.out]; exact hN
      have i0 := I0.out.later hb
      have a_b4 := AB4.out.later hb
      replace hB := hB.trans (hb.mono hB.size)
      clear hb hN I0 I1 I2 AB4 AB14 AB16 HNH
      try dsimp only
      go_wp2_with fail
      obtain ⟨NJ, hNJ⟩ : ∃ n, V.heap.size = n := ⟨_, rfl⟩
      have HNJ := Lib.hid hNJ
      have z4J : b4 < NJ := hNJ ▸ World.block_lt_of_cell? _ _ (a_b4.at 0 (by decide)).1
      clear hNJ
      have I0 := Lib.hid i0
      have AB4 := Lib.hid a_b4
      have HB0 := Lib.hid hB
      clear i0 a_b4 hB
      refine wp_region_schedB (B := NJ) (fun X9 => Below NJ V X9 ∧ NJ ≤ X9.heap.size) (.one [0, 1, 2, 3, 4, 5] 6 (.one [7, 8, 9, 10] 11 (.done [12, 13]))) (by kernel_rfl) (by kernel_rfl) (fun _ _ _ _ _ h => h) ⟨(Below.refl _ _).drew, Nat.le_of_eq HNJ.out.symm⟩ ?_
      rintro X9 ⟨hN, hZ⟩
      rw [wpSchedB]
      simp only [pick, List.map_cons, List.map_nil, Array.getD_eq_getD_getElem?, List.getElem?_toArray, List.getElem?_cons_succ, List.getElem?_cons_zero, Option.getD_some]
      repeat (first | go_big_quiet_step (fail) | quiet_step (fail))
      refine wpQuiet_nil ?_
      refine heavyB_skip (by rfl) ?_
      try simp only [Act.put, List.setIfInBounds_toArray, List.set_cons_zero, List.set_cons_succ]
      rw [wpSchedB]
      simp only [pick, List.map_cons, List.map_nil, Array.getD_eq_getD_getElem?, List.getElem?_toArray, List.getElem?_cons_succ, List.getElem?_cons_zero, Option.getD_some]
      repeat (first | go_big_quiet_step (fail) | quiet_step (fail))
      refine wpQuiet_nil ?_
      refine heavyB_want (by rfl) (fun K' hK' => ?_)
      go_simp
      refine (awake_any _).mono ?_
      rintro e X9b ⟨rfl, hb⟩
      refine hK' _ _ (hb.mono hZ) ?_
      clear hK' K'
      replace hN := hN.trans (hb.mono hZ)
      clear hb hZ
      try simp only [Act.put, List.setIfInBounds_toArray, List.set_cons_zero, List.set_cons_succ]
      rw [wpSchedB]
      simp only [pick, List.map_cons, List.map_nil, Array.getD_eq_getD_getElem?, List.getElem?_toArray, List.getElem?_cons_succ, List.getElem?_cons_zero, Option.getD_some]
      repeat (first | go_big_quiet_step (fail) | quiet_step (fail))
      refine wpQuiet_nil ?_
      have hBX := HB0.out.trans ((show Below V.heap.size V X9b by first | exact hN | (rw [HNJ.out]; exact hN)).mono HB0.out.size)
      go_wp2_with fail
      go_ret
      exact ⟨rfl, hBX⟩
    | true =>
      clear d2 d3
      go_wp2_with (refine wpList_loadN rfl _ (.tmp 4) rfl (b := b4) (q := 0) rfl (run_loadSw a_b4) ?_)
      refine (rvsoft_any s a _ i0).mono ?_
      rintro e w2 ⟨rfl, hb⟩
      replace i0 := i0.later hb
      replace a_b4 := a_b4.later hb
      replace d0 := d0.later hb
      replace hB := hB.trans (hb.mono hB.size)
      clear hb
      rw [hv]
      clear d1
      go_wp2_with (refine wpList_loadN rfl _ (.tmp 4) rfl (b := b4) (q := 0) rfl (run_loadSw a_b4) ?_)
      refine (dg_yes s a _ i0 hv).mono ?_
      rintro e w3 ⟨rfl, hb⟩
      replace i0 := i0.later hb
      replace a_b4 := a_b4.later hb
      replace d0 := d0.later hb
      replace hB := hB.trans (hb.mono hB.size)
      clear hb
      go_wp2_with (refine wpList_loadN rfl _ (.tmp 4) rfl (b := b4) (q := 0) rfl (run_loadSw a_b4) ?_)
      refine (pk_yes s a _ i0 hv).mono ?_
      rintro e w4 ⟨y12, c12, rfl, o12, hb⟩
      replace i0 := i0.later hb
      replace a_b4 := a_b4.later hb
      replace d0 := d0.later hb
      replace hB := hB.trans (hb.mono hB.size)
      clear hb
      go_wp2_with fail
      refine (HUH.out _ d0 (by have := hB.size; omega)).mono ?_
      rintro e w5 ⟨sa1, rfl, i1, _, hb⟩
      replace i0 := i0.later hb
      replace a_b4 := a_b4.later hb
      replace d0 := d0.later hb
      replace o12 := o12.later hb
      replace hB := hB.trans (hb.mono hB.size)
      clear hb
      go_wp2_with (refine wpList_allocTo 14 rfl rfl _ rfl soft_zero ?_; intro Xf0 a_b14 hb0 hz0; refine Hid.out ?_)
      unfold Hid
      try simp only [Act.put, List.setIfInBounds_toArray, List.set_cons_zero, List.set_cons_succ]
      obtain ⟨b14, e_b14⟩ : ∃ a, w5.heap.size = a := ⟨_, rfl⟩
      have s_b14 : w5.heap.size ≤ b14 := by omega
      have hb := hb0
      rw [e_b14] at a_b14 hz0 ⊢
      clear hb0
      have hz : b14 < Xf0.heap.size := by omega
      clear e_b14 hz0
      go_wp2_with (refine wpList_storeB rfl rfl _ (.tmp 14) _ rfl (b := b14) (q := 0) rfl (n := 23) (v := softV us sa1) rfl a_b14 (fun j _ => soft_one _ _ _) soft_size ?_; intro Yf0 t1; refine Hid.out ?_)
      unfold Hid
      replace hb := t1.below _ _ (by omega) hb
      replace a_b14 := t1.blk
      rw [← t1.size] at hz
      clear t1
      replace i0 := i0.later hb
      replace a_b4 := a_b4.later hb
      replace d0 := d0.later hb
      replace o12 := o12.later hb
      replace i1 := i1.later hb
      replace hB := hB.trans (hb.mono hB.size)
      clear hb hz
      clear s_b14
      go_wp2_with fail
      refine (HRUH.out (Nat.le_of_not_lt hl) _ d0).mono ?_
      rintro e w6 ⟨sa2, rfl, i2, _, hb⟩
      replace i0 := i0.later hb
      replace a_b4 := a_b4.later hb
      replace d0 := d0.later hb
      replace o12 := o12.later hb
      replace i1 := i1.later hb
      replace a_b14 := a_b14.later hb
      replace hB := hB.trans (hb.mono hB.size)
      clear hb
      clear d0
      go_wp2_with (refine wpList_allocTo 16 rfl rfl _ rfl soft_zero ?_; intro Xg0 a_b16 hb0 hz0; refine Hid.out ?_)
      unfold Hid
      try simp only [Act.put, List.setIfInBounds_toArray, List.set_cons_zero, List.set_cons_succ]
      obtain ⟨b16, e_b16⟩ : ∃ a, w6.heap.size = a := ⟨_, rfl⟩
      have s_b16 : w6.heap.size ≤ b16 := by omega
      have hb := hb0
      rw [e_b16] at a_b16 hz0 ⊢
      clear hb0
      have hz : b16 < Xg0.heap.size := by omega
      clear e_b16 hz0
      go_wp2_with (refine wpList_storeB rfl rfl _ (.tmp 16) _ rfl (b := b16) (q := 0) rfl (n := 23) (v := softV us sa2) rfl a_b16 (fun j _ => soft_one _ _ _) soft_size ?_; intro Yg0 t1; refine Hid.out ?_)
      unfold Hid
      replace hb := t1.below _ _ (by omega) hb
      replace a_b16 := t1.blk
      rw [← t1.size] at hz
      clear t1
      replace i0 := i0.later hb
      replace a_b4 := a_b4.later hb
      replace o12 := o12.later hb
      replace i1 := i1.later hb
      replace a_b14 := a_b14.later hb
      replace i2 := i2.later hb
      replace hB := hB.trans (hb.mono hB.size)
      clear hb hz
      clear s_b16
      go_wp2_with fail
      obtain ⟨NH, hNH⟩ : ∃ n, Yg0.heap.size = n := ⟨_, rfl⟩
      have HNH := Lib.hid hNH
      have zb4N : b4 < NH := hNH ▸ World.block_lt_of_cell? _ _ (a_b4.at 0 (by decide)).1
      have zb14N : b14 < NH := hNH ▸ World.block_lt_of_cell? _ _ (a_b14.at 0 (by decide)).1
      have zb16N : b16 < NH := hNH ▸ World.block_lt_of_cell? _ _ (a_b16.at 0 (by decide)).1
      clear hNH
      have I0 := Lib.hid i0
      have I1 := Lib.hid i1
      have I2 := Lib.hid i2
      have AB4 := Lib.hid a_b4
      have AB14 := Lib.hid a_b14
      have AB16 := Lib.hid a_b16
      have O12 := Lib.hid o12
      clear i0 i1 i2 a_b4 a_b14 a_b16 o12
      refine wp_cutN (fun a' X => Below NH Yg0 X ∧ ∃ u : Nat → Value, a' = { tmps := #[u 0, u 1, u 2, u 3, .pointer (some ⟨b4, 0, none⟩), u 5, u 6, u 7, u 8, .bool true, u 10, u 11, .slice y12 (Ld.form s).length c12, u 13, u 14, u 15, u 16, u 17, u 18, u 19, u 20, u 21, u 22, u 23, u 24, u 25, u 26, u 27, u 28, u 29, u 30, u 31, u 32, u 33, u 34, u 35, u 36, u 37, u 38, u 39, u 40, u 41, u 42, u 43, u 44, u 45, u 46, u 47, u 48, u 49, u 50, u 51, u 52, u 53, u 54, u 55, u 56, u 57, u 58, u 59, u 60, u 61, u 62, u 63, u 64, u 65, u 66, u 67, u 68, u 69, u 70, u 71, u 72, u 73, u 74, u 75, u 76, u 77, u 78, u 79, u 80, u 81, u 82, u 83, u 84, u 85, u 86, u 87, u 88, u 89, u 90, u 91, u 92, u 93, u 94, u 95, u 96, u 97, u 98, u 99, u 100, u 101, u 102, .bool false, u 104, u 105, u 106, u 107, u 108, u 109, u 110, u 111, u 112, u 113, u 114, u 115, u 116], defers := [] }) ?_ ?_
      · refine wp_region_schedB (B := NH) (fun X8 => Below NH Yg0 X8 ∧ NH ≤ X8.heap.size) (.one [0, 2] 1 (.one [3, 4, 5, 6, 7, 8, 9, 10, 11, 12, 13, 14, 15, 16, 17, 18, 19, 20, 21, 22, 23, 24, 25, 26, 27, 28, 29, 30, 31, 32, 33, 34, 35, 36, 37, 38, 39] 40 (.one [41, 42, 43, 44, 45, 46, 48, 49, 50] 47 (.one [] 51 (.done [52, 53]))))) (by kernel_rfl) (by kernel_rfl) (fun _ _ _ _ _ h => h) ⟨(Below.refl _ _).drew, Nat.le_of_eq HNH.out.symm⟩ ?_
        rintro X8 ⟨hN, hZ⟩
        rw [wpSchedB]
        simp only [pick, List.map_cons, List.map_nil, Array.getD_eq_getD_getElem?, List.getElem?_toArray, List.getElem?_cons_succ, List.getElem?_cons_zero, Option.getD_some]
        have hY : Below Yg0.heap.size Yg0 X8 := by rw [HNH.out]; exact hN
        have r4 := loadN_B (B := NH) (t := 29) (AB4.out.later hY) zb4N (fun X h => run_loadSw h)
        (refine wpQuiet_loadN (by rfl) _ (.tmp 4) rfl (b := b4) (q := 0) rfl r4 ?_; try simp only [Act.put, List.setIfInBounds_toArray, List.set_cons_zero, List.set_cons_succ])
        (first | go_big_quiet_step (fail) | quiet_step (fail))
        refine wpQuiet_nil ?_
        clear r4
        refine heavyB_want (by rfl) (fun K' hK' => ?_)
        go_simp
        refine (vsoft_any s a _ (I0.out.later hY)).mono ?_
        rintro e X8a ⟨rfl, hb⟩
        rw [hv]
        refine hK' _ _ (hb.mono hZ) ?_
        clear hK' K' hY
        replace hN := hN.trans (hb.mono hZ)
        replace hZ := Nat.le_trans hZ hb.size
        clear hb
        have hY : Below Yg0.heap.size Yg0 X8a := by rw [HNH.out]; exact hN
        try simp only [Act.put, List.setIfInBounds_toArray, List.set_cons_zero, List.set_cons_succ]
        rw [wpSchedB]
        simp only [pick, List.map_cons, List.map_nil, Array.getD_eq_getD_getElem?, List.getElem?_toArray, List.getElem?_cons_succ, List.getElem?_cons_zero, Option.getD_some]
        have r14 := loadN_B (B := NH) (t := 29) (AB14.out.later hY) zb14N (fun X h => run_loadSw h)
        have r16 := loadN_B (B := NH) (t := 29) (AB16.out.later hY) zb16N (fun X h => run_loadSw h)
        iterate 35 (first | go_big_quiet_step (fail) | quiet_step (fail))
        (refine wpQuiet_loadN (by rfl) _ (.tmp 14) rfl (b := b14) (q := 0) rfl r14 ?_; try simp only [Act.put, List.setIfInBounds_toArray, List.set_cons_zero, List.set_cons_succ])
        (refine wpQuiet_loadN (by rfl) _ (.tmp 16) rfl (b := b16) (q := 0) rfl r16 ?_; try simp only [Act.put, List.setIfInBounds_toArray, List.set_cons_zero, List.set_cons_succ])
        refine wpQuiet_nil ?_
        clear r14 r16
        refine heavyB_want (by rfl) (fun K' hK' => ?_)
        go_simp
        refine (same_soft us sa1 sa2 _ (I1.out.later hY) (I2.out.later hY) HUP.out).mono ?_
        rintro e X8b ⟨rfl, hb⟩
        refine hK' _ _ (hb.mono hZ) ?_
        clear hK' K' hY
        replace hN := hN.trans (hb.mono hZ)
        replace hZ := Nat.le_trans hZ hb.size
        clear hb
        have hY : Below Yg0.heap.size Yg0 X8b := by rw [HNH.out]; exact hN
        try simp only [Act.put, List.setIfInBounds_toArray, List.set_cons_zero, List.set_cons_succ]
        rw [wpSchedB]
        simp only [pick, List.map_cons, List.map_nil, Array.getD_eq_getD_getElem?, List.getElem?_toArray, List.getElem?_cons_succ, List.getElem?_cons_zero, Option.getD_some]
        have r4 := loadN_B (B := NH) (t := 29) (AB4.out.later hY) zb4N (fun X h => run_loadSw h)
        iterate 3 (first | go_big_quiet_step (fail) | quiet_step (fail))
        (refine wpQuiet_loadN (by rfl) _ (.tmp 4) rfl (b := b4) (q := 0) rfl r4 ?_; try simp only [Act.put, List.setIfInBounds_toArray, List.set_cons_zero, List.set_cons_succ])
        iterate 2 (first | go_big_quiet_step (fail) | quiet_step (fail))
        (refine wpQuiet_loadN (by rfl) _ (.tmp 4) rfl (b := b4) (q := 0) rfl r4 ?_; try simp only [Act.put, List.setIfInBounds_toArray, List.set_cons_zero, List.set_cons_succ])
        iterate 2 (first | go_big_quiet_step (fail) | quiet_step (fail))
        refine wpQuiet_nil ?_
        clear r4
        refine heavyB_want (by rfl) (fun K' hK' => ?_)
        go_simp
        refine (HG1H.out _ (I0.out.later hY)).mono ?_
        rintro e X8c ⟨rfl, hb⟩
        refine hK' _ _ (hb.mono hZ) ?_
        clear hK' K' hY
        replace hN := hN.trans (hb.mono hZ)
        replace hZ := Nat.le_trans hZ hb.size
        clear hb
        have hY : Below Yg0.heap.size Yg0 X8c := by rw [HNH.out]; exact hN
        try simp only [Act.put, List.setIfInBounds_toArray, List.set_cons_zero, List.set_cons_succ]
        rw [wpSchedB]
        simp only [pick, List.map_nil, Array.getD_eq_getD_getElem?, List.getElem?_toArray, List.getElem?_cons_succ, List.getElem?_cons_zero, Option.getD_some]
        refine wpQuiet_nil ?_
        refine heavyB_want (by rfl) (fun K' hK' => ?_)
        go_simp
        refine (HG2H.out _ (I0.out.later hY)).mono ?_
        rintro e X8d ⟨rfl, hb⟩
        refine hK' _ _ (hb.mono hZ) ?_
        clear hK' K' hY
        replace hN := hN.trans (hb.mono hZ)
        replace hZ := Nat.le_trans hZ hb.size
        clear hb
        have hY : Below Yg0.heap.size Yg0 X8d := by rw [HNH.out]; exact hN
        try simp only [Act.put, List.setIfInBounds_toArray, List.set_cons_zero, List.set_cons_succ]
        rw [wpSchedB]
        simp only [pick, List.map_cons, List.map_nil, Array.getD_eq_getD_getElem?, List.getElem?_toArray, List.getElem?_cons_succ, List.getElem?_cons_zero, Option.getD_some]
        repeat (first | go_big_quiet_step (fail) | quiet_step (fail))
        refine wpQuiet_nil ?_
        exact NormQ.mk ⟨hN, ex_frame (by kernel_rfl)⟩
      rintro a' V ⟨hN, u, rfl⟩
      have hb : Below Yg0.heap.size Yg0 V := by rw [HNH.out]; exact hN
      have i0 := I0.out.later hb
      have a_b4 := AB4.out.later hb
      have o12 := O12.out.later hb
      replace hB := hB.trans (hb.mono hB.size)
      clear hb hN I0 I1 I2 AB4 AB14 AB16 HNH
      try dsimp only
      go_wp2_with fail
      obtain ⟨NJ, hNJ⟩ : ∃ n, V.heap.size = n := ⟨_, rfl⟩
      have HNJ := Lib.hid hNJ
      have z4J : b4 < NJ := hNJ ▸ World.block_lt_of_cell? _ _ (a_b4.at 0 (by decide)).1
      have BO := Lib.hid o12.bts
      clear o12
      clear hNJ
      have I0 := Lib.hid i0
      have AB4 := Lib.hid a_b4
      have HB0 := Lib.hid hB
      clear i0 a_b4 hB
      refine wp_region_sched  (fun X9 => True ∧ Below V.heap.size V X9) (.one [0, 1, 2, 3, 4, 5] 6 (.one [7, 8, 9, 10] 11 (.done [12, 13]))) (by kernel_rfl) (by kernel_rfl) (fun _ _ _ _ _ h => h) ⟨trivial, (Below.refl _ _).drew⟩ ?_
      rintro X9 ⟨-, hN⟩
      rw [wpSched]
      simp only [pick, List.map_cons, List.map_nil, Array.getD_eq_getD_getElem?, List.getElem?_toArray, List.getElem?_cons_succ, List.getElem?_cons_zero, Option.getD_some]
      have r4 := fun w' (hw : OutOf X9 w') => run_conv (P := Tryz.prog) Tryz.underlying22 Tryz.underlying5 str_under ((BO.out.later hN).later hw.below) c12
      simp only [HQ.out] at r4
      have r5 := fun w' (hw : OutOf X9 w') => run_loadSw ((AB4.out.later hN).later hw.below)
      iterate 4 (first | go_big_quiet_step (fail) | quiet_step (fail))
      (refine wpQuiet_conv (by rfl) _ _ (.tmp 107) rfl (u := .slice y12 (Ld.form s).length c12) rfl r4 ?_; try simp only [Act.put, List.setIfInBounds_toArray, List.set_cons_zero, List.set_cons_succ])
      (refine wpQuiet_loadN (by rfl) _ (.tmp 4) rfl (b := b4) (q := 0) rfl r5 ?_; try simp only [Act.put, List.setIfInBounds_toArray, List.set_cons_zero, List.set_cons_succ])
      refine wpQuiet_nil ?_
      clear r4 r5
      refine heavy_want (by rfl) (fun K' hK' => ?_)
      go_simp
      refine (rpack_any s a _ (I0.out.later hN) hv).mono ?_
      rintro e X9a ⟨y110, c110, rfl, o110, hb⟩
      refine hK' _ _ hb ?_
      clear hK' K'
      replace hN := thru hN hb
      have O110 := Lib.hid o110
      clear hb o110
      try simp only [Act.put, List.setIfInBounds_toArray, List.set_cons_zero, List.set_cons_succ]
      rw [wpSched]
      simp only [pick, List.map_cons, List.map_nil, Array.getD_eq_getD_getElem?, List.getElem?_toArray, List.getElem?_cons_succ, List.getElem?_cons_zero, Option.getD_some]
      have r7 := fun w' (hw : OutOf X9a w') => run_conv (P := Tryz.prog) Tryz.underlying22 Tryz.underlying5 str_under (O110.out.bts.later hw.below) c110
      simp only [HQ.out] at r7
      have hqq := HQQ.out
      (refine wpQuiet_conv (by rfl) _ _ (.tmp 110) rfl (u := .slice y110 (Ld.form s).length c110) rfl r7 ?_; try simp only [Act.put, List.setIfInBounds_toArray, List.set_cons_zero, List.set_cons_succ])
      iterate 3 (first | go_big_quiet_step (fail) | quiet_step (fail))
      refine wpQuiet_nil ?_
      clear r7 hqq
      refine heavy_want (by rfl) (fun K' hK' => ?_)
      go_simp
      refine (awake_any _).mono ?_
      rintro e X9b ⟨rfl, hb⟩
      refine hK' _ _ hb ?_
      clear hK' K'
      replace hN := thru hN hb
      clear hb
      try simp only [Act.put, List.setIfInBounds_toArray, List.set_cons_zero, List.set_cons_succ]
      rw [wpSched]
      simp only [pick, List.map_cons, List.map_nil, Array.getD_eq_getD_getElem?, List.getElem?_toArray, List.getElem?_cons_succ, List.getElem?_cons_zero, Option.getD_some]
      repeat (first | go_big_quiet_step (fail) | quiet_step (fail))
      refine wpQuiet_nil ?_
      have hBX := HB0.out.trans ((show Below V.heap.size V X9b by first | exact hN | (rw [HNJ.out]; exact hN)).mono HB0.out.size)
      go_wp2_with fail
      go_ret
      exact ⟨rfl, hBX⟩

end Go.Proofs.YtapefonhgkjgnaaGreat
