/- The reference of layer 38: Pack, Genuine. -/
import Derived.Test.YtapefonhgkjgnaaGreatRfD
import Derived.Test.YtapefonhgkjgnaaGreatLdT
set_option maxRecDepth 20000
namespace Go.Proofs.YtapefonhgkjgnaaGreat
open Go.RowKit

set_option maxHeartbeats 400000 in
theorem rpack_any (s : Ld.Sw) (a : SwA) (w : World) (hi : SwIn w s a) (hv : s.vld = true) : Calls Tryz.prog 16 #[aggN 23 (softV s a)] w (OwnOf (Ld.form s) w) := by
  have HD := rcont_any s a
  have HE := rsenc_any s a
  obtain ⟨⟨a1, a2⟩, _, c5, p6, k0, k1⟩ := (Ld.Sw.vld_iff s).1 hv
  have hg : vldG (s.path.length : Int) s.key = true := (Ld.vldG_iff _ _).2 ⟨p6, k0, k1⟩
  have e4 : sgC s = 0 := if_pos hg
  have e5 : sgB s = Sgn.enc s.key.toNat s.ch s.path := if_pos hg
  have hlen := Ld.form_max s hv
  rw [e4, e5] at HE
  have hf : Ld.cont s ++ Sgn.enc s.key.toNat s.ch s.path = Ld.form s := rfl
  obtain ⟨l, hl⟩ : ∃ l, Ld.cont s = l := ⟨_, rfl⟩
  obtain ⟨m, hm⟩ : ∃ l, Sgn.enc s.key.toNat s.ch s.path = l := ⟨_, rfl⟩
  obtain ⟨f, hff⟩ : ∃ l, Ld.form s = l := ⟨_, rfl⟩
  rw [hl, hm, hff] at hf
  rw [hl] at HD
  rw [hm] at HE
  rw [hff] at hlen ⊢
  have hlm : l.length + m.length = f.length := by rw [← hf, List.length_append]
  have HL := Lib.hid (show l.length + m.length ≤ 10000000 by omega)
  have HVV := Lib.hid hv
  have HF := Lib.hid hf
  clear hv hl hm hff hlen hlm hf e4 e5 hg a1 a2 c5 p6 k0 k1
  go_enter Tryz.func16, Tryz.ntmps16
  go_wp2_with (refine wpList_boxN rfl _ _ rfl rfl ?_; intro W g hB hz; refine Hid.out ?_)
  unfold Hid
  clear hz
  have g3 := g.sig
  go_wp2_with (refine wpList_loadN rfl _ _ rfl (b := w.heap.size) (q := 3) rfl (run_loadSg g3) ?_)
  refine (HE _ (hi.later hB)).mono ?_
  rintro e w2 ⟨y, cy, rfl, ho, hb2⟩
  have g2 := g.later hb2
  replace hB := thru hB hb2
  clear hb2 g g3 HE
  go_wp2_with (refine wpList_loadN rfl _ _ rfl (b := w.heap.size) (q := 0) rfl (run_loadSw g2) ?_)
  refine (HD _ (hi.later hB) HVV.out).mono ?_
  rintro e w3 ⟨y3, cy3, rfl, ho3, hb3⟩
  have hB3 := thru hB hb3
  have ho2 := ho.bts.later hb3
  have hnc := Lib.hid ho.none_cap
  have O3 := Lib.hid ho3
  have hb3s := hb3.size
  have hb3k := Lib.hid hb3
  clear hb3 g2 HD hi ho ho3
  go_wp2_with (at_builtin; refine wpList_app rfl _ _ rfl (B := w2.heap.size) (l := l) O3.out rfl (m := m) rfl ho2 hnc.out HL.out HF.out hb3s ?_; intro x6 k6 w6 o6 b6 _; refine Hid.out ?_)
  unfold Hid
  have hB6 := thru hB (hb3k.out.trans b6)
  have O6 := Lib.hid (o6.weaken hB.size)
  clear b6 o6 O3 ho2 hB3
  go_wp2_with fail
  go_ret
  exact ⟨x6, k6, rfl, O6.out, hB6⟩

/-- Verify over whole software. -/
theorem rverif_any (s : Ld.Sw) (a : SwA) (root d : D64) (h : Int) (w : World) (hi : SwIn w s a) : Calls Tryz.prog 39 #[.int .u64 (num root), .int .i64 h, .int .u64 (num d), aggN 20 (sigV s.key s.ch a.xp s.path.length a.cp)] w fun e w' => e = .returned (.bool (vldG (s.path.length : Int) s.key && (decide ((s.path.length : Int) = h) && (Sgn.vfy d s.key.toNat s.ch s.path == root)))) ∧ Below w.heap.size w w' := by
  by_cases hh : (s.path.length : Int) = h
  · by_cases hv : vldG (s.path.length : Int) s.key = true
    · obtain ⟨h6, k0, k1⟩ := (Ld.vldG_iff _ _).1 hv
      have hk : s.key = (s.key.toNat : Int) := (Int.toNat_of_nonneg k0).symm
      have hkn : s.key.toNat < 2 ^ s.path.length := by
        have : ((s.key.toNat : Nat) : Int) < ((2 ^ s.path.length : Nat) : Int) := by rw [← hk]; simpa using k1
        exact_mod_cast this
      have h1 := refVerify_yes root d s.key.toNat s.ch s.path a.xp a.cp w hi.2.2 h6 hkn
      rw [← hk, hh] at h1
      rw [hh] at hv ⊢
      rw [hv, decide_eq_true rfl, Bool.true_and, Bool.true_and]
      exact h1
    · have hv2 : vldG (s.path.length : Int) s.key = false := by simpa using hv
      have h1 := refVerify_no root h d s.key s.ch a.xp s.path.length a.cp w (.inl (by rw [← hh]; exact hv2))
      rw [hv2, Bool.false_and]
      exact h1
  · have h1 := refVerify_no root h d s.key s.ch a.xp s.path.length a.cp w (.inr hh)
    rw [decide_eq_false hh, Bool.false_and, Bool.and_false]
    exact h1
set_option maxHeartbeats 1000000 in
theorem rgenu_any (s : Ld.Sw) (a : SwA) (root : D64) (h : Int) (w : World) (hi : SwIn w s a) : Calls Tryz.prog 15 #[aggN 23 (softV s a), .int .u64 (num root), .int .i64 h] w fun e w' => e = .returned (.bool (Ld.genu s root h)) ∧ Below w.heap.size w w' := by
  have HV := rvsoft_any s a
  have HF := fun d => rverif_any s a root d h
  by_cases hv : s.vld = true
  · obtain ⟨⟨a1, a2⟩, _, c5, p6, k0, k1⟩ := (Ld.Sw.vld_iff s).1 hv
    have hg : vldG (s.path.length : Int) s.key = true := (Ld.vldG_iff _ _).2 ⟨p6, k0, k1⟩
    have HG : Hid (Ld.genu s root h = (decide ((s.path.length : Int) = h) && (Sgn.vfy (Dig.ofL (Ld.cont s)) s.key.toNat s.ch s.path == root))) := by show _ = _; unfold Ld.genu; rw [hv, Bool.true_and]
    replace HF := HF (Dig.ofL (Ld.cont s))
    rw [hg, Bool.true_and, ← HG.out] at HF
    have hcl := Ld.cont_len s
    have HC := rcont_any s a
    have HO := fun y c W hy => refOf_any y (Ld.cont s) c W (by omega) hy
    obtain ⟨r, hr⟩ : ∃ r, Ld.genu s root h = r := ⟨_, rfl⟩
    rw [hr] at HF ⊢
    obtain ⟨d, hd⟩ : ∃ d, Dig.ofL (Ld.cont s) = d := ⟨_, rfl⟩
    rw [hd] at HF HO
    obtain ⟨l, hl⟩ : ∃ l, Ld.cont s = l := ⟨_, rfl⟩
    rw [hl] at HC HO
    have HVV := Lib.hid hv
    rw [hv] at HV
    clear hv hr hd hl hg HG a1 a2 c5 p6 k0 k1 hcl
    go_enter Tryz.func15, Tryz.ntmps15
    go_wp2_with (refine wpList_boxN rfl _ _ rfl rfl ?_; intro W g hB hz; refine Hid.out ?_)
    unfold Hid
    go_wp2_with fail
    have hi1 := hi.later hB
    obtain ⟨b3, e3⟩ : ∃ b, w.heap.size = b := ⟨_, rfl⟩
    have HE3 := Lib.hid e3
    rw [e3] at g ⊢
    obtain ⟨NH, hNH⟩ : ∃ n, W.heap.size = n := ⟨_, rfl⟩
    have HNHL := Lib.hid hNH
    have lg : b3 < NH := by rw [← hNH]; exact World.block_lt_of_cell? _ _ (g.at 0 (by omega)).1
    have HBK := Lib.hid hB
    clear hNH e3 hz hi hB
    refine wp_cutN (fun a' X => Below NH W X ∧ ∃ u : Nat → Value, a' = { tmps := #[u 0, u 1, u 2, u 3, u 4, u 5, .bool r, u 7, u 8, u 9, u 10, u 11, u 12, u 13, u 14, u 15, u 16, u 17, u 18], defers := [] }) ?_ ?_
    · refine wp_region_schedB (B := NH) (fun X => Blk X b3 0 23 (softV s a) ∧ SwIn X s a ∧ Below NH W X ∧ NH ≤ X.heap.size) (.one [0] 1 (.one [2, 3, 4, 5, 8, 9] 6 (.one [] 7 (.one [] 10 (.done [11, 12]))))) (by kernel_rfl) (by kernel_rfl) (fun _ _ _ _ _ h => h) ⟨g.later (Below.refl _ _).drew, hi1.later (Below.refl _ _).drew, (Below.refl _ _).drew, Nat.le_of_eq HNHL.out.symm⟩ ?_
      clear g hi1
      rintro X ⟨g, hi1, hN, hZ⟩
      rw [wpSchedB]
      simp only [pick, List.map_cons, List.map_nil, Array.getD_eq_getD_getElem?, List.getElem?_toArray, List.getElem?_cons_succ, List.getElem?_cons_zero, Option.getD_some]
      have r0 := loadN_B (B := NH) (t := 29) g lg (fun X h => run_loadSw h)
      (refine wpQuiet_loadN rfl _ (.tmp 3) rfl (b := b3) (q := 0) rfl r0 ?_; try simp only [Act.put, List.setIfInBounds_toArray, List.set_cons_zero, List.set_cons_succ])
      refine wpQuiet_nil ?_
      clear r0
      refine heavyB_want (by rfl) (fun K' hK' => ?_)
      go_simp
      refine (HV _ hi1).mono ?_
      rintro e X1 ⟨rfl, hb⟩
      refine hK' _ _ (hb.mono hZ) ?_
      clear hK' K'
      replace g := g.later hb
      replace hi1 := hi1.later hb
      replace hN := hN.trans (hb.mono hZ)
      replace hZ := Nat.le_trans hZ hb.size
      clear hb
      try simp only [Act.put, List.setIfInBounds_toArray, List.set_cons_zero, List.set_cons_succ]
      rw [wpSchedB]
      simp only [pick, List.map_cons, List.map_nil, Array.getD_eq_getD_getElem?, List.getElem?_toArray, List.getElem?_cons_succ, List.getElem?_cons_zero, Option.getD_some]
      have r5 := loadN_B (B := NH) (t := 29) g lg (fun X h => run_loadSw h)
      have r9 := loadN_B (B := NH) (t := 27) g.sig lg (fun X h => run_loadSg h)
      iterate 3 (first | go_big_quiet_step (fail) | quiet_step (fail))
      (refine wpQuiet_loadN rfl _ (.tmp 3) rfl (b := b3) (q := 0) rfl r5 ?_; try simp only [Act.put, List.setIfInBounds_toArray, List.set_cons_zero, List.set_cons_succ])
      (first | go_big_quiet_step (fail) | quiet_step (fail))
      (refine wpQuiet_loadN rfl _ (.tmp 15) rfl (b := b3) (q := 3) rfl r9 ?_; try simp only [Act.put, List.setIfInBounds_toArray, List.set_cons_zero, List.set_cons_succ])
      refine wpQuiet_nil ?_
      clear r5 r9
      refine heavyB_want (by rfl) (fun K' hK' => ?_)
      go_simp
      refine (HC _ hi1 HVV.out).mono ?_
      rintro e X2 ⟨y6, c6, rfl, o6, hb⟩
      refine hK' _ _ (hb.mono hZ) ?_
      clear hK' K'
      replace g := g.later hb
      replace hi1 := hi1.later hb
      replace hN := hN.trans (hb.mono hZ)
      replace hZ := Nat.le_trans hZ hb.size
      clear hb
      try simp only [Act.put, List.setIfInBounds_toArray, List.set_cons_zero, List.set_cons_succ]
      rw [wpSchedB]
      simp only [pick, List.map_nil, Array.getD_eq_getD_getElem?, List.getElem?_toArray, List.getElem?_cons_succ, List.getElem?_cons_zero, Option.getD_some]
      refine wpQuiet_nil ?_
      refine heavyB_want (by rfl) (fun K' hK' => ?_)
      go_simp
      refine (HO y6 c6 _ o6.bts).mono ?_
      rintro e X3 ⟨rfl, rfl⟩
      refine hK' _ _ (Below.refl _ _) ?_
      clear hK' K' o6
      try simp only [Act.put, List.setIfInBounds_toArray, List.set_cons_zero, List.set_cons_succ]
      rw [wpSchedB]
      simp only [pick, List.map_nil, Array.getD_eq_getD_getElem?, List.getElem?_toArray, List.getElem?_cons_succ, List.getElem?_cons_zero, Option.getD_some]
      refine wpQuiet_nil ?_
      refine heavyB_want (by rfl) (fun K' hK' => ?_)
      go_simp
      refine (HF _ hi1).mono ?_
      rintro e X4 ⟨rfl, hb⟩
      refine hK' _ _ (hb.mono hZ) ?_
      clear hK' K'
      replace g := g.later hb
      replace hi1 := hi1.later hb
      replace hN := hN.trans (hb.mono hZ)
      replace hZ := Nat.le_trans hZ hb.size
      clear hb
      try simp only [Act.put, List.setIfInBounds_toArray, List.set_cons_zero, List.set_cons_succ]
      rw [wpSchedB]
      simp only [pick, List.map_cons, List.map_nil, Array.getD_eq_getD_getElem?, List.getElem?_toArray, List.getElem?_cons_succ, List.getElem?_cons_zero, Option.getD_some]
      repeat (first | go_big_quiet_step (fail) | quiet_step (fail))
      refine wpQuiet_nil ?_
      exact NormQ.mk ⟨hN, ex_frame (by kernel_rfl)⟩
    rintro a' X ⟨hN, u, rfl⟩
    have hb : Below W.heap.size W X := by rw [HNHL.out]; exact hN
    have hB := thru HBK.out hb
    rw [HE3.out] at hB
    clear hb hN HBK HNHL
    try dsimp only
    go_wp2_with fail
    go_ret
    exact ⟨rfl, by first | exact hB | (rw [HE3.out]; exact hB)⟩
  · have hv2 : s.vld = false := by simpa using hv
    have hg : Ld.genu s root h = false := by unfold Ld.genu; rw [hv2, Bool.false_and]
    rw [hg]
    rw [hv2] at HV
    clear hv hv2 hg HF
    go_enter Tryz.func15, Tryz.ntmps15
    go_wp2_with (refine wpList_boxN rfl _ _ rfl rfl ?_; intro W g hB hz; refine Hid.out ?_)
    unfold Hid
    go_wp2_with fail
    have hi1 := hi.later hB
    obtain ⟨b3, e3⟩ : ∃ b, w.heap.size = b := ⟨_, rfl⟩
    have HE3 := Lib.hid e3
    rw [e3] at g ⊢
    obtain ⟨NH, hNH⟩ : ∃ n, W.heap.size = n := ⟨_, rfl⟩
    have HNHL := Lib.hid hNH
    have lg : b3 < NH := by rw [← hNH]; exact World.block_lt_of_cell? _ _ (g.at 0 (by omega)).1
    have HBK := Lib.hid hB
    clear hNH e3 hz hi hB
    refine wp_cutN (fun a' X => Below NH W X ∧ ∃ u : Nat → Value, a' = { tmps := #[u 0, u 1, u 2, u 3, u 4, u 5, .bool false, u 7, u 8, u 9, u 10, u 11, u 12, u 13, u 14, u 15, u 16, u 17, u 18], defers := [] }) ?_ ?_
    · refine wp_region_schedB (B := NH) (fun X => Blk X b3 0 23 (softV s a) ∧ SwIn X s a ∧ Below NH W X ∧ NH ≤ X.heap.size) (.one [0] 1 (.one [2, 3, 4, 5, 8, 9] 6 (.one [] 7 (.one [] 10 (.done [11, 12]))))) (by kernel_rfl) (by kernel_rfl) (fun _ _ _ _ _ h => h) ⟨g.later (Below.refl _ _).drew, hi1.later (Below.refl _ _).drew, (Below.refl _ _).drew, Nat.le_of_eq HNHL.out.symm⟩ ?_
      clear g hi1
      rintro X ⟨g, hi1, hN, hZ⟩
      rw [wpSchedB]
      simp only [pick, List.map_cons, List.map_nil, Array.getD_eq_getD_getElem?, List.getElem?_toArray, List.getElem?_cons_succ, List.getElem?_cons_zero, Option.getD_some]
      have r0 := loadN_B (B := NH) (t := 29) g lg (fun X h => run_loadSw h)
      (refine wpQuiet_loadN rfl _ (.tmp 3) rfl (b := b3) (q := 0) rfl r0 ?_; try simp only [Act.put, List.setIfInBounds_toArray, List.set_cons_zero, List.set_cons_succ])
      refine wpQuiet_nil ?_
      clear r0
      refine heavyB_want (by rfl) (fun K' hK' => ?_)
      go_simp
      refine (HV _ hi1).mono ?_
      rintro e X1 ⟨rfl, hb⟩
      refine hK' _ _ (hb.mono hZ) ?_
      clear hK' K'
      replace g := g.later hb
      replace hi1 := hi1.later hb
      replace hN := hN.trans (hb.mono hZ)
      replace hZ := Nat.le_trans hZ hb.size
      clear hb
      try simp only [Act.put, List.setIfInBounds_toArray, List.set_cons_zero, List.set_cons_succ]
      rw [wpSchedB]
      simp only [pick, List.map_cons, List.map_nil, Array.getD_eq_getD_getElem?, List.getElem?_toArray, List.getElem?_cons_succ, List.getElem?_cons_zero, Option.getD_some]
      repeat (first | go_big_quiet_step (fail) | quiet_step (fail))
      refine wpQuiet_nil ?_
      refine heavyB_skip (by rfl) ?_
      try simp only [Act.put, List.setIfInBounds_toArray, List.set_cons_zero, List.set_cons_succ]
      rw [wpSchedB]
      simp only [pick, List.map_nil, Array.getD_eq_getD_getElem?, List.getElem?_toArray, List.getElem?_cons_succ, List.getElem?_cons_zero, Option.getD_some]
      refine wpQuiet_nil ?_
      refine heavyB_skip (by rfl) ?_
      try simp only [Act.put, List.setIfInBounds_toArray, List.set_cons_zero, List.set_cons_succ]
      rw [wpSchedB]
      simp only [pick, List.map_nil, Array.getD_eq_getD_getElem?, List.getElem?_toArray, List.getElem?_cons_succ, List.getElem?_cons_zero, Option.getD_some]
      refine wpQuiet_nil ?_
      refine heavyB_skip (by rfl) ?_
      try simp only [Act.put, List.setIfInBounds_toArray, List.set_cons_zero, List.set_cons_succ]
      rw [wpSchedB]
      simp only [pick, List.map_cons, List.map_nil, Array.getD_eq_getD_getElem?, List.getElem?_toArray, List.getElem?_cons_succ, List.getElem?_cons_zero, Option.getD_some]
      repeat (first | go_big_quiet_step (fail) | quiet_step (fail))
      refine wpQuiet_nil ?_
      exact NormQ.mk ⟨hN, ex_frame (by kernel_rfl)⟩
    rintro a' X ⟨hN, u, rfl⟩
    have hb : Below W.heap.size W X := by rw [HNHL.out]; exact hN
    have hB := thru HBK.out hb
    rw [HE3.out] at hB
    clear hb hN HBK HNHL
    try dsimp only
    go_wp2_with fail
    go_ret
    exact ⟨rfl, by first | exact hB | (rw [HE3.out]; exact hB)⟩

end Go.Proofs.YtapefonhgkjgnaaGreat
