/- WALKS of the loader: decode. -/
import Derived.Test.YtapefonhgkjgnaaGreatLdJ
set_option maxRecDepth 20000
namespace Go.Proofs.YtapefonhgkjgnaaGreat
open Go.RowKit

theorem results_cell_cell_tmp {fn : Func} {p q u : Tmp} {ty tz : TypeId} (h : fn.results = #[.cell p ty, .cell q tz, .tmp u]) (tmps : Array Value) (P : Program) (w : World) :
    (results fn tmps).run P w =
      ((asAddr (tmps.getD p undef)).run P w).andThen fun a w₁ => ((loadVar ty a).run P w₁).andThen fun v w₂ => ((asAddr (tmps.getD q undef)).run P w₂).andThen fun a w₃ => ((loadVar tz a).run P w₃).andThen fun v' w₄ => .ok (.tuple #[v, v', tmps.getD u undef]) w₄ := by
  simp only [results, h]
  simp [Sem.run_bind, Result.andThen]
theorem results_cell_tmp_tmp {fn : Func} {p q u : Tmp} {ty : TypeId} (h : fn.results = #[.cell p ty, .tmp q, .tmp u]) (tmps : Array Value) (P : Program) (w : World) :
    (results fn tmps).run P w =
      ((asAddr (tmps.getD p undef)).run P w).andThen fun a w₁ => ((loadVar ty a).run P w₁).andThen fun v w₂ => .ok (.tuple #[v, tmps.getD q undef, tmps.getD u undef]) w₂ := by
  simp only [results, h]
  simp [Sem.run_bind, Result.andThen]

def DecOf (l : List UInt8) (w : World) (e : Ending) (w' : World) : Prop := ∃ r, e = .returned (.tuple #[aggN 4 (recF r), .bool (Ld.okR l)]) ∧ (Ld.okR l = true → r = Ld.recOf l) ∧ Below w.heap.size w w'
theorem decode_bad (x : Option Addr) (l : List UInt8) (c : Nat) (w : World) (hl : l.length ≠ 14) : Calls Tryz.prog 101 #[.slice x l.length c] w (DecOf l w) := by
  have ho : Ld.okR l = false := by unfold Ld.okR; rw [decide_eq_false hl]; rfl
  unfold DecOf
  rw [ho]
  obtain ⟨n, hn⟩ : ∃ n, l.length = n := ⟨_, rfl⟩
  rw [hn] at hl ⊢
  have hd : ((n : Int) == 14) = false := by simp; omega
  have hd2 : ((n : Int) != 14) = true := by simp; omega
  clear hn ho
  go_enter Tryz.func101, Tryz.ntmps101
  go_wp2_with (refine wpList_allocTo 2 rfl rfl _ rfl rec_zero ?_; intro X0 g0 hb0 hz0; refine Hid.out ?_)
  unfold Hid
  try simp only [Act.put, List.setIfInBounds_toArray, List.set_cons_zero, List.set_cons_succ]
  go_wp2_with (refine wpList_storeB rfl rfl _ (.tmp 2) _ rfl (b := w.heap.size) (q := 0) rfl (n := 4) (v := recF zRec) rfl g0 (fun j _ => rec_one _ _) rec_size ?_; intro Y1 u1; refine Hid.out ?_)
  unfold Hid
  have hB := u1.below _ w (Nat.le_refl _) hb0
  have l1 := run_loadRec u1.blk
  clear u1 g0 hb0
  go_wp2_with fail
  refine bodyPost_ret (v := .tuple #[aggN 4 (recF zRec), .bool false]) ?_ rfl ⟨zRec, rfl, (fun h => by cases h), hB⟩
  rw [results_cell_tmp rfl]
  simp [asAddr, Result.andThen]
  rw [l1]

set_option maxHeartbeats 1000000 in
theorem decode_len (x : Option Addr) (l : List UInt8) (c : Nat) (w : World) (hx : Bts w x l) (hl : l.length = 14) (hc : 14 ≤ c ∧ c ≤ 9223372036854775807) : Calls Tryz.prog 101 #[.slice x l.length c] w (DecOf l w) := by
  unfold DecOf
  rw [hl]
  obtain ⟨g, o, rfl, hcell⟩ := hx.at (by omega)
  have k4 := hcell 4 (by omega)
  have k5 := hcell 5 (by omega)
  have b4 := hx.take 4
  have b6 := hx.mid 6 8
  have e6 : (l.drop 6).take 8 = l.drop 6 := List.take_of_length_le (by rw [List.length_drop]; omega)
  rw [e6] at b6
  have n4 : (l.take 4).length = 4 := by rw [List.length_take]; omega
  have n6 : (l.drop 6).length = 8 := by rw [List.length_drop]; omega
  have V4 := fun (W : World) (h : Bts W (some ⟨g, o, none⟩) (l.take 4)) => value_any (some ⟨g, o, none⟩) (l.take 4) c W h (by omega)
  have V6 := fun (W : World) (h : Bts W (some ⟨g, o + 6, none⟩) (l.drop 6)) => value_any (some ⟨g, o + 6, none⟩) (l.drop 6) (c - 6) W h (by omega)
  rw [n4] at V4
  rw [n6, Ld.wd_drop] at V6
  obtain ⟨V, hV⟩ : ∃ V, Ld.nat (l.take 4) = V := ⟨_, rfl⟩
  have hV32 : V < 4294967296 := by have := Ld.nat_lt (l.take 4); rw [n4, hV] at this; omega
  have w4 := Ld.wd_nat (l.take 4) (by omega)
  rw [n4, hV] at w4
  obtain ⟨d4, hd4⟩ : ∃ d4, Sgn.wd (l.take 4) 0 4 = d4 := ⟨_, rfl⟩
  rw [hd4] at w4 V4
  have hwr : IntKind.u32.wrap (num d4) = (V : Int) := by
    unfold num; rw [w4]; simp [IntKind.wrap, IntKind.bits, IntKind.signed]; omega
  obtain ⟨dg, hdg⟩ : ∃ d, Sgn.wd l (6 + 0) 8 = d := ⟨_, rfl⟩
  rw [hdg] at V6
  obtain ⟨v4, hv4⟩ : ∃ v, l.getD 4 0 = v := ⟨_, rfl⟩
  obtain ⟨v5, hv5⟩ : ∃ v, l.getD 5 0 = v := ⟨_, rfl⟩
  rw [hv4] at k4
  rw [hv5] at k5
  have HR : Hid (Ld.recOf l = ⟨v4.toNat, v5.toNat, V, dg⟩) := by show _ = _; unfold Ld.recOf; rw [hv4, hv5, hV, ← hdg]
  have HO : Hid (Ld.okR l = (decide (v4.toNat ≤ 1) && (decide (1 ≤ v5.toNat) && decide (v5.toNat ≤ 16)))) := by show _ = _; unfold Ld.okR; rw [hl, hv4, hv5]; rfl
  obtain ⟨m4, hm4⟩ : ∃ m, v4.toNat = m := ⟨_, rfl⟩
  obtain ⟨m5, hm5⟩ : ∃ m, v5.toNat = m := ⟨_, rfl⟩
  have q4 : m4 < 256 := by have := v4.toNat_lt; omega
  have q5 : m5 < 256 := by have := v5.toNat_lt; omega
  rw [hm4] at k4 HR HO
  rw [hm5] at k5 HR HO
  have wi4 : IntKind.i64.wrap (m4 : Int) = (m4 : Int) := by simp [IntKind.wrap, IntKind.bits, IntKind.signed]; omega
  have wi5 : IntKind.i64.wrap (m5 : Int) = (m5 : Int) := by simp [IntKind.wrap, IntKind.bits, IntKind.signed]; omega
  have zg := World.block_lt_of_cell? _ _ k4
  simp only at zg
  obtain ⟨ok, hok⟩ : ∃ b, Ld.okR l = b := ⟨_, rfl⟩
  rw [hok] at HO ⊢
  have c1 : (14 : Int) ≤ (c : Int) := by omega
  have c2 : (4 : Int) ≤ (c : Int) := by omega
  have c3 : ¬ c = 6 := by omega
  have c4 : 4 ≤ c := by omega
  have c5 : 14 ≤ c := by omega
  clear hcell hx hl e6 n4 n6 hV w4 hd4 hdg hv4 hv5 hm4 hm5 hok
  go_enter Tryz.func101, Tryz.ntmps101
  go_wp2_with (refine wpList_allocTo 2 rfl rfl _ rfl rec_zero ?_; intro W g0 hb0 hz0; refine Hid.out ?_)
  unfold Hid
  try simp only [Act.put, List.setIfInBounds_toArray, List.set_cons_zero, List.set_cons_succ]
  replace k4 := later hb0 k4
  replace k5 := later hb0 k5
  replace b4 := b4.later hb0
  replace b6 := b6.later hb0
  obtain ⟨b0, hbb⟩ : ∃ b, w.heap.size = b := ⟨_, rfl⟩
  rw [hbb] at g0 hb0 hz0 zg ⊢
  obtain ⟨B, hBe⟩ : ∃ B, b0 + 1 = B := ⟨_, rfl⟩
  rw [hBe] at hz0
  go_wp2_with fail
  refine wp_cutN (fun a' X1 => Blk X1 b0 0 4 (recF zRec) ∧ Blk X1 B 0 4 (recF ⟨m4, m5, V, dg⟩) ∧ Below b0 w X1 ∧ ∃ u : Nat → Value, a' = { tmps := #[.slice (some ⟨g, o, none⟩) 14 c, u 1, .pointer (some ⟨b0, 0, none⟩), .bool false, .pointer (some ⟨B, 0, none⟩), u 5, u 6, u 7, u 8, u 9, u 10, u 11, u 12, u 13, u 14, u 15, u 16, u 17, u 18, u 19, u 20, u 21, u 22, u 23, u 24, u 25, u 26, u 27, u 28, u 29, u 30, u 31, u 32, u 33, u 34, u 35, u 36, u 37, u 38, u 39, u 40, u 41, u 42], defers := [] }) ?_ ?_
  · refine wp_region_schedB (B := B) (fun X => Blk X b0 0 4 (recF zRec) ∧ X.cell? ⟨g, o + 4, none⟩ = some (.int .u8 (m4 : Int)) ∧ X.cell? ⟨g, o + 5, none⟩ = some (.int .u8 (m5 : Int)) ∧ Bts X (some ⟨g, o, none⟩) (l.take 4) ∧ Bts X (some ⟨g, o + 6, none⟩) (l.drop 6) ∧ Below b0 w X ∧ X.heap.size = B) (.two [0, 1, 2, 3, 4, 5, 6, 7, 8, 9, 10, 13, 14] 11 (.two [12] 15 (.one [16] 17 (.one [] 18 (.done []))) 17 (.one [] 15 (.one [16] 18 (.done [])))) 17 (.one [] 11 (.one [12] 15 (.one [16] 18 (.done []))))) (by kernel_rfl) (by kernel_rfl) (fun _ _ _ _ _ h => h) ⟨g0.turn (Turns.refl (fun _ => False) _).drew (fun h => h), by go_simp, by go_simp, b4.turn (Turns.refl (fun _ => False) _).drew (fun _ _ h => h), b6.turn (Turns.refl (fun _ => False) _).drew (fun _ _ h => h), hb0.drew, hz0⟩ ?_
    clear g0 k4 k5 b4 b6 hb0 hz0
    rintro X ⟨g0, k4, k5, b4, b6, hb0, hz0⟩
    rw [wpSchedB]
    simp only [pick, List.map_cons, List.map_nil, Array.getD_eq_getD_getElem?, List.getElem?_toArray, List.getElem?_cons_succ, List.getElem?_cons_zero, Option.getD_some]
    have r4 := plusB_cell (B := B) k4 (by simp; omega)
    have r5 := plusB_cell (B := B) k5 (by simp; omega)
    repeat (first | go_big_quiet_step (fail) | quiet_step (fail))
    refine wpQuiet_nil ?_
    clear r4 r5
    refine ⟨?_, ?_⟩
    · refine heavyB_want (by rfl) (fun K' hK' => ?_)
      go_simp
      refine (V4 _ b4).mono ?_
      rintro e X1 ⟨rfl, hw⟩
      obtain rfl : X = X1 := hw.symm
      refine hK' _ _ (Below.refl _ _) ?_
      clear hK' K' hw
      try simp only [Act.put, List.setIfInBounds_toArray, List.set_cons_zero, List.set_cons_succ]
      rw [wpSchedB]
      simp only [pick, List.map_cons, List.map_nil, Array.getD_eq_getD_getElem?, List.getElem?_toArray, List.getElem?_cons_succ, List.getElem?_cons_zero, Option.getD_some]
      repeat (first | go_big_quiet_step (fail) | quiet_step (fail))
      refine wpQuiet_nil ?_
      refine ⟨?_, ?_⟩
      · refine heavyB_want (by rfl) (fun K' hK' => ?_)
        go_simp
        refine (V6 _ b6).mono ?_
        rintro e X2 ⟨rfl, hw⟩
        obtain rfl : X = X2 := hw.symm
        refine hK' _ _ (Below.refl _ _) ?_
        clear hK' K' hw
        try simp only [Act.put, List.setIfInBounds_toArray, List.set_cons_zero, List.set_cons_succ]
        rw [wpSchedB]
        simp only [pick, List.map_cons, List.map_nil, Array.getD_eq_getD_getElem?, List.getElem?_toArray, List.getElem?_cons_succ, List.getElem?_cons_zero, Option.getD_some]
        repeat (first | go_big_quiet_step (fail) | quiet_step (fail))
        refine wpQuiet_nil ?_
        refine heavyB_want (by rfl) (fun K' hK' => ?_)
        refine wp_allocAt _ rfl rec_zero ?_
        intro X3 g4 hb hz4
        refine hK' _ _ (hb.mono (by omega)) ?_
        clear hK' K'
        replace g0 := g0.later hb
        replace b4 := b4.later hb
        replace b6 := b6.later hb
        replace hb0 := hb0.trans (hb.mono (by omega))
        rw [hz0] at g4 hz4 ⊢
        clear hb
        try simp only [Act.put, List.setIfInBounds_toArray, List.set_cons_zero, List.set_cons_succ]
        rw [wpSchedB]
        simp only [pick, List.map_nil, Array.getD_eq_getD_getElem?, List.getElem?_toArray, List.getElem?_cons_succ, List.getElem?_cons_zero, Option.getD_some]
        refine wpQuiet_nil ?_
        refine heavyB_want (by rfl) (fun K' hK' => ?_)
        refine wp_storeAt rfl _ (.tmp 4) (.tmp 25) rfl (b := B) (q := 0) rfl (v := recF ⟨m4, m5, V, dg⟩) rfl g4 (fun j _ => rec_one _ _) rec_size ?_
        intro X4 u4
        refine hK' _ _ (u4.below _ _ (Nat.le_refl _) (Below.refl _ _)) ?_
        clear hK' K'
        replace g0 := u4.other (.inl (by omega)) g0
        replace hb0 := u4.below _ _ (by omega) hb0
        replace g4 := u4.blk
        clear u4 b4 b6
        try simp only [Act.put, List.setIfInBounds_toArray, List.set_cons_zero, List.set_cons_succ]
        rw [wpSchedB]
        simp only [List.map_nil]
        refine wpQuiet_nil ?_
        exact NormQ.mk ⟨g0, g4, hb0, ex_frame (by kernel_rfl)⟩
      · refine heavyB_want (by rfl) (fun K' hK' => ?_)
        refine wp_allocAt _ rfl rec_zero ?_
        intro X2 g4 hb hz4
        refine hK' _ _ (hb.mono (by omega)) ?_
        clear hK' K'
        replace g0 := g0.later hb
        replace b4 := b4.later hb
        replace b6 := b6.later hb
        replace hb0 := hb0.trans (hb.mono (by omega))
        rw [hz0] at g4 hz4 ⊢
        clear hb
        try simp only [Act.put, List.setIfInBounds_toArray, List.set_cons_zero, List.set_cons_succ]
        rw [wpSchedB]
        simp only [pick, List.map_nil, Array.getD_eq_getD_getElem?, List.getElem?_toArray, List.getElem?_cons_succ, List.getElem?_cons_zero, Option.getD_some]
        refine wpQuiet_nil ?_
        refine heavyB_want (by rfl) (fun K' hK' => ?_)
        go_simp
        refine (V6 _ b6).mono ?_
        rintro e X3 ⟨rfl, hw⟩
        obtain rfl : X2 = X3 := hw.symm
        refine hK' _ _ (Below.refl _ _) ?_
        clear hK' K' hw
        try simp only [Act.put, List.setIfInBounds_toArray, List.set_cons_zero, List.set_cons_succ]
        rw [wpSchedB]
        simp only [pick, List.map_cons, List.map_nil, Array.getD_eq_getD_getElem?, List.getElem?_toArray, List.getElem?_cons_succ, List.getElem?_cons_zero, Option.getD_some]
        repeat (first | go_big_quiet_step (fail) | quiet_step (fail))
        refine wpQuiet_nil ?_
        refine heavyB_want (by rfl) (fun K' hK' => ?_)
        refine wp_storeAt rfl _ (.tmp 4) (.tmp 25) rfl (b := B) (q := 0) rfl (v := recF ⟨m4, m5, V, dg⟩) rfl g4 (fun j _ => rec_one _ _) rec_size ?_
        intro X4 u4
        refine hK' _ _ (u4.below _ _ (Nat.le_refl _) (Below.refl _ _)) ?_
        clear hK' K'
        replace g0 := u4.other (.inl (by omega)) g0
        replace hb0 := u4.below _ _ (by omega) hb0
        replace g4 := u4.blk
        clear u4 b4 b6
        try simp only [Act.put, List.setIfInBounds_toArray, List.set_cons_zero, List.set_cons_succ]
        rw [wpSchedB]
        simp only [List.map_nil]
        refine wpQuiet_nil ?_
        exact NormQ.mk ⟨g0, g4, hb0, ex_frame (by kernel_rfl)⟩
    · refine heavyB_want (by rfl) (fun K' hK' => ?_)
      refine wp_allocAt _ rfl rec_zero ?_
      intro X1 g4 hb hz4
      refine hK' _ _ (hb.mono (by omega)) ?_
      clear hK' K'
      replace g0 := g0.later hb
      replace b4 := b4.later hb
      replace b6 := b6.later hb
      replace hb0 := hb0.trans (hb.mono (by omega))
      rw [hz0] at g4 hz4 ⊢
      clear hb
      try simp only [Act.put, List.setIfInBounds_toArray, List.set_cons_zero, List.set_cons_succ]
      rw [wpSchedB]
      simp only [pick, List.map_nil, Array.getD_eq_getD_getElem?, List.getElem?_toArray, List.getElem?_cons_succ, List.getElem?_cons_zero, Option.getD_some]
      refine wpQuiet_nil ?_
      refine heavyB_want (by rfl) (fun K' hK' => ?_)
      go_simp
      refine (V4 _ b4).mono ?_
      rintro e X2 ⟨rfl, hw⟩
      obtain rfl : X1 = X2 := hw.symm
      refine hK' _ _ (Below.refl _ _) ?_
      clear hK' K' hw
      try simp only [Act.put, List.setIfInBounds_toArray, List.set_cons_zero, List.set_cons_succ]
      rw [wpSchedB]
      simp only [pick, List.map_cons, List.map_nil, Array.getD_eq_getD_getElem?, List.getElem?_toArray, List.getElem?_cons_succ, List.getElem?_cons_zero, Option.getD_some]
      repeat (first | go_big_quiet_step (fail) | quiet_step (fail))
      refine wpQuiet_nil ?_
      refine heavyB_want (by rfl) (fun K' hK' => ?_)
      go_simp
      refine (V6 _ b6).mono ?_
      rintro e X3 ⟨rfl, hw⟩
      obtain rfl : X1 = X3 := hw.symm
      refine hK' _ _ (Below.refl _ _) ?_
      clear hK' K' hw
      try simp only [Act.put, List.setIfInBounds_toArray, List.set_cons_zero, List.set_cons_succ]
      rw [wpSchedB]
      simp only [pick, List.map_cons, List.map_nil, Array.getD_eq_getD_getElem?, List.getElem?_toArray, List.getElem?_cons_succ, List.getElem?_cons_zero, Option.getD_some]
      repeat (first | go_big_quiet_step (fail) | quiet_step (fail))
      refine wpQuiet_nil ?_
      refine heavyB_want (by rfl) (fun K' hK' => ?_)
      refine wp_storeAt rfl _ (.tmp 4) (.tmp 25) rfl (b := B) (q := 0) rfl (v := recF ⟨m4, m5, V, dg⟩) rfl g4 (fun j _ => rec_one _ _) rec_size ?_
      intro X4 u4
      refine hK' _ _ (u4.below _ _ (Nat.le_refl _) (Below.refl _ _)) ?_
      clear hK' K'
      replace g0 := u4.other (.inl (by omega)) g0
      replace hb0 := u4.below _ _ (by omega) hb0
      replace g4 := u4.blk
      clear u4 b4 b6
      try simp only [Act.put, List.setIfInBounds_toArray, List.set_cons_zero, List.set_cons_succ]
      rw [wpSchedB]
      simp only [List.map_nil]
      refine wpQuiet_nil ?_
      exact NormQ.mk ⟨g0, g4, hb0, ex_frame (by kernel_rfl)⟩
  clear V4 V6 k4 k5 zg hwr q4 q5 wi4 wi5 c1 c2 c3 c4 c5 g0 hb0 b4 b6 hz0
  rintro a' X1 ⟨g0, g4, hb0, u, rfl⟩
  go_wp2_with fail
  have f0 := g4.bank
  have f1 := g4.chunks
  simp only at f0 f1
  by_cases h1 : ¬ m4 ≤ 1
  · have p1 : decide ((m4 : Int) ≤ 1) = false := by simp; omega
    have p1n : decide (m4 ≤ 1) = false := by simp; omega
    have OK : Hid (ok = false) := by show _ = _; rw [HO.out]; simp [h1]
    refine wp_region_schedT (T := fun b => b = b0) (fun Z => Blk Z b0 0 4 (recF zRec) ∧ Blk Z B 0 4 (recF ⟨m4, m5, V, dg⟩) ∧ Z.cell? ⟨B, 0, none⟩ = some (.int .i64 (m4 : Int)) ∧ Z.cell? ⟨B, 1, none⟩ = some (.int .i64 (m5 : Int)) ∧ Below b0 w Z) (.one [0, 1, 2, 3, 4, 5, 6, 7, 8, 9, 10, 11, 12, 13, 14, 15, 16] 17 (.done [18])) (by kernel_rfl) (by kernel_rfl) (fun _ _ _ _ _ h => h) ⟨g0.turn (Turns.refl (fun _ => False) _).drew (fun h => h), g4.turn (Turns.refl (fun _ => False) _).drew (fun h => h), by go_simp, by go_simp, hb0.drew⟩ ?_
    clear g0 g4 f0 f1 hb0
    rintro Z ⟨g0, g4, f0, f1, hb0⟩
    rw [wpSchedT]
    simp only [pick, List.map_cons, List.map_nil, Array.getD_eq_getD_getElem?, List.getElem?_toArray, List.getElem?_cons_succ, List.getElem?_cons_zero, Option.getD_some]
    have e0 := plusT_cell (T := fun b => b = b0) f0 (show ¬ B = b0 by omega)
    have e1 := plusT_cell (T := fun b => b = b0) f1 (show ¬ B = b0 by omega)
    have r4 := loadN_T (T := fun b => b = b0) (t := 90) g4 (show ¬ B = b0 by omega) (fun X h => run_loadRec h)
    repeat (first | (refine wpQuiet_loadN rfl _ (.tmp 4) rfl (b := B) (q := 0) rfl r4 ?_; try simp only [Act.put, List.setIfInBounds_toArray, List.set_cons_zero, List.set_cons_succ]) | go_big_quiet_step (fail) | quiet_step (fail))
    refine wpQuiet_nil ?_
    clear e0 e1 r4
    refine heavyT_want (by rfl) (fun K' hK' => ?_)
    refine wp_storeAt rfl _ (.tmp 2) (.tmp 26) rfl (b := b0) (q := 0) rfl (v := recF ⟨m4, m5, V, dg⟩) rfl g0 (fun j _ => rec_one _ _) rec_size ?_
    intro Z1 u0
    refine hK' _ _ (u0.turns _ _ (fun _ => rfl) (Turns.refl _ _)) ?_
    clear hK' K'
    replace hb0 := u0.below _ _ (Nat.le_refl _) hb0
    have l1 := run_loadRec u0.blk
    clear u0 g0 g4 f0 f1
    try simp only [Act.put, List.setIfInBounds_toArray, List.set_cons_zero, List.set_cons_succ]
    rw [wpSchedT]
    simp only [pick, List.map_cons, List.map_nil, Array.getD_eq_getD_getElem?, List.getElem?_toArray, List.getElem?_cons_succ, List.getElem?_cons_zero, Option.getD_some]
    repeat (first | go_big_quiet_step (fail) | quiet_step (fail))
    refine wpQuiet_nil ?_
    go_wp2_with fail
    refine bodyPost_ret (v := .tuple #[aggN 4 (recF ⟨m4, m5, V, dg⟩), .bool false]) ?_ rfl ⟨_, by rw [OK.out], (fun _ => HR.out.symm), by rw [hbb]; exact hb0⟩
    rw [results_cell_tmp rfl]
    simp [asAddr, Result.andThen]
    rw [l1]
  rw [Decidable.not_not] at h1
  have p1 : decide ((m4 : Int) ≤ 1) = true := by simp; omega
  have p1n : decide (m4 ≤ 1) = true := by simp; omega
  by_cases h2 : ¬ 1 ≤ m5
  · have p2 : decide ((m5 : Int) ≥ 1) = false := by simp; omega
    have p2i : decide ((1 : Int) ≤ (m5 : Int)) = false := by simp; omega
    have p2n : decide (1 ≤ m5) = false := by simp; omega
    have OK : Hid (ok = false) := by show _ = _; rw [HO.out]; simp [h2]
    refine wp_region_schedT (T := fun b => b = b0) (fun Z => Blk Z b0 0 4 (recF zRec) ∧ Blk Z B 0 4 (recF ⟨m4, m5, V, dg⟩) ∧ Z.cell? ⟨B, 0, none⟩ = some (.int .i64 (m4 : Int)) ∧ Z.cell? ⟨B, 1, none⟩ = some (.int .i64 (m5 : Int)) ∧ Below b0 w Z) (.one [0, 1, 2, 3, 4, 5, 6, 7, 8, 9, 10, 11, 12, 13, 14, 15, 16] 17 (.done [18])) (by kernel_rfl) (by kernel_rfl) (fun _ _ _ _ _ h => h) ⟨g0.turn (Turns.refl (fun _ => False) _).drew (fun h => h), g4.turn (Turns.refl (fun _ => False) _).drew (fun h => h), by go_simp, by go_simp, hb0.drew⟩ ?_
    clear g0 g4 f0 f1 hb0
    rintro Z ⟨g0, g4, f0, f1, hb0⟩
    rw [wpSchedT]
    simp only [pick, List.map_cons, List.map_nil, Array.getD_eq_getD_getElem?, List.getElem?_toArray, List.getElem?_cons_succ, List.getElem?_cons_zero, Option.getD_some]
    have e0 := plusT_cell (T := fun b => b = b0) f0 (show ¬ B = b0 by omega)
    have e1 := plusT_cell (T := fun b => b = b0) f1 (show ¬ B = b0 by omega)
    have r4 := loadN_T (T := fun b => b = b0) (t := 90) g4 (show ¬ B = b0 by omega) (fun X h => run_loadRec h)
    repeat (first | (refine wpQuiet_loadN rfl _ (.tmp 4) rfl (b := B) (q := 0) rfl r4 ?_; try simp only [Act.put, List.setIfInBounds_toArray, List.set_cons_zero, List.set_cons_succ]) | go_big_quiet_step (fail) | quiet_step (fail))
    refine wpQuiet_nil ?_
    clear e0 e1 r4
    refine heavyT_want (by rfl) (fun K' hK' => ?_)
    refine wp_storeAt rfl _ (.tmp 2) (.tmp 26) rfl (b := b0) (q := 0) rfl (v := recF ⟨m4, m5, V, dg⟩) rfl g0 (fun j _ => rec_one _ _) rec_size ?_
    intro Z1 u0
    refine hK' _ _ (u0.turns _ _ (fun _ => rfl) (Turns.refl _ _)) ?_
    clear hK' K'
    replace hb0 := u0.below _ _ (Nat.le_refl _) hb0
    have l1 := run_loadRec u0.blk
    clear u0 g0 g4 f0 f1
    try simp only [Act.put, List.setIfInBounds_toArray, List.set_cons_zero, List.set_cons_succ]
    rw [wpSchedT]
    simp only [pick, List.map_cons, List.map_nil, Array.getD_eq_getD_getElem?, List.getElem?_toArray, List.getElem?_cons_succ, List.getElem?_cons_zero, Option.getD_some]
    repeat (first | go_big_quiet_step (fail) | quiet_step (fail))
    refine wpQuiet_nil ?_
    go_wp2_with fail
    refine bodyPost_ret (v := .tuple #[aggN 4 (recF ⟨m4, m5, V, dg⟩), .bool false]) ?_ rfl ⟨_, by rw [OK.out], (fun _ => HR.out.symm), by rw [hbb]; exact hb0⟩
    rw [results_cell_tmp rfl]
    simp [asAddr, Result.andThen]
    rw [l1]
  rw [Decidable.not_not] at h2
  have p2 : decide ((m5 : Int) ≥ 1) = true := by simp; omega
  have p2i : decide ((1 : Int) ≤ (m5 : Int)) = true := by simp; omega
  have p2n : decide (1 ≤ m5) = true := by simp; omega
  by_cases h3 : ¬ m5 ≤ 16
  · have p3 : decide ((m5 : Int) ≤ 16) = false := by simp; omega
    have p3n : decide (m5 ≤ 16) = false := by simp; omega
    have OK : Hid (ok = false) := by show _ = _; rw [HO.out]; simp [h3]
    refine wp_region_schedT (T := fun b => b = b0) (fun Z => Blk Z b0 0 4 (recF zRec) ∧ Blk Z B 0 4 (recF ⟨m4, m5, V, dg⟩) ∧ Z.cell? ⟨B, 0, none⟩ = some (.int .i64 (m4 : Int)) ∧ Z.cell? ⟨B, 1, none⟩ = some (.int .i64 (m5 : Int)) ∧ Below b0 w Z) (.one [0, 1, 2, 3, 4, 5, 6, 7, 8, 9, 10, 11, 12, 13, 14, 15, 16] 17 (.done [18])) (by kernel_rfl) (by kernel_rfl) (fun _ _ _ _ _ h => h) ⟨g0.turn (Turns.refl (fun _ => False) _).drew (fun h => h), g4.turn (Turns.refl (fun _ => False) _).drew (fun h => h), by go_simp, by go_simp, hb0.drew⟩ ?_
    clear g0 g4 f0 f1 hb0
    rintro Z ⟨g0, g4, f0, f1, hb0⟩
    rw [wpSchedT]
    simp only [pick, List.map_cons, List.map_nil, Array.getD_eq_getD_getElem?, List.getElem?_toArray, List.getElem?_cons_succ, List.getElem?_cons_zero, Option.getD_some]
    have e0 := plusT_cell (T := fun b => b = b0) f0 (show ¬ B = b0 by omega)
    have e1 := plusT_cell (T := fun b => b = b0) f1 (show ¬ B = b0 by omega)
    have r4 := loadN_T (T := fun b => b = b0) (t := 90) g4 (show ¬ B = b0 by omega) (fun X h => run_loadRec h)
    repeat (first | (refine wpQuiet_loadN rfl _ (.tmp 4) rfl (b := B) (q := 0) rfl r4 ?_; try simp only [Act.put, List.setIfInBounds_toArray, List.set_cons_zero, List.set_cons_succ]) | go_big_quiet_step (fail) | quiet_step (fail))
    refine wpQuiet_nil ?_
    clear e0 e1 r4
    refine heavyT_want (by rfl) (fun K' hK' => ?_)
    refine wp_storeAt rfl _ (.tmp 2) (.tmp 26) rfl (b := b0) (q := 0) rfl (v := recF ⟨m4, m5, V, dg⟩) rfl g0 (fun j _ => rec_one _ _) rec_size ?_
    intro Z1 u0
    refine hK' _ _ (u0.turns _ _ (fun _ => rfl) (Turns.refl _ _)) ?_
    clear hK' K'
    replace hb0 := u0.below _ _ (Nat.le_refl _) hb0
    have l1 := run_loadRec u0.blk
    clear u0 g0 g4 f0 f1
    try simp only [Act.put, List.setIfInBounds_toArray, List.set_cons_zero, List.set_cons_succ]
    rw [wpSchedT]
    simp only [pick, List.map_cons, List.map_nil, Array.getD_eq_getD_getElem?, List.getElem?_toArray, List.getElem?_cons_succ, List.getElem?_cons_zero, Option.getD_some]
    repeat (first | go_big_quiet_step (fail) | quiet_step (fail))
    refine wpQuiet_nil ?_
    go_wp2_with fail
    refine bodyPost_ret (v := .tuple #[aggN 4 (recF ⟨m4, m5, V, dg⟩), .bool false]) ?_ rfl ⟨_, by rw [OK.out], (fun _ => HR.out.symm), by rw [hbb]; exact hb0⟩
    rw [results_cell_tmp rfl]
    simp [asAddr, Result.andThen]
    rw [l1]
  rw [Decidable.not_not] at h3
  have p3 : decide ((m5 : Int) ≤ 16) = true := by simp; omega
  have p3n : decide (m5 ≤ 16) = true := by simp; omega
  have OK : Hid (ok = true) := by show _ = _; rw [HO.out]; simp [h1, h2, h3]
  refine wp_region_schedT (T := fun b => b = b0) (fun Z => Blk Z b0 0 4 (recF zRec) ∧ Blk Z B 0 4 (recF ⟨m4, m5, V, dg⟩) ∧ Z.cell? ⟨B, 0, none⟩ = some (.int .i64 (m4 : Int)) ∧ Z.cell? ⟨B, 1, none⟩ = some (.int .i64 (m5 : Int)) ∧ Below b0 w Z) (.one [0, 1, 2, 3, 4, 5, 6, 7, 8, 9, 10, 11, 12, 13, 14, 15, 16] 17 (.done [18])) (by kernel_rfl) (by kernel_rfl) (fun _ _ _ _ _ h => h) ⟨g0.turn (Turns.refl (fun _ => False) _).drew (fun h => h), g4.turn (Turns.refl (fun _ => False) _).drew (fun h => h), by go_simp, by go_simp, hb0.drew⟩ ?_
  clear g0 g4 f0 f1 hb0
  rintro Z ⟨g0, g4, f0, f1, hb0⟩
  rw [wpSchedT]
  simp only [pick, List.map_cons, List.map_nil, Array.getD_eq_getD_getElem?, List.getElem?_toArray, List.getElem?_cons_succ, List.getElem?_cons_zero, Option.getD_some]
  have e0 := plusT_cell (T := fun b => b = b0) f0 (show ¬ B = b0 by omega)
  have e1 := plusT_cell (T := fun b => b = b0) f1 (show ¬ B = b0 by omega)
  have r4 := loadN_T (T := fun b => b = b0) (t := 90) g4 (show ¬ B = b0 by omega) (fun X h => run_loadRec h)
  repeat (first | (refine wpQuiet_loadN rfl _ (.tmp 4) rfl (b := B) (q := 0) rfl r4 ?_; try simp only [Act.put, List.setIfInBounds_toArray, List.set_cons_zero, List.set_cons_succ]) | go_big_quiet_step (fail) | quiet_step (fail))
  refine wpQuiet_nil ?_
  clear e0 e1 r4
  refine heavyT_want (by rfl) (fun K' hK' => ?_)
  refine wp_storeAt rfl _ (.tmp 2) (.tmp 26) rfl (b := b0) (q := 0) rfl (v := recF ⟨m4, m5, V, dg⟩) rfl g0 (fun j _ => rec_one _ _) rec_size ?_
  intro Z1 u0
  refine hK' _ _ (u0.turns _ _ (fun _ => rfl) (Turns.refl _ _)) ?_
  clear hK' K'
  replace hb0 := u0.below _ _ (Nat.le_refl _) hb0
  have l1 := run_loadRec u0.blk
  clear u0 g0 g4 f0 f1
  try simp only [Act.put, List.setIfInBounds_toArray, List.set_cons_zero, List.set_cons_succ]
  rw [wpSchedT]
  simp only [pick, List.map_cons, List.map_nil, Array.getD_eq_getD_getElem?, List.getElem?_toArray, List.getElem?_cons_succ, List.getElem?_cons_zero, Option.getD_some]
  repeat (first | go_big_quiet_step (fail) | quiet_step (fail))
  refine wpQuiet_nil ?_
  go_wp2_with fail
  refine bodyPost_ret (v := .tuple #[aggN 4 (recF ⟨m4, m5, V, dg⟩), .bool true]) ?_ rfl ⟨_, by rw [OK.out], (fun _ => HR.out.symm), by rw [hbb]; exact hb0⟩
  rw [results_cell_tmp rfl]
  simp [asAddr, Result.andThen]
  rw [l1]

theorem decode_any (x : Option Addr) (l : List UInt8) (c : Nat) (w : World) (hx : Bts w x l) (hc : l.length ≤ c ∧ c ≤ 9223372036854775807) : Calls Tryz.prog 101 #[.slice x l.length c] w (DecOf l w) := by
  by_cases hl : l.length = 14
  · exact decode_len x l c w hx hl (by omega)
  · exact decode_bad x l c w hl

end Go.Proofs.YtapefonhgkjgnaaGreat
