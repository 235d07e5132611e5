/- WALKS of the loader: usable, running, Running. -/
import Derived.Test.YtapefonhgkjgnaaGreatLdL
set_option maxRecDepth 20000
namespace Go.Proofs.YtapefonhgkjgnaaGreat
open Go.RowKit

def ldrF (x : Option Addr) (n c : Nat) (root : D64) (h : Int) (j : Nat) : Value := if j = 0 then .slice x n c else if j = 1 then .int .u64 (num root) else .int .i64 h
theorem ldr_struct : (match Tryz.prog.underlying 93 with | some (.struct _) => true | _ => false) = true := by kernel_rfl
theorem ldr_size : (Tryz.prog.info? 93).map (·.size) = some 3 := by kernel_rfl
theorem run_loadLdr {W : World} {b o : Nat} {v : Nat → Value} (h : Blk W b o 3 v) : (loadVar 93 ⟨b, o, none⟩).run Tryz.prog W = .ok (aggN 3 v) W := by
  have hs := ldr_struct
  cases hq : Tryz.prog.underlying 93 with
  | none => rw [hq] at hs; cases hs
  | some d =>
    rw [hq] at hs
    exact run_loadN h hq (by cases d <;> first | rfl | (simp at hs)) ldr_size
theorem ldr_agg (x : Option Addr) (n c : Nat) (root : D64) (h : Int) : aggN 3 (ldrF x n c root h) = .agg #[.slice x n c, .int .u64 (num root), .int .i64 h] := rfl

theorem usable_any (x : Option Addr) (rs : List Rw) (c : Nat) (w : World) (hs : Rws w x rs) (hn : rs.length ≤ 1000) : Calls Tryz.prog 42 #[.agg #[.slice x rs.length c]] w fun e w' => e = .returned (.bool (Ld.usable (rs.map (·.l)))) ∧ Below w.heap.size w w' := by
  have HV := fun (W : World) (h : Rws W x rs) => valid_any x rs c W h hn
  have HU : Hid (Ld.usable (rs.map (·.l)) = (vldS (rs.map (·.l)) && decide (rs.length = 34))) := by show _ = _; unfold Ld.usable; rw [List.length_map]
  obtain ⟨v, hv⟩ : ∃ v, vldS (rs.map (·.l)) = v := ⟨_, rfl⟩
  obtain ⟨u, hu⟩ : ∃ v, Ld.usable (rs.map (·.l)) = v := ⟨_, rfl⟩
  rw [hv] at HV HU
  rw [hu] at HU ⊢
  obtain ⟨n, hnr⟩ : ∃ n, rs.length = n := ⟨_, rfl⟩
  rw [hnr] at HV HU ⊢
  clear hv hu hnr hn
  have hB := Below.refl w.heap.size w
  cases v with
  | false =>
    have hr : u = false := by rw [HU.out]; rfl
    subst hr
    go_enter Tryz.func42, Tryz.ntmps42
    go_wp2_with fail
    refine (HV _ (hs.later (al hB _))).mono ?_
    rintro e w1 ⟨rfl, hb⟩
    have hB1 := thru (al hB _) hb
    clear hb
    go_wp2_with fail
    go_ret
    exact ⟨rfl, hB1⟩
  | true =>
    by_cases h34 : n = 34
    · have hr : u = true := by rw [HU.out, h34]; rfl
      subst hr
      subst h34
      go_enter Tryz.func42, Tryz.ntmps42
      go_wp2_with fail
      refine (HV _ (hs.later (al hB _))).mono ?_
      rintro e w1 ⟨rfl, hb⟩
      have g0 := later (a := ⟨w.heap.size, 0, none⟩) (v := .slice x 34 c) hb (by go_simp)
      have hB1 := thru (al hB _) hb
      clear hb
      go_wp2_with fail
      go_ret
      exact ⟨rfl, hB1⟩
    · have hr : u = false := by rw [HU.out, decide_eq_false h34]; rfl
      subst hr
      have d1 : ((n : Int) == 34) = false := by simp; omega
      go_enter Tryz.func42, Tryz.ntmps42
      go_wp2_with fail
      refine (HV _ (hs.later (al hB _))).mono ?_
      rintro e w1 ⟨rfl, hb⟩
      have g0 := later (a := ⟨w.heap.size, 0, none⟩) (v := .slice x n c) hb (by go_simp)
      have hB1 := thru (al hB _) hb
      clear hb
      go_wp2_with fail
      go_ret
      exact ⟨rfl, hB1⟩

def RunOf (ls : List (List UInt8)) (root : D64) (h : Int) (w : World) (e : Ending) (w' : World) : Prop :=
  ∃ r s a, e = .returned (.tuple #[aggN 4 (recF r), aggN 23 (softV s a), .int .i64 (Ld.atR ls root h)]) ∧ SwIn w' s a ∧ SwNew w.heap.size a ∧ (0 ≤ Ld.atR ls root h → r = Ld.ldR ls (Ld.atR ls root h).toNat ∧ s = Ld.ldS ls (Ld.atR ls root h).toNat) ∧ Below w.heap.size w w'
theorem RunOf.mk {ls : List (List UInt8)} {root : D64} {h : Int} {w w' : World} {r : Ld.Rec} {s : Ld.Sw} {a : SwA} (i : Nat) (hk : Ld.atR ls root h = (i : Int)) (hs : SwIn w' s a) (hw : SwNew w.heap.size a) (h1 : r = Ld.ldR ls i) (h2 : s = Ld.ldS ls i) (hb : Below w.heap.size w w') : RunOf ls root h w (.returned (.tuple #[aggN 4 (recF r), aggN 23 (softV s a), .int .i64 (i : Int)])) w' :=
  ⟨r, s, a, by rw [hk], hs, hw, (fun _ => by rw [hk, Int.toNat_natCast]; exact ⟨h1, h2⟩), hb⟩
theorem RunOf.none {ls : List (List UInt8)} {root : D64} {h : Int} {w w' : World} {r : Ld.Rec} {s : Ld.Sw} {a : SwA} (hk : Ld.atR ls root h = -1) (hs : SwIn w' s a) (hw : SwNew w.heap.size a) (hb : Below w.heap.size w w') : RunOf ls root h w (.returned (.tuple #[aggN 4 (recF r), aggN 23 (softV s a), .int .i64 (-1)])) w' :=
  ⟨r, s, a, by rw [hk], hs, hw, (fun e => by rw [hk] at e; omega), hb⟩

set_option maxHeartbeats 4000000 in
theorem running_any (x : Option Addr) (rs : List Rw) (c : Nat) (root : D64) (h : Int) (w : World) (hs : Rws w x rs) (hn : rs.length ≤ 1000) :
    Calls Tryz.prog 43 #[.agg #[.slice x rs.length c, .int .u64 (num root), .int .i64 h]] w (RunOf (rs.map (·.l)) root h w) := by
  have H0 := fun (W : World) (hW : Rws W x rs) => lead_any x rs c 0 root h W hW hn
  have H1 := fun (W : World) (hW : Rws W x rs) => lead_any x rs c 1 root h W hW hn
  obtain ⟨ls, hls⟩ : ∃ ls, rs.map (·.l) = ls := ⟨_, rfl⟩
  rw [hls] at H0 H1 ⊢
  obtain ⟨nr, hnr⟩ : ∃ n, rs.length = n := ⟨_, rfl⟩
  rw [hnr] at H0 H1 ⊢
  clear hls hnr hn
  rw [← ldr_agg] at H0 H1 ⊢
  unfold LeadOf at H0 H1
  have HA : Hid (Ld.atR ls root h = if (Ld.okL ls 0 root h && (!Ld.okL ls 1 root h || decide ((Ld.ldR ls 1).number ≤ (Ld.ldR ls 0).number))) = true then 0 else if Ld.okL ls 1 root h = true then 1 else -1) := rfl
  obtain ⟨f, hf⟩ : ∃ b, Ld.okL ls 0 root h = b := ⟨_, rfl⟩
  obtain ⟨s, hsd⟩ : ∃ b, Ld.okL ls 1 root h = b := ⟨_, rfl⟩
  rw [hf] at H0 HA
  rw [hsd] at H1 HA
  clear hf hsd
  go_enter Tryz.func43, Tryz.ntmps43
  go_wp2_with (refine wpList_boxN (n := 3) (v := ldrF x nr c root h) rfl _ _ rfl rfl ?_; intro W1 g1 hb1 hz1; refine Hid.out ?_)
  unfold Hid
  try simp only [Act.put, List.setIfInBounds_toArray, List.set_cons_zero, List.set_cons_succ]
  go_wp2_with (refine wpList_allocTo 2 rfl rfl _ rfl rec_zero ?_; intro W2 g2 hb2 hz2; refine Hid.out ?_)
  unfold Hid
  try simp only [Act.put, List.setIfInBounds_toArray, List.set_cons_zero, List.set_cons_succ]
  go_wp2_with (refine wpList_allocTo 3 rfl rfl _ rfl soft_zero ?_; intro W3 g3 hb3 hz3; refine Hid.out ?_)
  unfold Hid
  try simp only [Act.put, List.setIfInBounds_toArray, List.set_cons_zero, List.set_cons_succ]
  have hs := ((hs.later hb1).later hb2).later hb3
  have g1 := (g1.later hb2).later hb3
  have g2 := g2.later hb3
  have hB := thru (thru hb1 hb2) hb3
  obtain ⟨b1, e1⟩ : ∃ b, w.heap.size = b := ⟨_, rfl⟩
  obtain ⟨b2, e2⟩ : ∃ b, W1.heap.size = b := ⟨_, rfl⟩
  obtain ⟨b3, e3⟩ : ∃ b, W2.heap.size = b := ⟨_, rfl⟩
  rw [e1] at g1 hB hz1 ⊢
  rw [e2] at g2 hz1 hz2 ⊢
  rw [e3] at g3 hz2 hz3 ⊢
  clear hb1 hb2 hb3
  have z3 : b3 < W3.heap.size := by omega
  have z12 : b1 < b2 := by omega
  have z23 : b2 < b3 := by omega
  clear e2 e3 hz1 hz2 hz3
  go_wp2_with (refine wpList_loadN rfl _ _ rfl (b := b1) (q := 0) rfl (run_loadLdr g1) ?_)
  refine (H0 _ hs).mono ?_
  rintro e w1 ⟨r5, s5, a5, rfl, i5, n5, hq5, hb⟩
  replace g1 := g1.later hb
  replace g2 := g2.later hb
  replace g3 := g3.later hb
  replace hs := hs.later hb
  replace hB := hB.trans (hb.mono (by omega))
  have h5 : (∀ p, a5.xi = some p → b3 < p.block) ∧ (∀ p, a5.xp = some p → b3 < p.block) := ⟨fun p e => (by have := n5.1 p e; omega), fun p e => (by have := n5.2 p e; omega)⟩
  have hz := hb.size
  replace z3 : b3 < w1.heap.size := by omega
  clear hb H0 n5 hz
  go_wp2_with (refine wpList_allocTo 5 rfl rfl _ rfl rec_zero ?_; intro Xt0 a_b5 hb0 hz0; refine Hid.out ?_)
  unfold Hid
  try simp only [Act.put, List.setIfInBounds_toArray, List.set_cons_zero, List.set_cons_succ]
  obtain ⟨b5, e_b5⟩ : ∃ a, w1.heap.size = a := ⟨_, rfl⟩
  have s_b5 : w1.heap.size ≤ b5 := by omega
  have hb := hb0
  rw [e_b5] at a_b5 hz0 ⊢
  clear hb0
  go_wp2_with (refine wpList_allocTo 6 rfl rfl _ rfl soft_zero ?_; intro Xt1 a_b6 hb1 hz1; refine Hid.out ?_)
  unfold Hid
  try simp only [Act.put, List.setIfInBounds_toArray, List.set_cons_zero, List.set_cons_succ]
  obtain ⟨b6, e_b6⟩ : ∃ a, Xt0.heap.size = a := ⟨_, rfl⟩
  have s_b6 : w1.heap.size ≤ b6 := by omega
  have s_b5b6 : b5 < b6 := by omega
  replace hb := thru hb hb1
  replace a_b5 := a_b5.later hb1
  rw [e_b6] at a_b6 hz1 ⊢
  clear hb1
  have hz : b5 < Xt1.heap.size ∧ b6 < Xt1.heap.size := by omega
  clear e_b5 hz0 e_b6 hz1
  go_wp2_with (refine wpList_storeB rfl rfl _ (.tmp 5) _ rfl (b := b5) (q := 0) rfl (n := 4) (v := recF r5) rfl a_b5 (fun j _ => rec_one _ _) rec_size ?_; intro Yt0 t1; refine Hid.out ?_)
  unfold Hid
  replace hb := t1.below _ _ (by omega) hb
  replace a_b5 := t1.blk
  replace a_b6 := t1.other (.inl (by omega)) a_b6
  rw [← t1.size] at hz
  clear t1
  go_wp2_with (refine wpList_storeB rfl rfl _ (.tmp 6) _ rfl (b := b6) (q := 0) rfl (n := 23) (v := softV s5 a5) rfl a_b6 (fun j _ => soft_one _ _ _) soft_size ?_; intro Yt1 t1; refine Hid.out ?_)
  unfold Hid
  replace hb := t1.below _ _ (by omega) hb
  replace a_b6 := t1.blk
  replace a_b5 := t1.other (.inl (by omega)) a_b5
  rw [← t1.size] at hz
  clear t1
  replace g1 := g1.later hb
  replace g2 := g2.later hb
  replace g3 := g3.later hb
  replace hs := hs.later hb
  replace i5 := i5.later hb
  replace hB := hB.trans (hb.mono (by omega))
  clear hb hz
  have z3 : b3 < Yt1.heap.size := Nat.lt_of_lt_of_le (by omega : b3 < b5) (Nat.le_of_lt (World.block_lt_of_cell? _ _ (a_b5.at 0 (by omega)).1))
  have m5 : b3 < b5 ∧ b3 < b6 := by omega
  clear s_b5 s_b6 s_b5b6
  go_wp2_with (refine wpList_loadN rfl _ _ rfl (b := b1) (q := 0) rfl (run_loadLdr g1) ?_)
  refine (H1 _ hs).mono ?_
  rintro e w2 ⟨r8, s8, a8, rfl, i8, n8, hq8, hb⟩
  replace g2 := g2.later hb
  replace g3 := g3.later hb
  replace a_b5 := a_b5.later hb
  replace a_b6 := a_b6.later hb
  replace i5 := i5.later hb
  replace hB := hB.trans (hb.mono (by omega))
  have h8 : (∀ p, a8.xi = some p → b3 < p.block) ∧ (∀ p, a8.xp = some p → b3 < p.block) := ⟨fun p e => (by have := n8.1 p e; omega), fun p e => (by have := n8.2 p e; omega)⟩
  have hz := hb.size
  replace z3 : b3 < w2.heap.size := by omega
  clear hb H1 n8 hz g1 hs
  go_wp2_with (refine wpList_allocTo 8 rfl rfl _ rfl rec_zero ?_; intro Xv0 a_b8 hb0 hz0; refine Hid.out ?_)
  unfold Hid
  try simp only [Act.put, List.setIfInBounds_toArray, List.set_cons_zero, List.set_cons_succ]
  obtain ⟨b8, e_b8⟩ : ∃ a, w2.heap.size = a := ⟨_, rfl⟩
  have s_b8 : w2.heap.size ≤ b8 := by omega
  have hb := hb0
  rw [e_b8] at a_b8 hz0 ⊢
  clear hb0
  go_wp2_with (refine wpList_allocTo 9 rfl rfl _ rfl soft_zero ?_; intro Xv1 a_b9 hb1 hz1; refine Hid.out ?_)
  unfold Hid
  try simp only [Act.put, List.setIfInBounds_toArray, List.set_cons_zero, List.set_cons_succ]
  obtain ⟨b9, e_b9⟩ : ∃ a, Xv0.heap.size = a := ⟨_, rfl⟩
  have s_b9 : w2.heap.size ≤ b9 := by omega
  have s_b8b9 : b8 < b9 := by omega
  replace hb := thru hb hb1
  replace a_b8 := a_b8.later hb1
  rw [e_b9] at a_b9 hz1 ⊢
  clear hb1
  have hz : b8 < Xv1.heap.size ∧ b9 < Xv1.heap.size := by omega
  clear e_b8 hz0 e_b9 hz1
  go_wp2_with (refine wpList_storeB rfl rfl _ (.tmp 8) _ rfl (b := b8) (q := 0) rfl (n := 4) (v := recF r8) rfl a_b8 (fun j _ => rec_one _ _) rec_size ?_; intro Yv0 t1; refine Hid.out ?_)
  unfold Hid
  replace hb := t1.below _ _ (by omega) hb
  replace a_b8 := t1.blk
  replace a_b9 := t1.other (.inl (by omega)) a_b9
  rw [← t1.size] at hz
  clear t1
  go_wp2_with (refine wpList_storeB rfl rfl _ (.tmp 9) _ rfl (b := b9) (q := 0) rfl (n := 23) (v := softV s8 a8) rfl a_b9 (fun j _ => soft_one _ _ _) soft_size ?_; intro Yv1 t1; refine Hid.out ?_)
  unfold Hid
  replace hb := t1.below _ _ (by omega) hb
  replace a_b9 := t1.blk
  replace a_b8 := t1.other (.inl (by omega)) a_b8
  rw [← t1.size] at hz
  clear t1
  replace g2 := g2.later hb
  replace g3 := g3.later hb
  replace a_b5 := a_b5.later hb
  replace a_b6 := a_b6.later hb
  replace i5 := i5.later hb
  replace i8 := i8.later hb
  replace hB := hB.trans (hb.mono (by omega))
  clear hb hz
  have z3 : b3 < Yv1.heap.size := Nat.lt_of_lt_of_le (by omega : b3 < b8) (Nat.le_of_lt (World.block_lt_of_cell? _ _ (a_b8.at 0 (by omega)).1))
  have m8 : b3 < b8 ∧ b3 < b9 := by omega
  clear s_b8 s_b9 s_b8b9
  have c5 := a_b5.numb
  have c8 := a_b8.numb
  have H5 := Lib.hid h5
  have H8 := Lib.hid h8
  clear h5 h8
  cases f with
  | false =>
    cases s with
    | false =>
      have ATR : Ld.atR ls root h = -1 := by rw [HA.out]; rfl
      clear c5 c8 a_b5 a_b6 a_b8 a_b9 i5 i8
      go_wp2_with (refine wpList_storeB rfl rfl _ (.tmp 2) _ rfl (b := b2) (q := 0) rfl (n := 4) (v := recF zRec) rfl g2 (fun j _ => rec_one _ _) rec_size ?_; intro Y1 u1; refine Hid.out ?_)
      unfold Hid
      try simp only [Act.put, List.setIfInBounds_toArray, List.set_cons_zero, List.set_cons_succ]
      replace g3 := u1.other (.inl (by omega)) g3
      replace hB := u1.below _ _ (by omega) hB
      replace g2 := u1.blk
      clear u1
      go_wp2_with (refine wpList_storeB rfl rfl _ (.tmp 3) _ rfl (b := b3) (q := 0) rfl (n := 23) (v := softV zSw zA) rfl g3 (fun j _ => soft_one _ _ _) soft_size ?_; intro Y2 u2; refine Hid.out ?_)
      unfold Hid
      try simp only [Act.put, List.setIfInBounds_toArray, List.set_cons_zero, List.set_cons_succ]
      replace g2 := u2.other (.inl (by omega)) g2
      replace hB := u2.below _ _ (by omega) hB
      replace g3 := u2.blk
      clear u2
      go_wp2_with fail
      exact lead_ret rfl rfl rfl rfl rfl g2 g3 (.none ATR (zSw_in _) (zA_new _) (by rw [e1]; exact hB))
    | true =>
      have ATR : Ld.atR ls root h = ((1 : Nat) : Int) := by rw [HA.out]; rfl
      go_wp2_with fail
      clear c5 c8
      refine wp_region_schedT (T := fun b => b = b2 ∨ b = b3) (fun Z => Blk Z b2 0 4 (recF zRec) ∧ Blk Z b3 0 23 (softV zSw zA) ∧ Blk Z b8 0 4 (recF r8) ∧ Blk Z b9 0 23 (softV s8 a8) ∧ SwIn Z s8 a8 ∧ Below b1 w Z) (.one [0, 1] 2 (.one [] 3 (.done [4]))) (by kernel_rfl) (by kernel_rfl) (fun _ _ _ _ _ h => h) ⟨g2.later (Below.refl _ _).drew, g3.later (Below.refl _ _).drew, a_b8.later (Below.refl _ _).drew, a_b9.later (Below.refl _ _).drew, i8.later (Below.refl _ _).drew, hB.drew⟩ ?_
      clear g2 g3 a_b5 a_b6 a_b8 a_b9 i5 i8 hB z3
      rintro Z ⟨g2, g3, a_b8, a_b9, i8, hB⟩
      rw [wpSchedT]
      simp only [pick, List.map_cons, List.map_nil, Array.getD_eq_getD_getElem?, List.getElem?_toArray, List.getElem?_cons_succ, List.getElem?_cons_zero, Option.getD_some]
      have q5 := loadN_T (T := fun b => b = b2 ∨ b = b3) (t := 90) a_b8 (show ¬ (b8 = b2 ∨ b8 = b3) by omega) (fun X h => run_loadRec h)
      have q6 := loadN_T (T := fun b => b = b2 ∨ b = b3) (t := 29) a_b9 (show ¬ (b9 = b2 ∨ b9 = b3) by omega) (fun X h => run_loadSw h)
      (refine wpQuiet_loadN rfl _ (.tmp 8) rfl (b := b8) (q := 0) rfl q5 ?_; try simp only [Act.put, List.setIfInBounds_toArray, List.set_cons_zero, List.set_cons_succ])
      (refine wpQuiet_loadN rfl _ (.tmp 9) rfl (b := b9) (q := 0) rfl q6 ?_; try simp only [Act.put, List.setIfInBounds_toArray, List.set_cons_zero, List.set_cons_succ])
      refine wpQuiet_nil ?_
      clear q5 q6
      refine heavyT_want (by rfl) (fun K' hK' => ?_)
      refine wp_storeAt rfl _ (.tmp 2) (.tmp 40) rfl (b := b2) (q := 0) rfl (v := recF r8) rfl g2 (fun j _ => rec_one _ _) rec_size ?_
      intro Z1 u2
      refine hK' _ _ (u2.turns _ _ (fun _ => .inl rfl) (Turns.refl _ _)) ?_
      clear hK' K'
      have tn := u2.turns (fun b => b = b2) _ (fun _ => rfl) (Turns.refl _ _)
      replace g3 := u2.other (.inl (by omega)) g3
      replace hB := u2.below _ _ (by omega) hB
      replace g2 := u2.blk
      replace i8 := i8.turn tn (fun p e k => by have := H8.out.1 p e; omega) (fun p e k => by have := H8.out.2 p e; omega)
      clear u2 tn
      try simp only [Act.put, List.setIfInBounds_toArray, List.set_cons_zero, List.set_cons_succ]
      rw [wpSchedT]
      simp only [pick, List.map_nil, Array.getD_eq_getD_getElem?, List.getElem?_toArray, List.getElem?_cons_succ, List.getElem?_cons_zero, Option.getD_some]
      refine wpQuiet_nil ?_
      refine heavyT_want (by rfl) (fun K' hK' => ?_)
      refine wp_storeAt rfl _ (.tmp 3) (.tmp 41) rfl (b := b3) (q := 0) rfl (v := softV s8 a8) rfl g3 (fun j _ => soft_one _ _ _) soft_size ?_
      intro Z2 u3
      refine hK' _ _ (u3.turns _ _ (fun _ => .inr rfl) (Turns.refl _ _)) ?_
      clear hK' K'
      have tn := u3.turns (fun b => b = b3) _ (fun _ => rfl) (Turns.refl _ _)
      replace g2 := u3.other (.inl (by omega)) g2
      replace hB := u3.below _ _ (by omega) hB
      replace g3 := u3.blk
      replace i8 := i8.turn tn (fun p e k => by have := H8.out.1 p e; omega) (fun p e k => by have := H8.out.2 p e; omega)
      clear u3 tn
      try simp only [Act.put, List.setIfInBounds_toArray, List.set_cons_zero, List.set_cons_succ]
      rw [wpSchedT]
      simp only [pick, List.map_cons, List.map_nil, Array.getD_eq_getD_getElem?, List.getElem?_toArray, List.getElem?_cons_succ, List.getElem?_cons_zero, Option.getD_some]
      repeat (first | go_big_quiet_step (fail) | quiet_step (fail))
      refine wpQuiet_nil ?_
      go_wp2_with fail
      exact lead_ret rfl rfl rfl rfl rfl g2 g3 (.mk 1 ATR i8 ⟨fun p e => (by have := H8.out.1 p e; omega), fun p e => (by have := H8.out.2 p e; omega)⟩ (hq8 (by first | exact rfl | trivial)).1 (hq8 (by first | exact rfl | trivial)).2 (by rw [e1]; exact hB))
  | true =>
    cases s with
    | false =>
      have ATR : Ld.atR ls root h = ((0 : Nat) : Int) := by rw [HA.out]; rfl
      go_wp2_with fail
      clear c5 c8
      refine wp_region_schedT (T := fun b => b = b2 ∨ b = b3) (fun Z => Blk Z b2 0 4 (recF zRec) ∧ Blk Z b3 0 23 (softV zSw zA) ∧ Blk Z b5 0 4 (recF r5) ∧ Blk Z b6 0 23 (softV s5 a5) ∧ SwIn Z s5 a5 ∧ Below b1 w Z) (.one [0, 1] 2 (.one [] 3 (.done [4]))) (by kernel_rfl) (by kernel_rfl) (fun _ _ _ _ _ h => h) ⟨g2.later (Below.refl _ _).drew, g3.later (Below.refl _ _).drew, a_b5.later (Below.refl _ _).drew, a_b6.later (Below.refl _ _).drew, i5.later (Below.refl _ _).drew, hB.drew⟩ ?_
      clear g2 g3 a_b5 a_b6 a_b8 a_b9 i5 i8 hB z3
      rintro Z ⟨g2, g3, a_b5, a_b6, i5, hB⟩
      rw [wpSchedT]
      simp only [pick, List.map_cons, List.map_nil, Array.getD_eq_getD_getElem?, List.getElem?_toArray, List.getElem?_cons_succ, List.getElem?_cons_zero, Option.getD_some]
      have q5 := loadN_T (T := fun b => b = b2 ∨ b = b3) (t := 90) a_b5 (show ¬ (b5 = b2 ∨ b5 = b3) by omega) (fun X h => run_loadRec h)
      have q6 := loadN_T (T := fun b => b = b2 ∨ b = b3) (t := 29) a_b6 (show ¬ (b6 = b2 ∨ b6 = b3) by omega) (fun X h => run_loadSw h)
      (refine wpQuiet_loadN rfl _ (.tmp 5) rfl (b := b5) (q := 0) rfl q5 ?_; try simp only [Act.put, List.setIfInBounds_toArray, List.set_cons_zero, List.set_cons_succ])
      (refine wpQuiet_loadN rfl _ (.tmp 6) rfl (b := b6) (q := 0) rfl q6 ?_; try simp only [Act.put, List.setIfInBounds_toArray, List.set_cons_zero, List.set_cons_succ])
      refine wpQuiet_nil ?_
      clear q5 q6
      refine heavyT_want (by rfl) (fun K' hK' => ?_)
      refine wp_storeAt rfl _ (.tmp 2) (.tmp 36) rfl (b := b2) (q := 0) rfl (v := recF r5) rfl g2 (fun j _ => rec_one _ _) rec_size ?_
      intro Z1 u2
      refine hK' _ _ (u2.turns _ _ (fun _ => .inl rfl) (Turns.refl _ _)) ?_
      clear hK' K'
      have tn := u2.turns (fun b => b = b2) _ (fun _ => rfl) (Turns.refl _ _)
      replace g3 := u2.other (.inl (by omega)) g3
      replace hB := u2.below _ _ (by omega) hB
      replace g2 := u2.blk
      replace i5 := i5.turn tn (fun p e k => by have := H5.out.1 p e; omega) (fun p e k => by have := H5.out.2 p e; omega)
      clear u2 tn
      try simp only [Act.put, List.setIfInBounds_toArray, List.set_cons_zero, List.set_cons_succ]
      rw [wpSchedT]
      simp only [pick, List.map_nil, Array.getD_eq_getD_getElem?, List.getElem?_toArray, List.getElem?_cons_succ, List.getElem?_cons_zero, Option.getD_some]
      refine wpQuiet_nil ?_
      refine heavyT_want (by rfl) (fun K' hK' => ?_)
      refine wp_storeAt rfl _ (.tmp 3) (.tmp 37) rfl (b := b3) (q := 0) rfl (v := softV s5 a5) rfl g3 (fun j _ => soft_one _ _ _) soft_size ?_
      intro Z2 u3
      refine hK' _ _ (u3.turns _ _ (fun _ => .inr rfl) (Turns.refl _ _)) ?_
      clear hK' K'
      have tn := u3.turns (fun b => b = b3) _ (fun _ => rfl) (Turns.refl _ _)
      replace g2 := u3.other (.inl (by omega)) g2
      replace hB := u3.below _ _ (by omega) hB
      replace g3 := u3.blk
      replace i5 := i5.turn tn (fun p e k => by have := H5.out.1 p e; omega) (fun p e k => by have := H5.out.2 p e; omega)
      clear u3 tn
      try simp only [Act.put, List.setIfInBounds_toArray, List.set_cons_zero, List.set_cons_succ]
      rw [wpSchedT]
      simp only [pick, List.map_cons, List.map_nil, Array.getD_eq_getD_getElem?, List.getElem?_toArray, List.getElem?_cons_succ, List.getElem?_cons_zero, Option.getD_some]
      repeat (first | go_big_quiet_step (fail) | quiet_step (fail))
      refine wpQuiet_nil ?_
      go_wp2_with fail
      exact lead_ret rfl rfl rfl rfl rfl g2 g3 (.mk 0 ATR i5 ⟨fun p e => (by have := H5.out.1 p e; omega), fun p e => (by have := H5.out.2 p e; omega)⟩ (hq5 (by first | exact rfl | trivial)).1 (hq5 (by first | exact rfl | trivial)).2 (by rw [e1]; exact hB))
    | true =>
      obtain ⟨n5, hn5⟩ : ∃ n, r5.number = n := ⟨_, rfl⟩
      obtain ⟨n8, hn8⟩ : ∃ n, r8.number = n := ⟨_, rfl⟩
      rw [hn5] at c5
      rw [hn8] at c8
      have HN5 : Hid ((Ld.ldR ls 0).number = n5) := by show _ = _; rw [← (hq5 (by first | exact rfl | trivial)).1, hn5]
      have HN8 : Hid ((Ld.ldR ls 1).number = n8) := by show _ = _; rw [← (hq8 (by first | exact rfl | trivial)).1, hn8]
      clear hn5 hn8
      by_cases hge : n8 ≤ n5
      · have w1 : decide ((n5 : Int) ≥ (n8 : Int)) = true := by simp; omega
        have w2 : decide ((n8 : Int) ≤ (n5 : Int)) = true := by simp; omega
        have w3 : decide (n8 ≤ n5) = true := by simp; omega
        have ATR : Ld.atR ls root h = ((0 : Nat) : Int) := by rw [HA.out]; rw [HN5.out, HN8.out, w3]; rfl
        go_wp2_with fail
        clear c5 c8
        refine wp_region_schedT (T := fun b => b = b2 ∨ b = b3) (fun Z => Blk Z b2 0 4 (recF zRec) ∧ Blk Z b3 0 23 (softV zSw zA) ∧ Blk Z b5 0 4 (recF r5) ∧ Blk Z b6 0 23 (softV s5 a5) ∧ SwIn Z s5 a5 ∧ Below b1 w Z) (.one [0, 1] 2 (.one [] 3 (.done [4]))) (by kernel_rfl) (by kernel_rfl) (fun _ _ _ _ _ h => h) ⟨g2.later (Below.refl _ _).drew, g3.later (Below.refl _ _).drew, a_b5.later (Below.refl _ _).drew, a_b6.later (Below.refl _ _).drew, i5.later (Below.refl _ _).drew, hB.drew⟩ ?_
        clear g2 g3 a_b5 a_b6 a_b8 a_b9 i5 i8 hB z3
        rintro Z ⟨g2, g3, a_b5, a_b6, i5, hB⟩
        rw [wpSchedT]
        simp only [pick, List.map_cons, List.map_nil, Array.getD_eq_getD_getElem?, List.getElem?_toArray, List.getElem?_cons_succ, List.getElem?_cons_zero, Option.getD_some]
        have q5 := loadN_T (T := fun b => b = b2 ∨ b = b3) (t := 90) a_b5 (show ¬ (b5 = b2 ∨ b5 = b3) by omega) (fun X h => run_loadRec h)
        have q6 := loadN_T (T := fun b => b = b2 ∨ b = b3) (t := 29) a_b6 (show ¬ (b6 = b2 ∨ b6 = b3) by omega) (fun X h => run_loadSw h)
        (refine wpQuiet_loadN rfl _ (.tmp 5) rfl (b := b5) (q := 0) rfl q5 ?_; try simp only [Act.put, List.setIfInBounds_toArray, List.set_cons_zero, List.set_cons_succ])
        (refine wpQuiet_loadN rfl _ (.tmp 6) rfl (b := b6) (q := 0) rfl q6 ?_; try simp only [Act.put, List.setIfInBounds_toArray, List.set_cons_zero, List.set_cons_succ])
        refine wpQuiet_nil ?_
        clear q5 q6
        refine heavyT_want (by rfl) (fun K' hK' => ?_)
        refine wp_storeAt rfl _ (.tmp 2) (.tmp 36) rfl (b := b2) (q := 0) rfl (v := recF r5) rfl g2 (fun j _ => rec_one _ _) rec_size ?_
        intro Z1 u2
        refine hK' _ _ (u2.turns _ _ (fun _ => .inl rfl) (Turns.refl _ _)) ?_
        clear hK' K'
        have tn := u2.turns (fun b => b = b2) _ (fun _ => rfl) (Turns.refl _ _)
        replace g3 := u2.other (.inl (by omega)) g3
        replace hB := u2.below _ _ (by omega) hB
        replace g2 := u2.blk
        replace i5 := i5.turn tn (fun p e k => by have := H5.out.1 p e; omega) (fun p e k => by have := H5.out.2 p e; omega)
        clear u2 tn
        try simp only [Act.put, List.setIfInBounds_toArray, List.set_cons_zero, List.set_cons_succ]
        rw [wpSchedT]
        simp only [pick, List.map_nil, Array.getD_eq_getD_getElem?, List.getElem?_toArray, List.getElem?_cons_succ, List.getElem?_cons_zero, Option.getD_some]
        refine wpQuiet_nil ?_
        refine heavyT_want (by rfl) (fun K' hK' => ?_)
        refine wp_storeAt rfl _ (.tmp 3) (.tmp 37) rfl (b := b3) (q := 0) rfl (v := softV s5 a5) rfl g3 (fun j _ => soft_one _ _ _) soft_size ?_
        intro Z2 u3
        refine hK' _ _ (u3.turns _ _ (fun _ => .inr rfl) (Turns.refl _ _)) ?_
        clear hK' K'
        have tn := u3.turns (fun b => b = b3) _ (fun _ => rfl) (Turns.refl _ _)
        replace g2 := u3.other (.inl (by omega)) g2
        replace hB := u3.below _ _ (by omega) hB
        replace g3 := u3.blk
        replace i5 := i5.turn tn (fun p e k => by have := H5.out.1 p e; omega) (fun p e k => by have := H5.out.2 p e; omega)
        clear u3 tn
        try simp only [Act.put, List.setIfInBounds_toArray, List.set_cons_zero, List.set_cons_succ]
        rw [wpSchedT]
        simp only [pick, List.map_cons, List.map_nil, Array.getD_eq_getD_getElem?, List.getElem?_toArray, List.getElem?_cons_succ, List.getElem?_cons_zero, Option.getD_some]
        repeat (first | go_big_quiet_step (fail) | quiet_step (fail))
        refine wpQuiet_nil ?_
        go_wp2_with fail
        exact lead_ret rfl rfl rfl rfl rfl g2 g3 (.mk 0 ATR i5 ⟨fun p e => (by have := H5.out.1 p e; omega), fun p e => (by have := H5.out.2 p e; omega)⟩ (hq5 (by first | exact rfl | trivial)).1 (hq5 (by first | exact rfl | trivial)).2 (by rw [e1]; exact hB))
      · have w1 : decide ((n5 : Int) ≥ (n8 : Int)) = false := by simp; omega
        have w2 : decide ((n8 : Int) ≤ (n5 : Int)) = false := by simp; omega
        have w3 : decide (n8 ≤ n5) = false := by simp; omega
        have ATR : Ld.atR ls root h = ((1 : Nat) : Int) := by rw [HA.out]; rw [HN5.out, HN8.out, w3]; rfl
        go_wp2_with fail
        clear c5 c8
        refine wp_region_schedT (T := fun b => b = b2 ∨ b = b3) (fun Z => Blk Z b2 0 4 (recF zRec) ∧ Blk Z b3 0 23 (softV zSw zA) ∧ Blk Z b8 0 4 (recF r8) ∧ Blk Z b9 0 23 (softV s8 a8) ∧ SwIn Z s8 a8 ∧ Below b1 w Z) (.one [0, 1] 2 (.one [] 3 (.done [4]))) (by kernel_rfl) (by kernel_rfl) (fun _ _ _ _ _ h => h) ⟨g2.later (Below.refl _ _).drew, g3.later (Below.refl _ _).drew, a_b8.later (Below.refl _ _).drew, a_b9.later (Below.refl _ _).drew, i8.later (Below.refl _ _).drew, hB.drew⟩ ?_
        clear g2 g3 a_b5 a_b6 a_b8 a_b9 i5 i8 hB z3
        rintro Z ⟨g2, g3, a_b8, a_b9, i8, hB⟩
        rw [wpSchedT]
        simp only [pick, List.map_cons, List.map_nil, Array.getD_eq_getD_getElem?, List.getElem?_toArray, List.getElem?_cons_succ, List.getElem?_cons_zero, Option.getD_some]
        have q5 := loadN_T (T := fun b => b = b2 ∨ b = b3) (t := 90) a_b8 (show ¬ (b8 = b2 ∨ b8 = b3) by omega) (fun X h => run_loadRec h)
        have q6 := loadN_T (T := fun b => b = b2 ∨ b = b3) (t := 29) a_b9 (show ¬ (b9 = b2 ∨ b9 = b3) by omega) (fun X h => run_loadSw h)
        (refine wpQuiet_loadN rfl _ (.tmp 8) rfl (b := b8) (q := 0) rfl q5 ?_; try simp only [Act.put, List.setIfInBounds_toArray, List.set_cons_zero, List.set_cons_succ])
        (refine wpQuiet_loadN rfl _ (.tmp 9) rfl (b := b9) (q := 0) rfl q6 ?_; try simp only [Act.put, List.setIfInBounds_toArray, List.set_cons_zero, List.set_cons_succ])
        refine wpQuiet_nil ?_
        clear q5 q6
        refine heavyT_want (by rfl) (fun K' hK' => ?_)
        refine wp_storeAt rfl _ (.tmp 2) (.tmp 40) rfl (b := b2) (q := 0) rfl (v := recF r8) rfl g2 (fun j _ => rec_one _ _) rec_size ?_
        intro Z1 u2
        refine hK' _ _ (u2.turns _ _ (fun _ => .inl rfl) (Turns.refl _ _)) ?_
        clear hK' K'
        have tn := u2.turns (fun b => b = b2) _ (fun _ => rfl) (Turns.refl _ _)
        replace g3 := u2.other (.inl (by omega)) g3
        replace hB := u2.below _ _ (by omega) hB
        replace g2 := u2.blk
        replace i8 := i8.turn tn (fun p e k => by have := H8.out.1 p e; omega) (fun p e k => by have := H8.out.2 p e; omega)
        clear u2 tn
        try simp only [Act.put, List.setIfInBounds_toArray, List.set_cons_zero, List.set_cons_succ]
        rw [wpSchedT]
        simp only [pick, List.map_nil, Array.getD_eq_getD_getElem?, List.getElem?_toArray, List.getElem?_cons_succ, List.getElem?_cons_zero, Option.getD_some]
        refine wpQuiet_nil ?_
        refine heavyT_want (by rfl) (fun K' hK' => ?_)
        refine wp_storeAt rfl _ (.tmp 3) (.tmp 41) rfl (b := b3) (q := 0) rfl (v := softV s8 a8) rfl g3 (fun j _ => soft_one _ _ _) soft_size ?_
        intro Z2 u3
        refine hK' _ _ (u3.turns _ _ (fun _ => .inr rfl) (Turns.refl _ _)) ?_
        clear hK' K'
        have tn := u3.turns (fun b => b = b3) _ (fun _ => rfl) (Turns.refl _ _)
        replace g2 := u3.other (.inl (by omega)) g2
        replace hB := u3.below _ _ (by omega) hB
        replace g3 := u3.blk
        replace i8 := i8.turn tn (fun p e k => by have := H8.out.1 p e; omega) (fun p e k => by have := H8.out.2 p e; omega)
        clear u3 tn
        try simp only [Act.put, List.setIfInBounds_toArray, List.set_cons_zero, List.set_cons_succ]
        rw [wpSchedT]
        simp only [pick, List.map_cons, List.map_nil, Array.getD_eq_getD_getElem?, List.getElem?_toArray, List.getElem?_cons_succ, List.getElem?_cons_zero, Option.getD_some]
        repeat (first | go_big_quiet_step (fail) | quiet_step (fail))
        refine wpQuiet_nil ?_
        go_wp2_with fail
        exact lead_ret rfl rfl rfl rfl rfl g2 g3 (.mk 1 ATR i8 ⟨fun p e => (by have := H8.out.1 p e; omega), fun p e => (by have := H8.out.2 p e; omega)⟩ (hq8 (by first | exact rfl | trivial)).1 (hq8 (by first | exact rfl | trivial)).2 (by rw [e1]; exact hB))

theorem atR_cases (ls : List (List UInt8)) (root : D64) (h : Int) : Ld.atR ls root h = 0 ∨ Ld.atR ls root h = 1 ∨ Ld.atR ls root h = -1 := by
  unfold Ld.atR
  split
  · exact .inl rfl
  · split
    · exact .inr (.inl rfl)
    · exact .inr (.inr rfl)
theorem atR_neg {ls : List (List UInt8)} {root : D64} {h : Int} (k : Ld.atR ls root h < 0) : Ld.atR ls root h = -1 := by
  rcases atR_cases ls root h with e | e | e <;> omega
def Ld.ixR (ls : List (List UInt8)) (root : D64) (h : Int) : Int := if Ld.usable ls = true then Ld.atR ls root h else -1
def Ld.swR (ls : List (List UInt8)) (root : D64) (h : Int) : Ld.Sw := if 0 ≤ Ld.ixR ls root h then Ld.ldS ls (Ld.ixR ls root h).toNat else zSw
def RnOf (ls : List (List UInt8)) (root : D64) (h : Int) (w : World) (e : Ending) (w' : World) : Prop :=
  ∃ a, e = .returned (.tuple #[aggN 23 (softV (Ld.swR ls root h) a), .int .i64 (Ld.ixR ls root h), .int .i64 (Ld.cdR ls root h)]) ∧ SwIn w' (Ld.swR ls root h) a ∧ SwNew w.heap.size a ∧ Below w.heap.size w w'
theorem rn_ret {fn : Func} {R : Ending → World → Prop} {a : Act} {W : World} {b : Nat} {v : Nat → Value} {v6 v7 : Value} {p q u : Tmp}
    (hf : fn.results = #[.cell p 29, .tmp q, .tmp u]) (h4 : a.tmps.getD p undef = .pointer (some ⟨b, 0, none⟩)) (h5 : a.tmps.getD q undef = v6) (h6 : a.tmps.getD u undef = v7) (hd : a.defers = [])
    (g : Blk W b 0 23 v) (hR : R (.returned (.tuple #[aggN 23 v, v6, v7])) W) : bodyPost Tryz.prog fn R .ret a W := by
  refine bodyPost_ret (v := .tuple #[aggN 23 v, v6, v7]) ?_ hd hR
  rw [results_cell_tmp_tmp hf, h4, h5, h6]
  simp [asAddr, Result.andThen]
  rw [run_loadSw g]

set_option maxHeartbeats 2000000 in
theorem running2_any (x : Option Addr) (rs : List Rw) (c : Nat) (root : D64) (h : Int) (w : World) (hs : Rws w x rs) (hn : rs.length ≤ 1000) :
    Calls Tryz.prog 17 #[.agg #[.slice x rs.length c], .int .u64 (num root), .int .i64 h] w (RnOf (rs.map (·.l)) root h w) := by
  have HU := fun (W : World) (hW : Rws W x rs) => usable_any x rs c W hW hn
  have HR := fun (W : World) (hW : Rws W x rs) => running_any x rs c root h W hW hn
  obtain ⟨ls, hls⟩ : ∃ ls, rs.map (·.l) = ls := ⟨_, rfl⟩
  rw [hls] at HU HR ⊢
  obtain ⟨nr, hnr⟩ : ∃ n, rs.length = n := ⟨_, rfl⟩
  rw [hnr] at HU HR ⊢
  clear hls hnr hn
  unfold RunOf at HR
  obtain ⟨us, hus⟩ : ∃ b, Ld.usable ls = b := ⟨_, rfl⟩
  rw [hus] at HU
  have HUS := Lib.hid hus
  clear hus
  obtain ⟨at_, hat⟩ : ∃ z, Ld.atR ls root h = z := ⟨_, rfl⟩
  rw [hat] at HR
  have HAT := Lib.hid hat
  clear hat
  go_enter Tryz.func17, Tryz.ntmps17
  go_wp2_with (refine wpList_allocTo 6 rfl rfl _ rfl soft_zero ?_; intro W6 g6 hb6 hz6; refine Hid.out ?_)
  unfold Hid
  try simp only [Act.put, List.setIfInBounds_toArray, List.set_cons_zero, List.set_cons_succ]
  have c3 := later (a := ⟨w.heap.size, 0, none⟩) (v := .slice x nr c) hb6 (by go_simp)
  have hs := (hs.later (al (Below.refl _ _) _)).later hb6
  have hB := thru (al (Below.refl w.heap.size w) _) hb6
  clear hb6
  simp only [World.size_alloc] at g6 hz6
  obtain ⟨b3, e3⟩ : ∃ b, w.heap.size = b := ⟨_, rfl⟩
  rw [e3] at c3 hB hz6 g6
  obtain ⟨b6, e6⟩ : ∃ b, b3 + 1 = b := ⟨_, rfl⟩
  rw [e6] at g6 hz6
  simp only [World.size_alloc, e3, e6]
  have z36 : b3 < b6 := by omega
  have z6 : b6 < W6.heap.size := by omega
  clear hz6 e6
  go_wp2_with fail
  refine (HU _ hs).mono ?_
  rintro e w1 ⟨rfl, hb⟩
  replace c3 := later hb c3
  replace g6 := g6.later hb
  replace hs := hs.later hb
  replace hB := hB.trans (hb.mono (by omega))
  have hz := hb.size
  replace z6 : b6 < w1.heap.size := by omega
  clear hb HU hz
  cases us with
  | false =>
    have E1 : Ld.ixR ls root h = -1 := by unfold Ld.ixR; rw [HUS.out]; rfl
    have E2 : Ld.swR ls root h = zSw := by unfold Ld.swR; rw [E1]; rfl
    have E3 : Ld.cdR ls root h = 2 := by unfold Ld.cdR; rw [HUS.out]; rfl
    have HE : Hid (Ld.ixR ls root h = -1 ∧ Ld.swR ls root h = zSw ∧ Ld.cdR ls root h = 2) := ⟨E1, E2, E3⟩
    clear E1 E2 E3 hs c3 HR
    go_wp2_with (refine wpList_storeB rfl rfl _ (.tmp 6) _ rfl (b := b6) (q := 0) rfl (n := 23) (v := softV zSw zA) rfl g6 (fun j _ => soft_one _ _ _) soft_size ?_; intro Y2 u2; refine Hid.out ?_)
    unfold Hid
    try simp only [Act.put, List.setIfInBounds_toArray, List.set_cons_zero, List.set_cons_succ]
    replace hB := u2.below _ _ (by omega) hB
    replace g6 := u2.blk
    clear u2
    go_wp2_with fail
    refine rn_ret rfl rfl rfl rfl rfl g6 ⟨zA, ?_, ?_, zA_new _, by rw [e3]; exact hB⟩
    · rw [HE.out.1, HE.out.2.1, HE.out.2.2] <;> rfl
    · rw [HE.out.2.1]; exact zSw_in _
  | true =>
    have HIX : Hid (Ld.ixR ls root h = at_) := by show _ = _; unfold Ld.ixR; rw [HUS.out, ← HAT.out]; rfl
    go_wp2_with fail
    refine (HR _ hs).mono ?_
    rintro e w2 ⟨r, s, a, rfl, hin, hnew, hq, hb⟩
    replace g6 := g6.later hb
    replace hB := hB.trans (hb.mono (by omega))
    have hz := hb.size
    have HNW : Hid ((∀ p, a.xi = some p → b6 < p.block) ∧ (∀ p, a.xp = some p → b6 < p.block)) := ⟨fun p e => (by have := hnew.1 p e; omega), fun p e => (by have := hnew.2 p e; omega)⟩
    replace z6 : b6 < w2.heap.size := by omega
    clear hb HR hz c3 hs hnew
    go_wp2_with (refine wpList_allocTo 9 rfl rfl _ rfl rec_zero ?_; intro Xt0 a_b9 hb0 hz0; refine Hid.out ?_)
    unfold Hid
    try simp only [Act.put, List.setIfInBounds_toArray, List.set_cons_zero, List.set_cons_succ]
    obtain ⟨b9, e_b9⟩ : ∃ a, w2.heap.size = a := ⟨_, rfl⟩
    have s_b9 : w2.heap.size ≤ b9 := by omega
    have hb := hb0
    rw [e_b9] at a_b9 hz0 ⊢
    clear hb0
    go_wp2_with (refine wpList_allocTo 10 rfl rfl _ rfl soft_zero ?_; intro Xt1 a_b10 hb1 hz1; refine Hid.out ?_)
    unfold Hid
    try simp only [Act.put, List.setIfInBounds_toArray, List.set_cons_zero, List.set_cons_succ]
    obtain ⟨b10, e_b10⟩ : ∃ a, Xt0.heap.size = a := ⟨_, rfl⟩
    have s_b10 : w2.heap.size ≤ b10 := by omega
    have s_b9b10 : b9 < b10 := by omega
    replace hb := thru hb hb1
    replace a_b9 := a_b9.later hb1
    rw [e_b10] at a_b10 hz1 ⊢
    clear hb1
    have hz : b9 < Xt1.heap.size ∧ b10 < Xt1.heap.size := by omega
    clear e_b9 hz0 e_b10 hz1
    go_wp2_with (refine wpList_storeB rfl rfl _ (.tmp 9) _ rfl (b := b9) (q := 0) rfl (n := 4) (v := recF r) rfl a_b9 (fun j _ => rec_one _ _) rec_size ?_; intro Yt0 t1; refine Hid.out ?_)
    unfold Hid
    replace hb := t1.below _ _ (by omega) hb
    replace a_b9 := t1.blk
    replace a_b10 := t1.other (.inl (by omega)) a_b10
    rw [← t1.size] at hz
    clear t1
    go_wp2_with (refine wpList_storeB rfl rfl _ (.tmp 10) _ rfl (b := b10) (q := 0) rfl (n := 23) (v := softV s a) rfl a_b10 (fun j _ => soft_one _ _ _) soft_size ?_; intro Yt1 t1; refine Hid.out ?_)
    unfold Hid
    replace hb := t1.below _ _ (by omega) hb
    replace a_b10 := t1.blk
    replace a_b9 := t1.other (.inl (by omega)) a_b9
    rw [← t1.size] at hz
    clear t1
    replace g6 := g6.later hb
    replace hin := hin.later hb
    replace hB := hB.trans (hb.mono (by omega))
    clear hb hz
    have g10 := a_b10
    clear a_b10 a_b9
    have z10 : b6 < b10 := by omega
    clear s_b9 s_b10 s_b9b10
    have HQ := Lib.hid hq
    clear hq
    by_cases hneg : at_ < 0
    · have d1 : decide (at_ < 0) = true := decide_eq_true hneg
      have HE : Hid (Ld.ixR ls root h < 0 ∧ Ld.swR ls root h = zSw ∧ Ld.cdR ls root h = 6 ∧ Ld.ixR ls root h = -1) := by
        have a1 : Ld.ixR ls root h < 0 := by rw [HIX.out]; exact hneg
        have a3 : Ld.atR ls root h < 0 := by rw [HAT.out]; exact hneg
        refine ⟨a1, ?_, ?_, ?_⟩
        · unfold Ld.swR; rw [if_neg (by omega)]
        · unfold Ld.cdR; rw [HUS.out, if_pos rfl, if_pos a3]
        · rw [HIX.out, ← HAT.out]; exact atR_neg a3
      clear hin g10
      go_wp2_with (refine wpList_storeB rfl rfl _ (.tmp 6) _ rfl (b := b6) (q := 0) rfl (n := 23) (v := softV zSw zA) rfl g6 (fun j _ => soft_one _ _ _) soft_size ?_; intro Y2 u2; refine Hid.out ?_)
      unfold Hid
      try simp only [Act.put, List.setIfInBounds_toArray, List.set_cons_zero, List.set_cons_succ]
      replace hB := u2.below _ _ (by omega) hB
      replace g6 := u2.blk
      clear u2
      go_wp2_with fail
      refine rn_ret rfl rfl rfl rfl rfl g6 ⟨zA, ?_, ?_, zA_new _, by rw [e3]; exact hB⟩
      · rw [HE.out.2.2.2, HE.out.2.1, HE.out.2.2.1] <;> rfl
      · rw [HE.out.2.1]; exact zSw_in _
    · have d1 : decide (at_ < 0) = false := decide_eq_false hneg
      have HE : Hid (Ld.swR ls root h = s ∧ Ld.cdR ls root h = 0) := by
        have a1 : 0 ≤ Ld.ixR ls root h := by rw [HIX.out]; omega
        refine ⟨?_, ?_⟩
        · unfold Ld.swR; rw [if_pos a1, HIX.out]; exact (HQ.out (by omega)).2.symm
        · unfold Ld.cdR; rw [HUS.out, if_pos rfl, if_neg (by rw [HAT.out]; exact hneg)]
      go_wp2_with (first | (refine wpList_loadN rfl _ (.tmp 10) rfl (b := b10) (q := 0) rfl (run_loadSw g10) ?_) | (refine wpList_storeB rfl rfl _ (.tmp 6) _ rfl (b := b6) (q := 0) rfl (n := 23) (v := softV s a) rfl g6 (fun j _ => soft_one _ _ _) soft_size ?_; intro Y2 u2; refine Hid.out ?_))
      unfold Hid
      try simp only [Act.put, List.setIfInBounds_toArray, List.set_cons_zero, List.set_cons_succ]
      have tn := u2.turns (fun b => b = b6) _ (fun _ => rfl) (Turns.refl _ _)
      replace hin := hin.turn tn (fun p e k => by have := HNW.out.1 p e; omega) (fun p e k => by have := HNW.out.2 p e; omega)
      replace hB := u2.below _ _ (by omega) hB
      replace g6 := u2.blk
      clear u2 tn
      go_wp2_with fail
      refine rn_ret rfl rfl rfl rfl rfl g6 ⟨a, ?_, ?_, ⟨fun p e => (by have := HNW.out.1 p e; omega), fun p e => (by have := HNW.out.2 p e; omega)⟩, by rw [e3]; exact hB⟩
      · rw [HIX.out, HE.out.1, HE.out.2] <;> rfl
      · rw [HE.out.1]; exact hin

end Go.Proofs.YtapefonhgkjgnaaGreat
