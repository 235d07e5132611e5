/- The reference of layer 38: Running. -/
import Derived.Test.YtapefonhgkjgnaaGreatRfE
import Derived.Test.YtapefonhgkjgnaaGreatLdM
set_option maxRecDepth 20000
namespace Go.Proofs.YtapefonhgkjgnaaGreat
open Go.RowKit

theorem results_ctttt {fn : Func} {x y z p u : Tmp} {ty : TypeId} (h : fn.results = #[.cell p ty, .tmp x, .tmp y, .tmp z, .tmp u]) (tmps : Array Value) (P : Program) (w : World) :
    (results fn tmps).run P w =
      ((asAddr (tmps.getD p undef)).run P w).andThen fun a w₁ => ((loadVar ty a).run P w₁).andThen fun v w₂ => .ok (.tuple #[v, tmps.getD x undef, tmps.getD y undef, tmps.getD z undef, tmps.getD u undef]) w₂ := by
  simp only [results, h]
  simp [Sem.run_bind, Result.andThen]
/-- What Running returns out of its box. -/
theorem rrn_ret {fn : Func} {R : Ending → World → Prop} {a : Act} {W : World} {b : Nat} {v : Nat → Value} {v0 v1 v2 v4 : Value} {x y z p u : Tmp}
    (hf : fn.results = #[.cell p 29, .tmp x, .tmp y, .tmp z, .tmp u]) (h3 : a.tmps.getD p undef = .pointer (some ⟨b, 0, none⟩)) (h0 : a.tmps.getD x undef = v0) (h1 : a.tmps.getD y undef = v1) (h2 : a.tmps.getD z undef = v2) (h4 : a.tmps.getD u undef = v4) (hd : a.defers = [])
    (g : Blk W b 0 23 v) (hR : R (.returned (.tuple #[aggN 23 v, v0, v1, v2, v4])) W) : bodyPost Tryz.prog fn R .ret a W := by
  refine bodyPost_ret (v := .tuple #[aggN 23 v, v0, v1, v2, v4]) ?_ hd hR
  rw [results_ctttt hf, h0, h1, h2, h3, h4]
  simp [asAddr, Result.andThen]
  rw [run_loadSw g]
/-- The running record, or the zero record. -/
def Ld.rnR (ls : List (List UInt8)) (root : D64) (h : Int) : Ld.Rec := if Ld.cdR ls root h = 0 then Ld.ldR ls (Ld.atR ls root h).toNat else zRec
def RrOf (ls : List (List UInt8)) (root : D64) (h : Int) (w : World) (e : Ending) (w' : World) : Prop :=
  ∃ a, e = .returned (.tuple #[aggN 23 (softV (Ld.swR ls root h) a), .int .i64 (Ld.ixR ls root h), .int .i64 ((Ld.rnR ls root h).number : Int), .int .i64 ((Ld.rnR ls root h).bank : Int), .int .i64 (Ld.cdR ls root h)]) ∧ SwIn w' (Ld.swR ls root h) a ∧ SwNew w.heap.size a ∧ Below w.heap.size w w'
theorem rr_bad {ls : List (List UInt8)} (root : D64) (h : Int) (hu : Ld.usable ls = false) : Ld.swR ls root h = zSw ∧ Ld.ixR ls root h = -1 ∧ Ld.cdR ls root h = 2 ∧ Ld.rnR ls root h = zRec := by
  have E1 : Ld.ixR ls root h = -1 := by unfold Ld.ixR; rw [hu]; rfl
  have E2 : Ld.swR ls root h = zSw := by unfold Ld.swR; rw [E1]; rfl
  have E3 : Ld.cdR ls root h = 2 := by unfold Ld.cdR; rw [hu]; rfl
  exact ⟨E2, E1, E3, by unfold Ld.rnR; rw [E3]; rfl⟩
theorem rr_none {ls : List (List UInt8)} {root : D64} {h : Int} (hu : Ld.usable ls = true) (ha : Ld.atR ls root h = -1) : Ld.swR ls root h = zSw ∧ Ld.ixR ls root h = -1 ∧ Ld.cdR ls root h = 6 ∧ Ld.rnR ls root h = zRec := by
  have E1 : Ld.ixR ls root h = -1 := by unfold Ld.ixR; rw [hu, ha]; rfl
  have E2 : Ld.swR ls root h = zSw := by unfold Ld.swR; rw [E1]; rfl
  have E3 : Ld.cdR ls root h = 6 := by unfold Ld.cdR; rw [hu, ha]; rfl
  exact ⟨E2, E1, E3, by unfold Ld.rnR; rw [E3]; rfl⟩
theorem rr_at {ls : List (List UInt8)} {root : D64} {h : Int} (hu : Ld.usable ls = true) (i : Nat) (ha : Ld.atR ls root h = (i : Int)) : Ld.swR ls root h = Ld.ldS ls i ∧ Ld.ixR ls root h = (i : Int) ∧ Ld.cdR ls root h = 0 ∧ Ld.rnR ls root h = Ld.ldR ls i := by
  have E1 : Ld.ixR ls root h = (i : Int) := by unfold Ld.ixR; rw [hu, ha]; rfl
  have E2 : Ld.swR ls root h = Ld.ldS ls i := by unfold Ld.swR; rw [E1, if_pos (by omega), Int.toNat_natCast]
  have E3 : Ld.cdR ls root h = 0 := by unfold Ld.cdR; rw [hu, ha, if_pos rfl, if_neg (by omega)]
  exact ⟨E2, E1, E3, by unfold Ld.rnR; rw [E3, ha, Int.toNat_natCast]; rfl⟩
theorem at_ff {ls : List (List UInt8)} {root : D64} {h : Int} (h0 : Ld.okL ls 0 root h = false) (h1 : Ld.okL ls 1 root h = false) : Ld.atR ls root h = -1 := by unfold Ld.atR; rw [h0, h1]; rfl
theorem at_ft {ls : List (List UInt8)} {root : D64} {h : Int} (h0 : Ld.okL ls 0 root h = false) (h1 : Ld.okL ls 1 root h = true) : Ld.atR ls root h = ((1 : Nat) : Int) := by unfold Ld.atR; rw [h0, h1]; rfl
theorem at_tf {ls : List (List UInt8)} {root : D64} {h : Int} (h0 : Ld.okL ls 0 root h = true) (h1 : Ld.okL ls 1 root h = false) : Ld.atR ls root h = ((0 : Nat) : Int) := by unfold Ld.atR; rw [h0, h1]; rfl
theorem at_ge {ls : List (List UInt8)} {root : D64} {h : Int} (h0 : Ld.okL ls 0 root h = true) (h1 : Ld.okL ls 1 root h = true) (hn : (Ld.ldR ls 1).number ≤ (Ld.ldR ls 0).number) : Ld.atR ls root h = ((0 : Nat) : Int) := by unfold Ld.atR; rw [h0, h1, decide_eq_true hn]; rfl
theorem at_lt {ls : List (List UInt8)} {root : D64} {h : Int} (h0 : Ld.okL ls 0 root h = true) (h1 : Ld.okL ls 1 root h = true) (hn : ¬ (Ld.ldR ls 1).number ≤ (Ld.ldR ls 0).number) : Ld.atR ls root h = ((1 : Nat) : Int) := by unfold Ld.atR; rw [h0, h1, decide_eq_false hn]; rfl

set_option maxHeartbeats 4000000 in
theorem rrun_any (x : Option Addr) (rs : List Rw) (c : Nat) (root : D64) (h : Int) (w : World) (hs : Rws w x rs) (hn : rs.length ≤ 1000) :
    Calls Tryz.prog 18 #[.slice x rs.length c, .int .u64 (num root), .int .i64 h] w (RrOf (rs.map (·.l)) root h w) := by
  have HU := fun (W : World) (hW : Rws W x rs) => rstore_any x rs c W hW hn
  have H0 := fun (W : World) (hW : Rws W x rs) => record_any x rs c 0 root h W hW hn
  have H1 := fun (W : World) (hW : Rws W x rs) => record_any x rs c 1 root h W hW hn
  obtain ⟨ls, hls⟩ : ∃ ls, rs.map (·.l) = ls := ⟨_, rfl⟩
  rw [hls] at HU H0 H1 ⊢
  obtain ⟨nr, hnr⟩ : ∃ n, rs.length = n := ⟨_, rfl⟩
  rw [hnr] at HU H0 H1 ⊢
  clear hls hnr hn
  unfold RecOf at H0 H1
  have HBAD := Lib.hid (@rr_bad ls root h)
  have HNONE := Lib.hid (@rr_none ls root h)
  have HAT := Lib.hid (@rr_at ls root h)
  have HFF := Lib.hid (@at_ff ls root h)
  have HFT := Lib.hid (@at_ft ls root h)
  have HTF := Lib.hid (@at_tf ls root h)
  have HGE := Lib.hid (@at_ge ls root h)
  have HLT := Lib.hid (@at_lt ls root h)
  have HR0 : Hid (Ld.okL ls 0 root h = true → Ld.rcR ls 0 root h = Ld.ldR ls 0 ∧ Ld.rcS ls 0 root h = Ld.ldS ls 0) := fun e => ⟨by unfold Ld.rcR; rw [if_pos e], by unfold Ld.rcS; rw [if_pos e]⟩
  have HR1 : Hid (Ld.okL ls 1 root h = true → Ld.rcR ls 1 root h = Ld.ldR ls 1 ∧ Ld.rcS ls 1 root h = Ld.ldS ls 1) := fun e => ⟨by unfold Ld.rcR; rw [if_pos e], by unfold Ld.rcS; rw [if_pos e]⟩
  obtain ⟨us, hus⟩ : ∃ b, Ld.usable ls = b := ⟨_, rfl⟩
  rw [hus] at HU HBAD HNONE HAT
  obtain ⟨f0, hf0⟩ : ∃ b, Ld.okL ls 0 root h = b := ⟨_, rfl⟩
  rw [hf0] at H0 HFF HFT HTF HGE HLT HR0
  obtain ⟨f1, hf1⟩ : ∃ b, Ld.okL ls 1 root h = b := ⟨_, rfl⟩
  rw [hf1] at H1 HFF HFT HTF HGE HLT HR1
  obtain ⟨⟨k0, m0, n0, d0⟩, hr0⟩ : ∃ r, Ld.rcR ls 0 root h = r := ⟨_, rfl⟩
  rw [hr0] at H0 HR0
  obtain ⟨⟨k1, m1, n1, d1⟩, hr1⟩ : ∃ r, Ld.rcR ls 1 root h = r := ⟨_, rfl⟩
  rw [hr1] at H1 HR1
  obtain ⟨s0, hs0⟩ : ∃ r, Ld.rcS ls 0 root h = r := ⟨_, rfl⟩
  rw [hs0] at H0 HR0
  obtain ⟨s1, hs1⟩ : ∃ r, Ld.rcS ls 1 root h = r := ⟨_, rfl⟩
  rw [hs1] at H1 HR1
  clear hus hf0 hf1 hr0 hr1 hs0 hs1
  dsimp only at H0 H1
  go_enter Tryz.func18, Tryz.ntmps18
  go_wp2_with (refine wpList_allocTo 6 rfl rfl _ rfl soft_zero ?_; intro W6 g6 hB hz6; refine Hid.out ?_)
  unfold Hid
  try simp only [Act.put, List.setIfInBounds_toArray, List.set_cons_zero, List.set_cons_succ]
  replace hs := hs.later hB
  obtain ⟨b6, e6⟩ : ∃ b, w.heap.size = b := ⟨_, rfl⟩
  have HE6 := Lib.hid e6
  rw [e6] at g6 hB hz6 ⊢
  clear e6
  have z6 : b6 < W6.heap.size := by omega
  clear hz6
  go_wp2_with fail
  refine (HU _ hs).mono ?_
  rintro e w1 ⟨rfl, hw⟩
  obtain rfl : W6 = w1 := hw.symm
  clear hw HU
  cases us with
  | false =>
    clear hs H0 H1
    go_wp2_with (refine wpList_storeB rfl rfl _ (.tmp 6) _ rfl (b := b6) (q := 0) rfl (n := 23) (v := softV zSw zA) rfl g6 (fun j _ => soft_one _ _ _) soft_size ?_; intro Y2 u2; refine Hid.out ?_)
    unfold Hid
    try simp only [Act.put, List.setIfInBounds_toArray, List.set_cons_zero, List.set_cons_succ]
    replace hB := u2.below _ _ (by omega) hB
    replace g6 := u2.blk
    clear u2
    go_wp2_with fail
    have HE := Lib.hid (HBAD.out (by first | exact rfl | trivial))
    refine rrn_ret rfl rfl rfl rfl rfl rfl rfl g6 ⟨zA, ?_, ?_, zA_new _, by rw [HE6.out]; exact hB⟩
    · rw [HE.out.1, HE.out.2.1, HE.out.2.2.1, HE.out.2.2.2] <;> rfl
    · rw [HE.out.1]; exact zSw_in _
  | true =>
    go_wp2_with fail
    refine (H0 _ hs).mono ?_
    rintro e w2 ⟨sa0, rfl, i0, nw0, hb⟩
    have N0 : Hid ((∀ p, sa0.xi = some p → p.block ≠ b6) ∧ (∀ p, sa0.xp = some p → p.block ≠ b6) ∧ SwNew b6 sa0) := ⟨fun p e => (by have := nw0.1 p e; omega), fun p e => (by have := nw0.2 p e; omega), fun p e => (by have := nw0.1 p e; omega), fun p e => (by have := nw0.2 p e; omega)⟩
    replace hs := hs.later hb
    replace g6 := g6.later hb
    replace hB := hB.trans (hb.mono (by omega))
    have zz := hb.size
    replace z6 : b6 < w2.heap.size := by omega
    clear hb H0 nw0 zz
    go_wp2_with (refine wpList_allocTo 14 rfl rfl _ rfl soft_zero ?_; intro Xq0 a_b14 hb0 hz0; refine Hid.out ?_)
    unfold Hid
    try simp only [Act.put, List.setIfInBounds_toArray, List.set_cons_zero, List.set_cons_succ]
    obtain ⟨b14, e_b14⟩ : ∃ a, w2.heap.size = a := ⟨_, rfl⟩
    have s_b14 : w2.heap.size ≤ b14 := by omega
    have hb := hb0
    rw [e_b14] at a_b14 hz0 ⊢
    clear hb0
    have hz : b14 < Xq0.heap.size := by omega
    clear e_b14 hz0
    go_wp2_with (refine wpList_storeB rfl rfl _ (.tmp 14) _ rfl (b := b14) (q := 0) rfl (n := 23) (v := softV s0 sa0) rfl a_b14 (fun j _ => soft_one _ _ _) soft_size ?_; intro Yq0 t1; refine Hid.out ?_)
    unfold Hid
    replace hb := t1.below _ _ (by omega) hb
    replace a_b14 := t1.blk
    rw [← t1.size] at hz
    clear t1
    replace hs := hs.later hb
    replace g6 := g6.later hb
    replace i0 := i0.later hb
    replace hB := hB.trans (hb.mono (by omega))
    clear hb hz
    have g14 := a_b14
    clear a_b14
    have z14 : b6 < Yq0.heap.size := by have := World.block_lt_of_cell? _ _ (g14.at 0 (by omega)).1; simp only at this; omega
    clear s_b14
    go_wp2_with fail
    refine (H1 _ hs).mono ?_
    rintro e w3 ⟨sa1, rfl, i1, nw1, hb⟩
    have N1 : Hid ((∀ p, sa1.xi = some p → p.block ≠ b6) ∧ (∀ p, sa1.xp = some p → p.block ≠ b6) ∧ SwNew b6 sa1) := ⟨fun p e => (by have := nw1.1 p e; omega), fun p e => (by have := nw1.2 p e; omega), fun p e => (by have := nw1.1 p e; omega), fun p e => (by have := nw1.2 p e; omega)⟩
    replace g6 := g6.later hb
    replace g14 := g14.later hb
    replace i0 := i0.later hb
    replace hB := hB.trans (hb.mono (by omega))
    have zz := hb.size
    replace z14 : b6 < w3.heap.size := by omega
    clear hb H1 nw1 zz hs
    go_wp2_with (refine wpList_allocTo 19 rfl rfl _ rfl soft_zero ?_; intro Xr0 a_b19 hb0 hz0; refine Hid.out ?_)
    unfold Hid
    try simp only [Act.put, List.setIfInBounds_toArray, List.set_cons_zero, List.set_cons_succ]
    obtain ⟨b19, e_b19⟩ : ∃ a, w3.heap.size = a := ⟨_, rfl⟩
    have s_b19 : w3.heap.size ≤ b19 := by omega
    have hb := hb0
    rw [e_b19] at a_b19 hz0 ⊢
    clear hb0
    have hz : b19 < Xr0.heap.size := by omega
    clear e_b19 hz0
    go_wp2_with (refine wpList_storeB rfl rfl _ (.tmp 19) _ rfl (b := b19) (q := 0) rfl (n := 23) (v := softV s1 sa1) rfl a_b19 (fun j _ => soft_one _ _ _) soft_size ?_; intro Yr0 t1; refine Hid.out ?_)
    unfold Hid
    replace hb := t1.below _ _ (by omega) hb
    replace a_b19 := t1.blk
    rw [← t1.size] at hz
    clear t1
    replace g6 := g6.later hb
    replace g14 := g14.later hb
    replace i0 := i0.later hb
    replace i1 := i1.later hb
    replace hB := hB.trans (hb.mono (by omega))
    clear hb hz
    have g19 := a_b19
    clear a_b19 s_b19
    cases f0 with
    | false =>
      cases f1 with
      | false =>
        clear i0 i1 g14 g19
        go_wp2_with (refine wpList_storeB rfl rfl _ (.tmp 6) _ rfl (b := b6) (q := 0) rfl (n := 23) (v := softV zSw zA) rfl g6 (fun j _ => soft_one _ _ _) soft_size ?_; intro Y2 u2; refine Hid.out ?_)
        unfold Hid
        try simp only [Act.put, List.setIfInBounds_toArray, List.set_cons_zero, List.set_cons_succ]
        replace hB := u2.below _ _ (by omega) hB
        replace g6 := u2.blk
        clear u2
        go_wp2_with fail
        have HE := Lib.hid (HNONE.out (by first | exact rfl | trivial) (HFF.out (by first | exact rfl | trivial) (by first | exact rfl | trivial)))
        refine rrn_ret rfl rfl rfl rfl rfl rfl rfl g6 ⟨zA, ?_, ?_, zA_new _, by rw [HE6.out]; exact hB⟩
        · rw [HE.out.1, HE.out.2.1, HE.out.2.2.1, HE.out.2.2.2] <;> rfl
        · rw [HE.out.1]; exact zSw_in _
      | true =>
        clear i0 g14
        go_wp2_with (first | (refine wpList_loadN rfl _ (.tmp 19) rfl (b := b19) (q := 0) rfl (run_loadSw g19) ?_) | (refine wpList_storeB rfl rfl _ (.tmp 6) _ rfl (b := b6) (q := 0) rfl (n := 23) (v := softV s1 sa1) rfl g6 (fun j _ => soft_one _ _ _) soft_size ?_; intro Y2 u2; refine Hid.out ?_))
        unfold Hid
        try simp only [Act.put, List.setIfInBounds_toArray, List.set_cons_zero, List.set_cons_succ]
        have tn := u2.turns (fun b => b = b6) _ (fun _ => rfl) (Turns.refl _ _)
        replace i1 := i1.turn tn (fun p e k => N1.out.1 p e k) (fun p e k => N1.out.2.1 p e k)
        replace hB := u2.below _ _ (by omega) hB
        replace g6 := u2.blk
        clear u2 tn
        go_wp2_with fail
        have HE := Lib.hid ((by have h1 := HAT.out (by first | exact rfl | trivial) 1 (HFT.out (by first | exact rfl | trivial) (by first | exact rfl | trivial)); rw [(HR1.out (by first | exact rfl | trivial)).2.symm, (HR1.out (by first | exact rfl | trivial)).1.symm] at h1; exact h1))
        refine rrn_ret rfl rfl rfl rfl rfl rfl rfl g6 ⟨sa1, ?_, ?_, by rw [HE6.out]; exact N1.out.2.2, by rw [HE6.out]; exact hB⟩
        · rw [HE.out.1, HE.out.2.1, HE.out.2.2.1, HE.out.2.2.2] <;> rfl
        · rw [HE.out.1]; exact i1
    | true =>
      cases f1 with
      | false =>
        clear i1 g19
        go_wp2_with (first | (refine wpList_loadN rfl _ (.tmp 14) rfl (b := b14) (q := 0) rfl (run_loadSw g14) ?_) | (refine wpList_storeB rfl rfl _ (.tmp 6) _ rfl (b := b6) (q := 0) rfl (n := 23) (v := softV s0 sa0) rfl g6 (fun j _ => soft_one _ _ _) soft_size ?_; intro Y2 u2; refine Hid.out ?_))
        unfold Hid
        try simp only [Act.put, List.setIfInBounds_toArray, List.set_cons_zero, List.set_cons_succ]
        have tn := u2.turns (fun b => b = b6) _ (fun _ => rfl) (Turns.refl _ _)
        replace i0 := i0.turn tn (fun p e k => N0.out.1 p e k) (fun p e k => N0.out.2.1 p e k)
        replace hB := u2.below _ _ (by omega) hB
        replace g6 := u2.blk
        clear u2 tn
        go_wp2_with fail
        have HE := Lib.hid ((by have h1 := HAT.out (by first | exact rfl | trivial) 0 (HTF.out (by first | exact rfl | trivial) (by first | exact rfl | trivial)); rw [(HR0.out (by first | exact rfl | trivial)).2.symm, (HR0.out (by first | exact rfl | trivial)).1.symm] at h1; exact h1))
        refine rrn_ret rfl rfl rfl rfl rfl rfl rfl g6 ⟨sa0, ?_, ?_, by rw [HE6.out]; exact N0.out.2.2, by rw [HE6.out]; exact hB⟩
        · rw [HE.out.1, HE.out.2.1, HE.out.2.2.1, HE.out.2.2.2] <;> rfl
        · rw [HE.out.1]; exact i0
      | true =>
        by_cases hge : n1 ≤ n0
        · have q1 : decide ((n0 : Int) ≥ (n1 : Int)) = true := by simp; omega
          have q2 : decide ((n1 : Int) ≤ (n0 : Int)) = true := by simp; omega
          have q3 : decide (n1 ≤ n0) = true := by simp; omega
          have q4 : decide (n0 ≥ n1) = true := by simp; omega
          have HG := Lib.hid hge
          clear i1 g19 hge
          go_wp2_with (first | (refine wpList_loadN rfl _ (.tmp 14) rfl (b := b14) (q := 0) rfl (run_loadSw g14) ?_) | (refine wpList_storeB rfl rfl _ (.tmp 6) _ rfl (b := b6) (q := 0) rfl (n := 23) (v := softV s0 sa0) rfl g6 (fun j _ => soft_one _ _ _) soft_size ?_; intro Y2 u2; refine Hid.out ?_))
          unfold Hid
          try simp only [Act.put, List.setIfInBounds_toArray, List.set_cons_zero, List.set_cons_succ]
          have tn := u2.turns (fun b => b = b6) _ (fun _ => rfl) (Turns.refl _ _)
          replace i0 := i0.turn tn (fun p e k => N0.out.1 p e k) (fun p e k => N0.out.2.1 p e k)
          replace hB := u2.below _ _ (by omega) hB
          replace g6 := u2.blk
          clear u2 tn
          go_wp2_with fail
          have HE := Lib.hid ((by have h1 := HAT.out (by first | exact rfl | trivial) 0 (HGE.out (by first | exact rfl | trivial) (by first | exact rfl | trivial) (by rw [← (HR0.out (by first | exact rfl | trivial)).1, ← (HR1.out (by first | exact rfl | trivial)).1]; exact HG.out)); rw [(HR0.out (by first | exact rfl | trivial)).2.symm, (HR0.out (by first | exact rfl | trivial)).1.symm] at h1; exact h1))
          refine rrn_ret rfl rfl rfl rfl rfl rfl rfl g6 ⟨sa0, ?_, ?_, by rw [HE6.out]; exact N0.out.2.2, by rw [HE6.out]; exact hB⟩
          · rw [HE.out.1, HE.out.2.1, HE.out.2.2.1, HE.out.2.2.2] <;> rfl
          · rw [HE.out.1]; exact i0
        have q1 : decide ((n0 : Int) ≥ (n1 : Int)) = false := by simp; omega
        have q2 : decide ((n1 : Int) ≤ (n0 : Int)) = false := by simp; omega
        have q3 : decide (n1 ≤ n0) = false := by simp; omega
        have q4 : decide (n0 ≥ n1) = false := by simp; omega
        have HG := Lib.hid hge
        clear i0 g14 hge
        go_wp2_with (first | (refine wpList_loadN rfl _ (.tmp 19) rfl (b := b19) (q := 0) rfl (run_loadSw g19) ?_) | (refine wpList_storeB rfl rfl _ (.tmp 6) _ rfl (b := b6) (q := 0) rfl (n := 23) (v := softV s1 sa1) rfl g6 (fun j _ => soft_one _ _ _) soft_size ?_; intro Y2 u2; refine Hid.out ?_))
        unfold Hid
        try simp only [Act.put, List.setIfInBounds_toArray, List.set_cons_zero, List.set_cons_succ]
        have tn := u2.turns (fun b => b = b6) _ (fun _ => rfl) (Turns.refl _ _)
        replace i1 := i1.turn tn (fun p e k => N1.out.1 p e k) (fun p e k => N1.out.2.1 p e k)
        replace hB := u2.below _ _ (by omega) hB
        replace g6 := u2.blk
        clear u2 tn
        go_wp2_with fail
        have HE := Lib.hid ((by have h1 := HAT.out (by first | exact rfl | trivial) 1 (HLT.out (by first | exact rfl | trivial) (by first | exact rfl | trivial) (by rw [← (HR0.out (by first | exact rfl | trivial)).1, ← (HR1.out (by first | exact rfl | trivial)).1]; exact HG.out)); rw [(HR1.out (by first | exact rfl | trivial)).2.symm, (HR1.out (by first | exact rfl | trivial)).1.symm] at h1; exact h1))
        refine rrn_ret rfl rfl rfl rfl rfl rfl rfl g6 ⟨sa1, ?_, ?_, by rw [HE6.out]; exact N1.out.2.2, by rw [HE6.out]; exact hB⟩
        · rw [HE.out.1, HE.out.2.1, HE.out.2.2.1, HE.out.2.2.2] <;> rfl
        · rw [HE.out.1]; exact i1

end Go.Proofs.YtapefonhgkjgnaaGreat
