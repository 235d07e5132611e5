/- THE EXAMPLES of the loader's chapter: awake answers true. -/
import Derived.Test.YtapefonhgkjgnaaGreatLdW
set_option maxRecDepth 20000
namespace Go.Proofs.YtapefonhgkjgnaaGreat
open Go.RowKit

def nmA : List UInt8 := [97]
def imA : List UInt8 := [5, 6]
def swA : Ld.Sw := sgnS 3#64 0 0 nmA 1 imA
def swB : Ld.Sw := sgnS 3#64 0 0 nmA 2 imA
def rtA : D64 := Sgn.node 3#64 0 0
theorem bareA : (bare nmA 1 imA).vld = true := by
  rw [Ld.Sw.vld_iff]; unfold bare nmA imA; simp
theorem bareB : (bare nmA 2 imA).vld = true := by
  rw [Ld.Sw.vld_iff]; unfold bare nmA imA; simp
theorem swA_vld : swA.vld = true := (sgn_vld (by omega) (by decide) _ _ _).trans bareA
theorem swB_vld : swB.vld = true := (sgn_vld (by omega) (by decide) _ _ _).trans bareB
theorem swA_genu : Ld.genu swA rtA 0 = true := sgn_genu (seed := 3#64) (h := 0) (q := 0) (by omega) (by decide) nmA 1 imA bareA
theorem swB_genu : Ld.genu swB rtA 0 = true := sgn_genu (seed := 3#64) (h := 0) (q := 0) (by omega) (by decide) nmA 2 imA bareB
theorem swA_form : (Ld.form swA).length = 156 := by
  rw [Ld.form_len]; unfold swA sgnS nmA imA; rw [Sgn.path_length]; rfl
theorem swB_form : (Ld.form swB).length = 156 := by
  rw [Ld.form_len]; unfold swB sgnS nmA imA; rw [Sgn.path_length]; rfl
theorem swA_ck : Ld.ckN (Ld.form swA) = 4 := by unfold Ld.ckN; rw [swA_form]
theorem swB_ck : Ld.ckN (Ld.form swB) = 4 := by unfold Ld.ckN; rw [swB_form]
theorem swA_path : swA.path.length ≤ 100 := by unfold swA sgnS; rw [Sgn.path_length]; omega
theorem swA_ops {os : List OpV} (h : os.map Ld.opP = Ld.insP (List.replicate 34 erasedL) swA rtA 0) : os.map (·.blk) = [2, 3, 4, 5, 0] := by
  rw [(Ld.ins_idle Ld.idle_new swA_vld swA_genu).2] at h
  rw [Ld.blks_of h, swA_ck]
  rfl
theorem swB_ops {ls : List (List UInt8)} {d : D64} (hr : Ld.Run ls rtA 0 0 ⟨0, 4, 1, d⟩ swA) {os : List OpV} (h : os.map Ld.opP = Ld.insP ls swB rtA 0) : os.map (·.blk) = [18, 19, 20, 21, 1] := by
  rw [(Ld.ins_run hr swB_vld swB_genu (by decide) (by show (1 : Nat) < 4294967295; omega)).2] at h
  rw [Ld.blks_of h, swB_ck]
  rfl

set_option maxHeartbeats 4000000 in
theorem awake_any (w : World) : Calls Tryz.prog 6 #[] w (YesOf w) := by
  have hB := Below.refl w.heap.size w
  have hpk : pkV swA = Ld.form swA := if_pos swA_vld
  have hdc : dgC swA = 0 := if_pos swA_vld
  have hI0 := Ld.ins_idle Ld.idle_new swA_vld swA_genu
  have HROOT : ∀ W, Calls Tryz.prog 22 #[.int .u64 3, .int .i64 0] W fun e w' => e = .returned (.tuple #[.int .u64 (num rtA), .int .i64 0]) ∧ Below W.heap.size W w' := fun W => root_ok 3#64 0 (by omega) W
  have HSA : ∀ W x, Bts W x [5, 6] → (x = none → 2 = 0) → Calls Tryz.prog 23 #[.int .u64 3, .int .i64 0, .int .i64 0, .string ⟨#[97]⟩, .int .i64 1, .slice x 2 2] W (SigOf swA true x 2 W) := fun W x h1 h2 => by
    have := signed_any 3#64 0 0 nmA 1 imA x 2 W (by omega) (by decide) h1 h2
    rw [bareA] at this
    exact this
  have HSB : ∀ W x, Bts W x [5, 6] → (x = none → 2 = 0) → Calls Tryz.prog 23 #[.int .u64 3, .int .i64 0, .int .i64 0, .string ⟨#[97]⟩, .int .i64 2, .slice x 2 2] W (SigOf swB true x 2 W) := fun W x h1 h2 => by
    have := signed_any 3#64 0 0 nmA 2 imA x 2 W (by omega) (by decide) h1 h2
    rw [bareB] at this
    exact this
  have HPA : ∀ W a, SwIn W swA a → Calls Tryz.prog 9 #[aggN 23 (softV swA a)] W fun e w' => ∃ y cy, e = .returned (.tuple #[.slice y 156 cy, .int .i64 0]) ∧ OwnsB W.heap.size w' y cy (pkV swA) ∧ Below W.heap.size W w' := fun W a h => by
    have := pack_any swA a W h
    rw [hdc, hpk, swA_form] at this
    rw [hpk]
    exact this
  have HSM := fun W a1 a2 h1 h2 => same_soft swA a1 a2 W h1 h2 swA_path
  have HI1 := fun W x rs c a (h : StoIn (w.heap.size) W x rs (List.replicate 34 erasedL)) (hi : SwIn W swA a) => ins_r (root := rtA) (g := 0) c a W h Ld.idle_new.st hi hI0.1
  rw [swA_ck] at HI1
  have HRN0 := fun W x rs c (h : StoIn (w.heap.size) W x rs (List.replicate 34 erasedL)) => rn_i (root := rtA) (g := 0) c W h Ld.idle_new
  have HOPS := Lib.hid (fun (os : List OpV) h => swA_ops (os := os) h)
  have HOPSB := Lib.hid (fun (ls : List (List UInt8)) (d : D64) hr (os : List OpV) h => swB_ops (ls := ls) (d := d) hr (os := os) h)
  have HFST := Lib.hid (fun os ho => Ld.run_first (s := swA) (root := rtA) (g := 0) (os := os) Ld.idle_new (sgn_N _ _ _ _ _ _) swA_vld swA_genu ho)
  have HST0 := Lib.hid Ld.idle_new.st
  have HVB := Lib.hid swB_vld
  have HGB := Lib.hid swB_genu
  have HVA := Lib.hid swA_vld
  have HGA := Lib.hid swA_genu
  have HCKB := Lib.hid swB_ck
  have HCKA := Lib.hid swA_ck
  have HVER := Lib.hid (show swA.ver < swB.ver by decide)
  have HNUM : ∃ R : Int, num rtA = R := ⟨_, rfl⟩
  clear hpk hdc hI0
  obtain ⟨E0, hE0⟩ : ∃ l, List.replicate 34 erasedL = l := ⟨_, rfl⟩
  rw [hE0] at HI1 HRN0 HOPS HFST HST0
  have HE0 := Lib.hid hE0
  clear hE0 HNUM
  obtain ⟨rt, hrt⟩ : ∃ r, rtA = r := ⟨_, rfl⟩
  rw [hrt] at HROOT HI1 HRN0 HOPS HOPSB HFST HGB HGA
  clear hrt
  obtain ⟨sA, hsA⟩ : ∃ r, swA = r := ⟨_, rfl⟩
  rw [hsA] at HSA HPA HSM HI1 HOPS HOPSB HFST HVA HGA HCKA HVER
  clear hsA
  obtain ⟨sB, hsB⟩ : ∃ r, swB = r := ⟨_, rfl⟩
  rw [hsB] at HSB HOPSB HVB HGB HCKB HVER
  clear hsB
  go_enter Tryz.func6, Tryz.ntmps6
  go_wp2_with fail
  refine (new34 _).mono ?_
  rintro e w1 ⟨x, c, rs, rfl, hs, hb⟩
  replace hB := hB.trans (hb.mono hB.size)
  clear hb
  rw [HE0.out] at hs
  have Z1 := Lib.hid hB.size
  go_wp2_with fail
  have hb := al (Below.refl _ w1) (.cells #[.slice x 34 c] 33)
  have c1 : (w1.alloc (.cells #[.slice x 34 c] 33)).cell? ⟨w1.heap.size, 0, none⟩ = some (.slice x 34 c) := cell_new w1 _ _ _ 0
  have f1 := frozen_new w1 #[.slice x 34 c] 33 0
  have hlt : w1.heap.size < (w1.alloc (.cells #[.slice x 34 c] 33)).heap.size := by simp
  obtain ⟨b1, e_b1⟩ : ∃ b, w1.heap.size = b := ⟨_, rfl⟩
  obtain ⟨V1, hV⟩ : ∃ V, w1.alloc (.cells #[.slice x 34 c] 33) = V := ⟨_, rfl⟩
  rw [hV] at hb hlt c1 f1 ⊢
  try rw [e_b1] at hlt c1 f1 ⊢
  clear hV
  replace hs := hs.later hb
  replace hB := hB.trans (hb.mono hB.size)
  clear hb
  have z1 : w.heap.size ≤ b1 ∧ b1 < V1.heap.size := ⟨by rw [← e_b1]; exact Z1.out, hlt⟩
  clear hlt e_b1
  refine (HROOT _).mono ?_
  rintro e w2 ⟨rfl, hb⟩
  replace f1 := (hb.frozen (p := ⟨b1, 0, none⟩) z1.2).trans f1
  replace z1 := And.intro z1.1 (Nat.lt_of_lt_of_le z1.2 hb.size)
  replace hs := hs.later hb
  replace c1 := later hb c1
  replace hB := hB.trans (hb.mono hB.size)
  clear hb
  go_wp2_with fail
  refine (HRN0 _ _ _ _ hs).mono ?_
  rintro e w3 ⟨sa5, rfl, i5, _, hb⟩
  replace f1 := (hb.frozen (p := ⟨b1, 0, none⟩) z1.2).trans f1
  replace z1 := And.intro z1.1 (Nat.lt_of_lt_of_le z1.2 hb.size)
  replace hs := hs.later hb
  replace c1 := later hb c1
  replace hB := hB.trans (hb.mono hB.size)
  clear hb
  clear i5
  go_wp2_with (refine wpList_allocTo 5 rfl rfl _ rfl soft_zero ?_; intro Xa0 a_b5 hb0 hz0; refine Hid.out ?_)
  unfold Hid
  try simp only [Act.put, List.setIfInBounds_toArray, List.set_cons_zero, List.set_cons_succ]
  obtain ⟨b5, e_b5⟩ : ∃ a, w3.heap.size = a := ⟨_, rfl⟩
  have s_b5 : w3.heap.size ≤ b5 := by omega
  have hb := hb0
  rw [e_b5] at a_b5 hz0 ⊢
  clear hb0
  have hz : b5 < Xa0.heap.size := by omega
  clear e_b5 hz0
  go_wp2_with (refine wpList_storeB rfl rfl _ (.tmp 5) _ rfl (b := b5) (q := 0) rfl (n := 23) (v := softV zSw sa5) rfl a_b5 (fun j _ => soft_one _ _ _) soft_size ?_; intro Ya0 t1; refine Hid.out ?_)
  unfold Hid
  replace hb := t1.below _ _ (by omega) hb
  replace a_b5 := t1.blk
  rw [← t1.size] at hz
  clear t1
  replace hs := hs.later hb
  replace c1 := later hb c1
  replace f1 := (hb.frozen (p := ⟨b1, 0, none⟩) z1.2).trans f1
  replace z1 := And.intro z1.1 (Nat.lt_of_lt_of_le z1.2 hb.size)
  replace hB := hB.trans (hb.mono hB.size)
  clear hb hz
  clear s_b5
  clear a_b5
  go_wp2_with fail
  have Z4 := Lib.hid z1.2
  have yb : Bts (Ya0.alloc (.cells #[.int .u8 5, .int .u8 6] 5)) (some ⟨Ya0.heap.size, 0, none⟩) [5, 6] := lit2 Ya0 5 6
  have hb := al (Below.refl _ Ya0) (.cells #[.int .u8 5, .int .u8 6] 5)
  have hlt : Ya0.heap.size < (Ya0.alloc (.cells #[.int .u8 5, .int .u8 6] 5)).heap.size := by simp
  obtain ⟨bl1, e_bl1⟩ : ∃ b, Ya0.heap.size = b := ⟨_, rfl⟩
  obtain ⟨V4, hV⟩ : ∃ V, Ya0.alloc (.cells #[.int .u8 5, .int .u8 6] 5) = V := ⟨_, rfl⟩
  rw [hV] at hb hlt yb ⊢
  try rw [e_bl1] at hlt yb ⊢
  clear hV
  replace hs := hs.later hb
  replace c1 := later hb c1
  replace f1 := (hb.frozen (p := ⟨b1, 0, none⟩) z1.2).trans f1
  replace z1 := And.intro z1.1 (Nat.lt_of_lt_of_le z1.2 hb.size)
  replace hB := hB.trans (hb.mono hB.size)
  clear hb
  have y1 : b1 < bl1 := by rw [← e_bl1]; exact Z4.out
  clear hlt e_bl1
  have Z5 := Lib.hid z1.2
  refine (HSA _ _ yb (fun h => by cases h)).mono ?_
  rintro e w4 ⟨xp, cp, rfl, iA, nA, hb⟩
  replace f1 := (hb.frozen (p := ⟨b1, 0, none⟩) z1.2).trans f1
  replace z1 := And.intro z1.1 (Nat.lt_of_lt_of_le z1.2 hb.size)
  replace hs := hs.later hb
  replace c1 := later hb c1
  replace hB := hB.trans (hb.mono hB.size)
  clear hb
  have NA : Hid (∀ p, xp = some p → b1 < p.block) := fun p e => by have := nA p e; have := Z5.out; omega
  clear nA yb
  have Z6 := Lib.hid z1.2
  go_wp2_with (refine wpList_allocTo 8 rfl rfl _ rfl soft_zero ?_; intro Xb0 a_b8 hb0 hz0; refine Hid.out ?_)
  unfold Hid
  try simp only [Act.put, List.setIfInBounds_toArray, List.set_cons_zero, List.set_cons_succ]
  obtain ⟨b8, e_b8⟩ : ∃ a, w4.heap.size = a := ⟨_, rfl⟩
  have s_b8 : w4.heap.size ≤ b8 := by omega
  have hb := hb0
  rw [e_b8] at a_b8 hz0 ⊢
  clear hb0
  have hz : b8 < Xb0.heap.size := by omega
  clear e_b8 hz0
  go_wp2_with (refine wpList_storeB rfl rfl _ (.tmp 8) _ rfl (b := b8) (q := 0) rfl (n := 23) (v := softV sA ⟨some ⟨bl1, 0, none⟩, 2, xp, cp⟩) rfl a_b8 (fun j _ => soft_one _ _ _) soft_size ?_; intro Yb0 t1; refine Hid.out ?_)
  unfold Hid
  replace hb := t1.below _ _ (by omega) hb
  replace a_b8 := t1.blk
  rw [← t1.size] at hz
  clear t1
  replace hs := hs.later hb
  replace c1 := later hb c1
  replace iA := iA.later hb
  replace f1 := (hb.frozen (p := ⟨b1, 0, none⟩) z1.2).trans f1
  replace z1 := And.intro z1.1 (Nat.lt_of_lt_of_le z1.2 hb.size)
  replace hB := hB.trans (hb.mono hB.size)
  clear hb hz
  have n8 : b1 < b8 := by have := Z6.out; omega
  clear s_b8
  go_wp2_with fail
  have Z7 := Lib.hid z1.2
  have yb : Bts (Yb0.alloc (.cells #[.int .u8 5, .int .u8 6] 5)) (some ⟨Yb0.heap.size, 0, none⟩) [5, 6] := lit2 Yb0 5 6
  have hb := al (Below.refl _ Yb0) (.cells #[.int .u8 5, .int .u8 6] 5)
  have hlt : Yb0.heap.size < (Yb0.alloc (.cells #[.int .u8 5, .int .u8 6] 5)).heap.size := by simp
  obtain ⟨bl2, e_bl2⟩ : ∃ b, Yb0.heap.size = b := ⟨_, rfl⟩
  obtain ⟨V5, hV⟩ : ∃ V, Yb0.alloc (.cells #[.int .u8 5, .int .u8 6] 5) = V := ⟨_, rfl⟩
  rw [hV] at hb hlt yb ⊢
  try rw [e_bl2] at hlt yb ⊢
  clear hV
  replace hs := hs.later hb
  replace c1 := later hb c1
  replace iA := iA.later hb
  replace a_b8 := a_b8.later hb
  replace f1 := (hb.frozen (p := ⟨b1, 0, none⟩) z1.2).trans f1
  replace z1 := And.intro z1.1 (Nat.lt_of_lt_of_le z1.2 hb.size)
  replace hB := hB.trans (hb.mono hB.size)
  clear hb
  have y2 : b1 < bl2 := by rw [← e_bl2]; exact Z7.out
  clear hlt e_bl2
  have Z8 := Lib.hid z1.2
  refine (HSB _ _ yb (fun h => by cases h)).mono ?_
  rintro e w5 ⟨xq, cq, rfl, iB, nB, hb⟩
  replace f1 := (hb.frozen (p := ⟨b1, 0, none⟩) z1.2).trans f1
  replace z1 := And.intro z1.1 (Nat.lt_of_lt_of_le z1.2 hb.size)
  replace hs := hs.later hb
  replace c1 := later hb c1
  replace iA := iA.later hb
  replace a_b8 := a_b8.later hb
  replace hB := hB.trans (hb.mono hB.size)
  clear hb
  have NB : Hid (∀ p, xq = some p → b1 < p.block) := fun p e => by have := nB p e; have := Z8.out; omega
  clear nB yb
  have Z9 := Lib.hid z1.2
  go_wp2_with (refine wpList_allocTo 10 rfl rfl _ rfl soft_zero ?_; intro Xc0 a_b10 hb0 hz0; refine Hid.out ?_)
  unfold Hid
  try simp only [Act.put, List.setIfInBounds_toArray, List.set_cons_zero, List.set_cons_succ]
  obtain ⟨b10, e_b10⟩ : ∃ a, w5.heap.size = a := ⟨_, rfl⟩
  have s_b10 : w5.heap.size ≤ b10 := by omega
  have hb := hb0
  rw [e_b10] at a_b10 hz0 ⊢
  clear hb0
  have hz : b10 < Xc0.heap.size := by omega
  clear e_b10 hz0
  go_wp2_with (refine wpList_storeB rfl rfl _ (.tmp 10) _ rfl (b := b10) (q := 0) rfl (n := 23) (v := softV sB ⟨some ⟨bl2, 0, none⟩, 2, xq, cq⟩) rfl a_b10 (fun j _ => soft_one _ _ _) soft_size ?_; intro Yc0 t1; refine Hid.out ?_)
  unfold Hid
  replace hb := t1.below _ _ (by omega) hb
  replace a_b10 := t1.blk
  rw [← t1.size] at hz
  clear t1
  replace hs := hs.later hb
  replace c1 := later hb c1
  replace iA := iA.later hb
  replace a_b8 := a_b8.later hb
  replace iB := iB.later hb
  replace f1 := (hb.frozen (p := ⟨b1, 0, none⟩) z1.2).trans f1
  replace z1 := And.intro z1.1 (Nat.lt_of_lt_of_le z1.2 hb.size)
  replace hB := hB.trans (hb.mono hB.size)
  clear hb hz
  have n10 : b1 < b10 := by have := Z9.out; omega
  clear s_b10
  go_wp2_with (refine wpList_loadN rfl _ (.tmp 8) rfl (b := b8) (q := 0) rfl (run_loadSw a_b8) ?_)
  refine (HPA _ _ iA).mono ?_
  rintro e w6 ⟨yf, cf, rfl, yo, hb⟩
  replace f1 := (hb.frozen (p := ⟨b1, 0, none⟩) z1.2).trans f1
  replace z1 := And.intro z1.1 (Nat.lt_of_lt_of_le z1.2 hb.size)
  replace hs := hs.later hb
  replace c1 := later hb c1
  replace iA := iA.later hb
  replace a_b8 := a_b8.later hb
  replace iB := iB.later hb
  replace a_b10 := a_b10.later hb
  replace hB := hB.trans (hb.mono hB.size)
  clear hb
  clear yo
  go_wp2_with (refine wpList_loadN rfl _ (.tmp 8) rfl (b := b8) (q := 0) rfl (run_loadSw a_b8) ?_)
  have Z10 := Lib.hid z1.2
  refine (HI1 _ _ _ _ _ hs iA).mono ?_
  rintro e w7 ⟨yA, cA, os, rfl, oA, hlA, hmA, hb⟩
  replace f1 := (hb.frozen (p := ⟨b1, 0, none⟩) z1.2).trans f1
  replace z1 := And.intro z1.1 (Nat.lt_of_lt_of_le z1.2 hb.size)
  replace hs := hs.later hb
  replace c1 := later hb c1
  replace iA := iA.later hb
  replace a_b8 := a_b8.later hb
  replace iB := iB.later hb
  replace a_b10 := a_b10.later hb
  replace hB := hB.trans (hb.mono hB.size)
  clear hb
  replace oA := oA.weaken (B' := b1 + 1) (by have := Z10.out; omega)
  have HOS := Lib.hid (HOPS.out _ hmA)
  obtain ⟨hrun, hvo⟩ := HFST.out os hmA
  rw [HCKA.out] at hrun
  clear hmA
  have HRUN := Lib.hid hrun
  have HLA := Lib.hid hlA
  clear hrun hlA
  go_wp2_with fail
  have Z11 := Lib.hid z1.2
  refine (run34 _ 5 _ hs HST0.out oA HLA.out (by omega) hvo).mono ?_
  rintro e w8 ⟨x2, c2, rs2, rfl, hs2, hb⟩
  replace f1 := (hb.frozen (p := ⟨b1, 0, none⟩) z1.2).trans f1
  replace z1 := And.intro z1.1 (Nat.lt_of_lt_of_le z1.2 hb.size)
  replace hs := hs.later hb
  replace c1 := later hb c1
  replace iA := iA.later hb
  replace a_b8 := a_b8.later hb
  replace iB := iB.later hb
  replace a_b10 := a_b10.later hb
  replace oA := oA.later hb
  replace hB := hB.trans (hb.mono hB.size)
  clear hb
  replace hs2 := hs2.weaken (B' := b1 + 1) (by have := Z11.out; omega)
  clear hs hvo
  obtain ⟨ls1, hls1⟩ : ∃ l, runL E0 os = l := ⟨_, rfl⟩
  rw [hls1] at hs2 HRUN
  clear hls1
  go_wp2_with fail
  have tn : Turns (fun b => b = b1) w8 (w8.setCell ⟨b1, 0, none⟩ (.slice x2 34 c2)) := (Turns.refl (fun b => b = b1) w8).setCell (p := ⟨b1, 0, none⟩) (fun _ => rfl) _
  replace c1 : (w8.setCell ⟨b1, 0, none⟩ (.slice x2 34 c2)).cell? ⟨b1, 0, none⟩ = some (.slice x2 34 c2) := World.cell?_setCell_same' _ _ _ (by rw [c1]; rfl)
  replace f1 : (w8.setCell ⟨b1, 0, none⟩ (.slice x2 34 c2)).frozen? ⟨b1, 0, none⟩ = false := (World.frozen?_setCell _ _ _ _).trans f1
  replace hs2 := hs2.turn tn (fun b e => by omega)
  replace oA := oA.turn tn (fun b h _ e => by omega)
  replace a_b8 := a_b8.turn tn (by omega)
  replace a_b10 := a_b10.turn tn (by omega)
  replace iA := iA.turn tn (fun p e k => by cases e; simp only at k; omega) (fun p e k => by have := NA.out p e; omega)
  replace iB := iB.turn tn (fun p e k => by cases e; simp only at k; omega) (fun p e k => by have := NB.out p e; omega)
  replace hB := hB.setCell (p := ⟨b1, 0, none⟩) z1.1 (.slice x2 34 c2)
  replace z1 := And.intro z1.1 (Nat.lt_of_lt_of_le z1.2 tn.size)
  obtain ⟨V8, hV⟩ : ∃ V, w8.setCell ⟨b1, 0, none⟩ (.slice x2 34 c2) = V := ⟨_, rfl⟩
  rw [hV] at c1 f1 hs2 oA a_b8 a_b10 iA iB hB z1 ⊢
  clear hV tn
  refine (rn_r _ _ hs2 HRUN.out).mono ?_
  rintro e w9 ⟨sa17, rfl, i17, _, hb⟩
  replace f1 := (hb.frozen (p := ⟨b1, 0, none⟩) z1.2).trans f1
  replace z1 := And.intro z1.1 (Nat.lt_of_lt_of_le z1.2 hb.size)
  replace c1 := later hb c1
  replace iA := iA.later hb
  replace a_b8 := a_b8.later hb
  replace iB := iB.later hb
  replace a_b10 := a_b10.later hb
  replace oA := oA.later hb
  replace hs2 := hs2.later hb
  replace hB := hB.trans (hb.mono hB.size)
  clear hb
  go_wp2_with (refine wpList_allocTo 17 rfl rfl _ rfl soft_zero ?_; intro Xd0 a_b17 hb0 hz0; refine Hid.out ?_)
  unfold Hid
  try simp only [Act.put, List.setIfInBounds_toArray, List.set_cons_zero, List.set_cons_succ]
  obtain ⟨b17, e_b17⟩ : ∃ a, w9.heap.size = a := ⟨_, rfl⟩
  have s_b17 : w9.heap.size ≤ b17 := by omega
  have hb := hb0
  rw [e_b17] at a_b17 hz0 ⊢
  clear hb0
  have hz : b17 < Xd0.heap.size := by omega
  clear e_b17 hz0
  go_wp2_with (refine wpList_storeB rfl rfl _ (.tmp 17) _ rfl (b := b17) (q := 0) rfl (n := 23) (v := softV sA sa17) rfl a_b17 (fun j _ => soft_one _ _ _) soft_size ?_; intro Yd0 t1; refine Hid.out ?_)
  unfold Hid
  replace hb := t1.below _ _ (by omega) hb
  replace a_b17 := t1.blk
  rw [← t1.size] at hz
  clear t1
  replace c1 := later hb c1
  replace iA := iA.later hb
  replace a_b8 := a_b8.later hb
  replace iB := iB.later hb
  replace a_b10 := a_b10.later hb
  replace oA := oA.later hb
  replace hs2 := hs2.later hb
  replace i17 := i17.later hb
  replace f1 := (hb.frozen (p := ⟨b1, 0, none⟩) z1.2).trans f1
  replace z1 := And.intro z1.1 (Nat.lt_of_lt_of_le z1.2 hb.size)
  replace hB := hB.trans (hb.mono hB.size)
  clear hb hz
  clear s_b17
  go_wp2_with (refine wpList_loadN rfl _ (.tmp 8) rfl (b := b8) (q := 0) rfl (run_loadSw a_b8) ?_)
  refine (ins_e34 _ _ _ hs2 HRUN.out.st iA (Ld.ins_old HRUN.out HVA.out HGA.out (Int.le_refl _)) (by decide)).mono ?_
  rintro e w10 ⟨yE, cE, rfl, hb⟩
  replace f1 := (hb.frozen (p := ⟨b1, 0, none⟩) z1.2).trans f1
  replace z1 := And.intro z1.1 (Nat.lt_of_lt_of_le z1.2 hb.size)
  replace c1 := later hb c1
  replace iA := iA.later hb
  replace a_b8 := a_b8.later hb
  replace iB := iB.later hb
  replace a_b10 := a_b10.later hb
  replace oA := oA.later hb
  replace hs2 := hs2.later hb
  replace i17 := i17.later hb
  replace a_b17 := a_b17.later hb
  replace hB := hB.trans (hb.mono hB.size)
  clear hb
  go_wp2_with (refine wpList_loadN rfl _ (.tmp 10) rfl (b := b10) (q := 0) rfl (run_loadSw a_b10) ?_)
  refine (ins_r _ _ _ hs2 HRUN.out.st iB (Ld.ins_run HRUN.out HVB.out HGB.out HVER.out (by show (1 : Nat) < 4294967295; omega)).1).mono ?_
  rintro e w11 ⟨yB, cB, os2, rfl, oB, hlB, hmB, hb⟩
  replace f1 := (hb.frozen (p := ⟨b1, 0, none⟩) z1.2).trans f1
  replace z1 := And.intro z1.1 (Nat.lt_of_lt_of_le z1.2 hb.size)
  replace c1 := later hb c1
  replace iA := iA.later hb
  replace a_b8 := a_b8.later hb
  replace iB := iB.later hb
  replace a_b10 := a_b10.later hb
  replace oA := oA.later hb
  replace hs2 := hs2.later hb
  replace i17 := i17.later hb
  replace a_b17 := a_b17.later hb
  replace hB := hB.trans (hb.mono hB.size)
  clear hb
  have HOS2 := Lib.hid (HOPSB.out _ _ HRUN.out _ hmB)
  rw [HCKB.out] at hlB ⊢
  have HLB := Lib.hid hlB
  clear hmB hlB
  clear hs2 iB a_b10
  go_wp2_with (first | (refine wpList_loadN_w rfl _ (.tmp 17) rfl (b := b17) (q := 0) rfl (run_loadSw a_b17) ?_) | (refine wpList_loadN_w rfl _ (.tmp 8) rfl (b := b8) (q := 0) rfl (run_loadSw a_b8) ?_))
  refine (HSM _ _ _ i17 iA).mono ?_
  rintro e w12 ⟨rfl, hb⟩
  replace f1 := (hb.frozen (p := ⟨b1, 0, none⟩) z1.2).trans f1
  replace z1 := And.intro z1.1 (Nat.lt_of_lt_of_le z1.2 hb.size)
  replace c1 := later hb c1
  replace iA := iA.later hb
  replace a_b8 := a_b8.later hb
  replace oA := oA.later hb
  replace i17 := i17.later hb
  replace a_b17 := a_b17.later hb
  replace oB := oB.later hb
  replace hB := hB.trans (hb.mono hB.size)
  clear hb
  clear i17 iA a_b8 a_b17 c1
  clear f1 HSM HSA HSB HPA HI1 HRN0 HROOT
  go_wp2_with fail
  have hlp : ∀ j : Nat, j < 5 → (w12.alloc (.cells #[.int .i64 2, .int .i64 3, .int .i64 4, .int .i64 5, .int .i64 0] 3)).cell? ⟨w12.heap.size, j, none⟩ = some (.int .i64 (([2, 3, 4, 5, 0] : List Int).getD j 0)) := fun j hj => by
    match j, hj with
    | 0, _ => exact cell_new w12 _ _ _ 0
    | 1, _ => exact cell_new w12 _ _ _ 1
    | 2, _ => exact cell_new w12 _ _ _ 2
    | 3, _ => exact cell_new w12 _ _ _ 3
    | 4, _ => exact cell_new w12 _ _ _ 4
    | j + 5, h => exact absurd h (by omega)
  have hb := al (Below.refl _ w12) (.cells #[.int .i64 2, .int .i64 3, .int .i64 4, .int .i64 5, .int .i64 0] 3)
  obtain ⟨bl3, e_l⟩ : ∃ b, w12.heap.size = b := ⟨_, rfl⟩
  obtain ⟨Vp, hV⟩ : ∃ V, w12.alloc (.cells #[.int .i64 2, .int .i64 3, .int .i64 4, .int .i64 5, .int .i64 0] 3) = V := ⟨_, rfl⟩
  rw [hV] at hb hlp ⊢
  rw [e_l] at hlp ⊢
  clear hV e_l
  replace z1 := And.intro z1.1 (Nat.lt_of_lt_of_le z1.2 hb.size)
  replace oA := oA.later hb
  replace oB := oB.later hb
  replace hB := hB.trans (hb.mono hB.size)
  clear hb
  obtain ⟨bs, hbs⟩ : ∃ l, ([2, 3, 4, 5, 0] : List Int) = l := ⟨_, rfl⟩
  have HBS : Hid (os.map (·.blk) = bs) := by show _ = _; rw [HOS.out, hbs]
  have HBL : Hid (bs.length = 5) := by show _ = _; rw [← hbs]; rfl
  rw [hbs] at hlp
  have HLp := Lib.hid hlp
  clear hlp hbs
  go_loopw [153] (fun u wr => ∃ n : Nat, n ≤ 5 ∧ u = .int .i64 (n : Int) ∧ Below Vp.heap.size Vp wr) (fun u _ => 5 - (intOf u).toNat)
  case atStart => exact ⟨0, by omega, rfl, Below.refl _ _⟩
  case round =>
    obtain ⟨n, hn, rfl, hb⟩ := hrel
    by_cases hlt : n < 5
    · have hki : decide ((n : Int) < 5) = true := by simp; omega
      have hc := later hb (HLp.out n hlt)
      obtain ⟨v, hv⟩ : ∃ v, bs.getD n 0 = v := ⟨_, rfl⟩
      rw [hv] at hc
      have HSZ := sizes_any yA os cA wr (oA.ops.later hb) (by rw [HLA.out]; omega)
      rw [HBS.out, HLA.out] at HSZ
      unfold SizOf at HSZ
      rw [HBL.out] at HSZ
      have HV := Lib.hid hv
      clear hv
      go_wp2_with fail
      refine HSZ.mono ?_
      rintro e w13 ⟨ys, cs, rfl, oi, hb2⟩
      obtain ⟨gs, rfl⟩ := oi.some_of (by rw [HBL.out]; omega)
      have hci := oi.cell n (by rw [HBL.out]; exact hlt)
      rw [HV.out] at hci
      have hbb := thru hb hb2
      clear oi hb2 hc HSZ hb
      go_wp2_with fail
      exact ⟨⟨n + 1, by omega, by go_num, hbb⟩, by simp [intOf]; omega⟩
    · have hn5 : (n : Int) = 5 := by omega
      rw [hn5]
      clear hn5 hlt hn
      replace z1 := And.intro z1.1 (Nat.lt_of_lt_of_le z1.2 hb.size)
      replace oA := oA.later hb
      replace oB := oB.later hb
      replace hB := hB.trans (hb.mono hB.size)
      clear hb
      clear HBS HBL HLp bs oA
      obtain ⟨wo, hwo⟩ : ∃ W, W = wr := ⟨wr, rfl⟩
      rw [← hwo] at oB hB z1 ⊢
      clear hwo
      go_wp2_with fail
      have hlq : ∀ j : Nat, j < 5 → (wo.alloc (.cells #[.int .i64 18, .int .i64 19, .int .i64 20, .int .i64 21, .int .i64 1] 3)).cell? ⟨wo.heap.size, j, none⟩ = some (.int .i64 (([18, 19, 20, 21, 1] : List Int).getD j 0)) := fun j hj => by
        match j, hj with
        | 0, _ => exact cell_new wo _ _ _ 0
        | 1, _ => exact cell_new wo _ _ _ 1
        | 2, _ => exact cell_new wo _ _ _ 2
        | 3, _ => exact cell_new wo _ _ _ 3
        | 4, _ => exact cell_new wo _ _ _ 4
        | j + 5, h => exact absurd h (by omega)
      have hb := al (Below.refl _ wo) (.cells #[.int .i64 18, .int .i64 19, .int .i64 20, .int .i64 21, .int .i64 1] 3)
      obtain ⟨bl4, e_l⟩ : ∃ b, wo.heap.size = b := ⟨_, rfl⟩
      obtain ⟨Vq, hV⟩ : ∃ V, wo.alloc (.cells #[.int .i64 18, .int .i64 19, .int .i64 20, .int .i64 21, .int .i64 1] 3) = V := ⟨_, rfl⟩
      rw [hV] at hb hlq ⊢
      rw [e_l] at hlq ⊢
      clear hV e_l
      replace z1 := And.intro z1.1 (Nat.lt_of_lt_of_le z1.2 hb.size)
      replace oB := oB.later hb
      replace hB := hB.trans (hb.mono hB.size)
      clear hb
      obtain ⟨bs, hbs⟩ : ∃ l, ([18, 19, 20, 21, 1] : List Int) = l := ⟨_, rfl⟩
      have HBS : Hid (os2.map (·.blk) = bs) := by show _ = _; rw [HOS2.out, hbs]
      have HBL : Hid (bs.length = 5) := by show _ = _; rw [← hbs]; rfl
      rw [hbs] at hlq
      have HLq := Lib.hid hlq
      clear hlq hbs
      go_loopw [168] (fun u wr => ∃ n : Nat, n ≤ 5 ∧ u = .int .i64 (n : Int) ∧ Below Vq.heap.size Vq wr) (fun u _ => 5 - (intOf u).toNat)
      case atStart => exact ⟨0, by omega, rfl, Below.refl _ _⟩
      case round =>
        obtain ⟨n, hn, rfl, hb⟩ := hrel
        by_cases hlt : n < 5
        · have hki : decide ((n : Int) < 5) = true := by simp; omega
          have hc := later hb (HLq.out n hlt)
          obtain ⟨v, hv⟩ : ∃ v, bs.getD n 0 = v := ⟨_, rfl⟩
          rw [hv] at hc
          have HSZ := sizes_any yB os2 cB wr (oB.ops.later hb) (by rw [HLB.out]; omega)
          rw [HBS.out, HLB.out] at HSZ
          unfold SizOf at HSZ
          rw [HBL.out] at HSZ
          have HV := Lib.hid hv
          clear hv
          go_wp2_with fail
          refine HSZ.mono ?_
          rintro e w13 ⟨ys, cs, rfl, oi, hb2⟩
          obtain ⟨gs, rfl⟩ := oi.some_of (by rw [HBL.out]; omega)
          have hci := oi.cell n (by rw [HBL.out]; exact hlt)
          rw [HV.out] at hci
          have hbb := thru hb hb2
          clear oi hb2 hc HSZ hb
          go_wp2_with fail
          exact ⟨⟨n + 1, by omega, by go_num, hbb⟩, by simp [intOf]; omega⟩
        · have hn5 : (n : Int) = 5 := by omega
          rw [hn5]
          clear hn5 hlt hn
          replace z1 := And.intro z1.1 (Nat.lt_of_lt_of_le z1.2 hb.size)
          replace oB := oB.later hb
          replace hB := hB.trans (hb.mono hB.size)
          clear hb
          go_wp2_with fail
          go_ret
          exact ⟨rfl, hB⟩

end Go.Proofs.YtapefonhgkjgnaaGreat
