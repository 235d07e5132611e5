/- THE LAW LoaderRefuses. -/
import Derived.Test.YtapefonhgkjgnaaLdZ
set_option maxRecDepth 20000
namespace Go.Proofs.Ytapefonhgkjgnaa
open Go.RowKit

theorem bareR_vld (v : Int) (hv : 0 ≤ v ∧ v ≤ 1048576) (im : List UInt8) : (bare [97] v im).vld = decide (im.length ≤ 400) := by
  rw [Bool.eq_iff_iff, Ld.Sw.vld_iff, decide_eq_true_iff]
  unfold bare
  simp
  omega
theorem Rws.take {w : World} {x : Option Addr} {rs : List Rw} (h : Rws w x rs) (n : Nat) : Rws w x (rs.take n) := by
  refine ⟨?_, fun r hr => h.2 r (List.mem_of_mem_take hr)⟩
  rcases h.1 with h0 | ⟨b, o, hx, hc⟩
  · left; rw [h0]; simp
  · right
    refine ⟨b, o, hx, fun i hi => ?_⟩
    rw [List.length_take] at hi
    rw [hc i (by omega)]
    congr 2
    rw [List.getD_eq_getElem?_getD, List.getD_eq_getElem?_getD, List.getElem?_take, if_pos (by omega)]

theorem new34c (w : World) : Calls Try.prog 14 #[.int .i64 34] w fun e w' => ∃ x c rs, e = .returned (.tuple #[.agg #[.slice x 34 c], .int .i64 0]) ∧ StoIn w.heap.size w' x rs (List.replicate 34 erasedL) ∧ Below w.heap.size w w' ∧ 34 ≤ c := by
  refine (new_yes 34 w (by omega)).mono ?_
  rintro e w' ⟨x, c, rs, rfl, hl, ho, hb⟩
  have h1 := ownsN_sto ho
  have h2 : rs.length ≤ c := by
    rcases ho.row.2 with ⟨hv, h0⟩ | ⟨g, cap', cur, hv, _, _, hle, _⟩
    · omega
    · simp only [Value.slice.injEq] at hv
      rw [hv.2.2]; exact hle
  rw [hl] at h1 h2 ⊢
  exact ⟨x, c, rs, rfl, h1, hb, h2⟩

set_option maxHeartbeats 4000000 in
theorem refuses_law (seed : D64) (ver : Int) (xa : Option Addr) (a : List UInt8) (ca : Nat) (way : UInt8) (w : World) (hver : 0 ≤ ver ∧ ver ≤ 65535) (hxa : Bts w xa a) (hna : xa = none → ca = 0) :
    Calls Try.prog 4 #[.int .u64 (num seed), .int .u16 ver, .slice xa a.length ca, .int .u8 (way.toNat : Int)] w (YesOf w) := by
  have hB := Below.refl w.heap.size w
  have HXA := Lib.hid hxa
  have HROOT : ∀ W, Calls Try.prog 15 #[.int .u64 (num seed), .int .i64 0] W fun e w' => e = .returned (.tuple #[.int .u64 (num (Sgn.node seed 0 0)), .int .i64 0]) ∧ Below W.heap.size W w' := fun W => root_ok seed 0 (by omega) W
  have HSA : ∀ W, Bts W xa a → Calls Try.prog 16 #[.int .u64 (num seed), .int .i64 0, .int .i64 0, .string ⟨#[97]⟩, .int .i64 ver, .slice xa a.length ca] W (SigOf (sgnS seed 0 0 [97] ver a) (decide (a.length ≤ 400)) xa ca W) := fun W h => by
    have := signed_any seed 0 0 [97] ver a xa ca W (by omega) (by decide) h hna
    rw [bareR_vld ver (by omega)] at this
    exact this
  have VA : Hid (a.length ≤ 400 → (sgnS seed 0 0 [97] ver a).vld = true ∧ Ld.genu (sgnS seed 0 0 [97] ver a) (Sgn.node seed 0 0) 0 = true) := fun h => by
    have hv : (bare [97] ver a).vld = true := by rw [bareR_vld ver (by omega)]; exact decide_eq_true h
    exact ⟨(sgn_vld (by omega) (by decide) _ _ _).trans hv, sgn_genu (seed := seed) (h := 0) (q := 0) (by omega) (by decide) [97] ver a hv⟩
  have HNA := Lib.hid (sgn_N seed 0 0 [97] ver a)
  have HPA := Lib.hid (show (sgnS seed 0 0 [97] ver a).path.length = 0 by unfold sgnS; rw [Sgn.path_length])
  have HIMA : Hid ((sgnS seed 0 0 [97] ver a).img = a) := rfl
  have HVE : Hid ((sgnS seed 0 0 [97] ver a).ver = ver) := rfl
  obtain ⟨rt, hrt⟩ : ∃ r, Sgn.node seed 0 0 = r := ⟨_, rfl⟩
  rw [hrt] at HROOT VA
  clear hrt
  obtain ⟨sA, hsA⟩ : ∃ r, sgnS seed 0 0 [97] ver a = r := ⟨_, rfl⟩
  rw [hsA] at HSA VA HNA HPA HIMA HVE
  clear hsA
  obtain ⟨la, hla⟩ : ∃ n, a.length = n := ⟨_, rfl⟩
  rw [hla] at HSA VA ⊢
  clear hla hna hxa
  have HST0 := Lib.hid Ld.idle_new
  have HE0' : ∃ l, List.replicate 34 erasedL = l := ⟨_, rfl⟩
  obtain ⟨E0, hE0⟩ := HE0'
  rw [hE0] at HST0
  have HE0 := Lib.hid hE0
  clear hE0
  have hwv : IntKind.i64.wrap ver = ver := by simp [IntKind.wrap, IntKind.bits, IntKind.signed]; omega
  have hwv2 : IntKind.i64.wrap (ver + 1) = ver + 1 := by simp [IntKind.wrap, IntKind.bits, IntKind.signed]; omega
  have hw64 : wrap64 ver = ver := wrap64_id (by omega)
  have hw64b : wrap64 (ver + 1) = ver + 1 := wrap64_id (by omega)
  have HW := Lib.hid (And.intro hwv2 hw64b)
  clear hwv2 hw64b
  go_enter Try.func4, Try.ntmps4
  go_wp2_with fail
  refine (new34c _).mono ?_
  rintro e wN ⟨x1, c1_, rs1, rfl, hs, hb, hcap⟩
  replace hB := hB.trans (hb.mono hB.size)
  clear hb
  rw [HE0.out] at hs
  have Z0 := Lib.hid hB.size
  go_wp2_with fail
  have hb := al (Below.refl _ wN) (.cells #[.slice x1 34 c1_] 33)
  have c1 : (wN.alloc (.cells #[.slice x1 34 c1_] 33)).cell? ⟨wN.heap.size, 0, none⟩ = some (.slice x1 34 c1_) := cell_new wN _ _ _ 0
  have f1 := frozen_new wN #[.slice x1 34 c1_] 33 0
  have hlt : wN.heap.size < (wN.alloc (.cells #[.slice x1 34 c1_] 33)).heap.size := by simp
  obtain ⟨b1, e_b1⟩ : ∃ b, wN.heap.size = b := ⟨_, rfl⟩
  obtain ⟨V1, hV⟩ : ∃ V, wN.alloc (.cells #[.slice x1 34 c1_] 33) = V := ⟨_, rfl⟩
  rw [hV] at hb hlt c1 f1 ⊢
  try rw [e_b1] at hlt c1 f1 ⊢
  clear hV
  replace hs := hs.later hb
  replace hB := hB.trans (hb.mono hB.size)
  clear hb
  have z1 : w.heap.size ≤ b1 ∧ b1 < V1.heap.size := ⟨by rw [← e_b1]; exact Z0.out, hlt⟩
  clear hlt e_b1
  have HCAP := Lib.hid hcap
  clear hcap
  refine (HROOT _).mono ?_
  rintro e w2 ⟨rfl, hb⟩
  replace f1 := (hb.frozen (p := ⟨b1, 0, none⟩) z1.2).trans f1
  replace z1 := And.intro z1.1 (Nat.lt_of_lt_of_le z1.2 hb.size)
  replace hs := hs.later hb
  replace c1 := later hb c1
  replace hB := hB.trans (hb.mono hB.size)
  clear hb
  go_wp2_with fail
  have Z1 := Lib.hid z1.2
  refine (HSA _ (HXA.out.later hB)).mono ?_
  rintro e wSA ⟨xpA, cpA, rfl, iA, nA, hb⟩
  replace f1 := (hb.frozen (p := ⟨b1, 0, none⟩) z1.2).trans f1
  replace z1 := And.intro z1.1 (Nat.lt_of_lt_of_le z1.2 hb.size)
  replace hs := hs.later hb
  replace c1 := later hb c1
  replace hB := hB.trans (hb.mono hB.size)
  clear hb
  have NA : Hid (∀ p, xpA = some p → b1 < p.block) := fun p e => by have := nA p e; have := Z1.out; omega
  clear nA
  have Z2 := Lib.hid z1.2
  go_wp2_with (refine wpList_allocTo 13 rfl rfl _ rfl soft_zero ?_; intro XA0 a_b13 hb0 hz0; refine Hid.out ?_)
  unfold Hid
  try simp only [Act.put, List.setIfInBounds_toArray, List.set_cons_zero, List.set_cons_succ]
  obtain ⟨b13, e_b13⟩ : ∃ a, wSA.heap.size = a := ⟨_, rfl⟩
  have s_b13 : wSA.heap.size ≤ b13 := by omega
  have hb := hb0
  rw [e_b13] at a_b13 hz0 ⊢
  clear hb0
  have hz : b13 < XA0.heap.size := by omega
  clear e_b13 hz0
  go_wp2_with (refine wpList_storeB rfl rfl _ (.tmp 13) _ rfl (b := b13) (q := 0) rfl (n := 23) (v := softV sA ⟨xa, ca, xpA, cpA⟩) rfl a_b13 (fun j _ => soft_one _ _ _) soft_size ?_; intro YA0 t1; refine Hid.out ?_)
  unfold Hid
  replace hb := t1.below _ _ (by omega) hb
  replace a_b13 := t1.blk
  rw [← t1.size] at hz
  clear t1
  replace hs := hs.later hb
  replace c1 := later hb c1
  replace iA := iA.later hb
  replace f1 := (hb.frozen (p := ⟨b1, 0, none⟩) z1.2).trans f1
  replace z1 := And.intro z1.1 (Nat.lt_of_lt_of_le z1.2 hb.size)
  replace hB := hB.trans (hb.mono hB.size)
  clear hb hz
  have m_b13 : b1 < b13 := by have := Z2.out; omega
  clear s_b13
  clear hwv hw64
  by_cases hA : ¬ la ≤ 400
  · have d1 : decide (la ≤ 400) = false := by simp; omega
    rw [d1]
    have d3 : decide ((la : Int) > 400) = true := by simp; omega
    have d4 : decide ((400 : Int) < (la : Int)) = true := by simp; omega
    clear hs c1 iA a_b13
    go_wp2_with fail
    all_goals (refine (awake_any _).mono ?_; rintro e wX ⟨rfl, hb⟩; have hBX := hB.trans (hb.mono hB.size); clear hb; go_wp2_with fail; go_ret; exact ⟨rfl, hBX⟩)
  rw [Decidable.not_not] at hA
  have d1 : decide (la ≤ 400) = true := by simp; omega
  rw [d1]
  obtain ⟨hvA, hgA⟩ := VA.out hA
  have HIA := Lib.hid (Ld.ins_idle HST0.out hvA hgA)
  have HFST := Lib.hid (fun os ho => Ld.run_first (s := sA) (root := rt) (g := 0) (os := os) HST0.out HNA.out hvA hgA ho)
  have HNON := Lib.hid (fun os ho => Ld.none_h (s := sA) (root := rt) (g := 0) (g' := 1) (os := os) HST0.out HNA.out hvA hgA ho (by rw [HPA.out]; decide))
  have HVA := Lib.hid (And.intro hvA hgA)
  clear hvA hgA VA hA d1
  go_wp2_with (refine wpList_loadN rfl _ (.tmp 13) rfl (b := b13) (q := 0) rfl (run_loadSw a_b13) ?_)
  have Z3 := Lib.hid z1.2
  refine (ins_r _ _ _ hs HST0.out.st iA HIA.out.1).mono ?_
  rintro e wI1 ⟨y1, kc1, os1, rfl, o1, hl1, hm1, hb⟩
  replace f1 := (hb.frozen (p := ⟨b1, 0, none⟩) z1.2).trans f1
  replace z1 := And.intro z1.1 (Nat.lt_of_lt_of_le z1.2 hb.size)
  replace hs := hs.later hb
  replace c1 := later hb c1
  replace iA := iA.later hb
  replace a_b13 := a_b13.later hb
  replace hB := hB.trans (hb.mono hB.size)
  clear hb
  replace o1 := o1.weaken (B' := b1 + 1) (by have := Z3.out; omega)
  obtain ⟨hrun, hvo⟩ := HFST.out os1 hm1
  have HN1 := Lib.hid (HNON.out os1 hm1)
  obtain ⟨n1, hn1⟩ : ∃ n, Ld.ckN (Ld.form sA) = n := ⟨_, rfl⟩
  have hn16 := (Ld.ckN_form sA HVA.out.1).2.1
  rw [hn1] at hrun hl1 hn16 ⊢
  have HRUN := Lib.hid hrun
  have HL1 := Lib.hid hl1
  clear hrun hl1 hn1 hm1
  go_wp2_with fail
  refine (run34 _ (n1 + 1) _ hs HST0.out.st o1 HL1.out (by omega) hvo).mono ?_
  rintro e wR ⟨x2_, c2_, rs2_, rfl, hs2, hb⟩
  replace f1 := (hb.frozen (p := ⟨b1, 0, none⟩) z1.2).trans f1
  replace z1 := And.intro z1.1 (Nat.lt_of_lt_of_le z1.2 hb.size)
  replace hs := hs.later hb
  replace c1 := later hb c1
  replace iA := iA.later hb
  replace a_b13 := a_b13.later hb
  replace o1 := o1.later hb
  replace hB := hB.trans (hb.mono hB.size)
  clear hb
  clear hvo
  obtain ⟨ls1, hls1⟩ : ∃ l, runL E0 os1 = l := ⟨_, rfl⟩
  rw [hls1] at hs2 HRUN HN1
  clear hls1
  clear o1
  go_wp2_with fail
  have hb := al (Below.refl _ wR) (.cells #[.slice x2_ 34 c2_] 33)
  have c17 : (wR.alloc (.cells #[.slice x2_ 34 c2_] 33)).cell? ⟨wR.heap.size, 0, none⟩ = some (.slice x2_ 34 c2_) := cell_new wR _ _ _ 0
  obtain ⟨b17, e17⟩ : ∃ b, wR.heap.size = b := ⟨_, rfl⟩
  obtain ⟨V2, hV⟩ : ∃ V, wR.alloc (.cells #[.slice x2_ 34 c2_] 33) = V := ⟨_, rfl⟩
  rw [hV] at hb c17 ⊢
  try rw [e17] at c17 ⊢
  clear hV e17
  replace f1 := (hb.frozen (p := ⟨b1, 0, none⟩) z1.2).trans f1
  replace z1 := And.intro z1.1 (Nat.lt_of_lt_of_le z1.2 hb.size)
  replace hs := hs.later hb
  replace c1 := later hb c1
  replace iA := iA.later hb
  replace a_b13 := a_b13.later hb
  replace hs2 := hs2.later hb
  replace hB := hB.trans (hb.mono hB.size)
  clear hb
  clear HSA HROOT HFST HIA HNON f1 z1
  obtain ⟨NB, hNB⟩ : ∃ n, V2.heap.size = n := ⟨_, rfl⟩
  have HNBL := Lib.hid hNB
  have l1 : b1 < NB := by rw [← hNB]; exact World.block_lt_of_cell? _ _ c1
  have L17 : Hid (b17 < NB) := by show _ < _; rw [← hNB]; exact World.block_lt_of_cell? _ _ c17
  have l13 : b13 < NB := by rw [← hNB]; exact World.block_lt_of_cell? _ _ (a_b13.at 0 (by omega)).1
  clear hNB
  refine wp_cutN (fun a' W => ∃ b19 b20 : Nat, (b19 ≠ b20 ∧ NB ≤ b19 ∧ NB ≤ b20) ∧ Blk W b19 0 23 (softV sA ⟨xa, ca, xpA, cpA⟩) ∧ W.cell? ⟨b20, 0, none⟩ = some (.slice x1 34 c1_) ∧ W.frozen? ⟨b20, 0, none⟩ = false ∧ Below NB V2 W ∧ ∃ u : Nat → Value, a' = { tmps := #[.int .u64 (num seed), .int .u16 ver, .slice xa la ca, .int .u8 (way.toNat : Int), u 4, u 5, u 6, u 7, .bool false, .pointer (some ⟨b1, 0, none⟩), u 10, .int .u64 (num rt), u 12, .pointer (some ⟨b13, 0, none⟩), u 14, u 15, u 16, .pointer (some ⟨b17, 0, none⟩), u 18, .pointer (some ⟨b19, 0, none⟩), .pointer (some ⟨b20, 0, none⟩), .int .i64 0, .int .i64 2, u 23, u 24, u 25, u 26, u 27, u 28, u 29, u 30, u 31, u 32, u 33, u 34, u 35, u 36, u 37, u 38, u 39, u 40, u 41, u 42, u 43, u 44, u 45, u 46, u 47, u 48, u 49, u 50, u 51, u 52, u 53, u 54, u 55, u 56, u 57, u 58, u 59, u 60, u 61, u 62, u 63, u 64, u 65, u 66, u 67, u 68, u 69, u 70, u 71, u 72, u 73, u 74, u 75, u 76, u 77, u 78, u 79, u 80, u 81, u 82, u 83, u 84, u 85, u 86, u 87, u 88, u 89, u 90, u 91, u 92, u 93, u 94, u 95, u 96, u 97, u 98, u 99, u 100, u 101, u 102, u 103, u 104, u 105, u 106, u 107, u 108, u 109, u 110, u 111, u 112, u 113, u 114, u 115, u 116, u 117, u 118, u 119, u 120, u 121, u 122, u 123, u 124, u 125, u 126, u 127, u 128, u 129, u 130, u 131, u 132, u 133, u 134, u 135, u 136, u 137, u 138, u 139, u 140, u 141, u 142, u 143, u 144, u 145, u 146, u 147, u 148, u 149, u 150, u 151, u 152, u 153, u 154, u 155, u 156, u 157, u 158, u 159, u 160, u 161, u 162, u 163, u 164, u 165, u 166, u 167, u 168, u 169, u 170, u 171, u 172, u 173, u 174], defers := [] }) ?_ ?_
  · refine wp_region_schedB (B := NB) (fun X => X.cell? ⟨b1, 0, none⟩ = some (.slice x1 34 c1_) ∧ Blk X b13 0 23 (softV sA ⟨xa, ca, xpA, cpA⟩) ∧ Below NB V2 X ∧ NB ≤ X.heap.size) (.two [0, 1] 2 (.one [] 3 (.one [] 4 (.one [] 5 (.done [6, 7])))) 3 (.one [] 2 (.one [] 4 (.one [] 5 (.done [6, 7]))))) (by kernel_rfl) (by kernel_rfl) (fun _ _ _ _ _ h => h) ⟨by go_simp, a_b13.later (Below.refl _ _).drew, (Below.refl _ _).drew, Nat.le_of_eq HNBL.out.symm⟩ ?_
    clear c1 a_b13
    rintro X ⟨c1, a_b13, hN, hZ⟩
    rw [wpSchedB]
    simp only [pick, List.map_cons, List.map_nil, Array.getD_eq_getD_getElem?, List.getElem?_toArray, List.getElem?_cons_succ, List.getElem?_cons_zero, Option.getD_some]
    have k1_ := plusB_cell (B := NB) c1 (by simp; omega)
    have r13 := loadN_B (B := NB) (t := 29) a_b13 l13 (fun X h => run_loadSw h)
    (refine wpQuiet_loadN rfl _ (.tmp 13) rfl (b := b13) (q := 0) rfl r13 ?_; try simp only [Act.put, List.setIfInBounds_toArray, List.set_cons_zero, List.set_cons_succ])
    (first | go_big_quiet_step (fail) | quiet_step (fail))
    refine wpQuiet_nil ?_
    clear k1_ r13 c1 a_b13
    refine ⟨?_, ?_⟩
    · refine heavyB_want (by rfl) (fun K' hK' => ?_)
      refine wp_allocAt _ rfl soft_zero ?_
      intro X1 g19 hb hz9
      refine hK' _ _ (hb.mono hZ) ?_
      clear hK' K'
      replace hN := hN.trans (hb.mono hZ)
      have zz19 := hZ
      replace hZ := Nat.le_trans hZ hb.size
      obtain ⟨b19, e19⟩ : ∃ b, X.heap.size = b := ⟨_, rfl⟩
      rw [e19] at g19 zz19 hz9 ⊢
      have l19 := World.block_lt_of_cell? _ _ (g19.at 0 (by omega)).1
      simp only at l19
      clear hb e19 hz9
      try simp only [Act.put, List.setIfInBounds_toArray, List.set_cons_zero, List.set_cons_succ]
      rw [wpSchedB]
      simp only [pick, List.map_nil, Array.getD_eq_getD_getElem?, List.getElem?_toArray, List.getElem?_cons_succ, List.getElem?_cons_zero, Option.getD_some]
      refine wpQuiet_nil ?_
      refine heavyB_want (by rfl) (fun K' hK' => ?_)
      go_simp
      refine hK' _ _ ((Below.refl _ _).alloc hZ _) ?_
      clear hK' K'
      have hb := al (Below.refl _ X1) (.cells #[.slice none 0 0] 33)
      have c20 : (X1.alloc (.cells #[.slice none 0 0] 33)).cell? ⟨X1.heap.size, 0, none⟩ = some (.slice none 0 0) := cell_new X1 _ _ _ 0
      have f20 := frozen_new X1 #[.slice none 0 0] 33 0
      have l20 : X1.heap.size < (X1.alloc (.cells #[.slice none 0 0] 33)).heap.size := by simp
      obtain ⟨X2, hY⟩ : ∃ Y, X1.alloc (.cells #[.slice none 0 0] 33) = Y := ⟨_, rfl⟩
      rw [hY] at hb c20 f20 l20 ⊢
      clear hY
      replace g19 := g19.later hb
      have ne : b19 ≠ X1.heap.size := by omega
      replace l19 := Nat.lt_of_lt_of_le l19 hb.size
      replace hN := hN.trans (hb.mono hZ)
      have zz20 := hZ
      replace hZ := Nat.le_trans hZ hb.size
      obtain ⟨b20, e20⟩ : ∃ b, X1.heap.size = b := ⟨_, rfl⟩
      rw [e20] at c20 f20 l20 zz20 ne ⊢
      clear hb e20
      try simp only [Act.put, List.setIfInBounds_toArray, List.set_cons_zero, List.set_cons_succ]
      rw [wpSchedB]
      simp only [pick, List.map_nil, Array.getD_eq_getD_getElem?, List.getElem?_toArray, List.getElem?_cons_succ, List.getElem?_cons_zero, Option.getD_some]
      refine wpQuiet_nil ?_
      refine heavyB_want (by rfl) (fun K' hK' => ?_)
      refine wp_storeAt rfl _ (.tmp 19) (.tmp 87) rfl (b := b19) (q := 0) rfl (v := softV sA ⟨xa, ca, xpA, cpA⟩) rfl g19 (fun j _ => soft_one _ _ _) soft_size ?_
      intro X3 u19
      refine hK' _ _ (u19.below _ _ zz19 (Below.refl _ _)) ?_
      clear hK' K'
      have tn := u19.turns (fun b => b = b19) _ (fun _ => rfl) (Turns.refl _ _)
      replace c20 := tn.cell (p := ⟨b20, 0, none⟩) (show ¬ b20 = b19 by omega) c20
      replace f20 := (u19.frozen ⟨b20, 0, none⟩).trans f20
      replace hN := u19.below _ _ zz19 hN
      replace g19 := u19.blk
      clear u19 tn
      try simp only [Act.put, List.setIfInBounds_toArray, List.set_cons_zero, List.set_cons_succ]
      rw [wpSchedB]
      simp only [pick, List.map_nil, Array.getD_eq_getD_getElem?, List.getElem?_toArray, List.getElem?_cons_succ, List.getElem?_cons_zero, Option.getD_some]
      refine wpQuiet_nil ?_
      refine heavyB_want (by rfl) (fun K' hK' => ?_)
      go_simp
      refine hK' _ _ ((Below.refl _ _).setCell (p := ⟨b20, 0, none⟩) zz20 _) ?_
      clear hK' K'
      have tn : Turns (fun b => b = b20) X3 (X3.setCell ⟨b20, 0, none⟩ (.slice x1 34 c1_)) := (Turns.refl (fun b => b = b20) X3).setCell (p := ⟨b20, 0, none⟩) (fun _ => rfl) _
      replace c20 : (X3.setCell ⟨b20, 0, none⟩ (.slice x1 34 c1_)).cell? ⟨b20, 0, none⟩ = some (.slice x1 34 c1_) := World.cell?_setCell_same' _ _ _ (by rw [c20]; rfl)
      replace f20 : (X3.setCell ⟨b20, 0, none⟩ (.slice x1 34 c1_)).frozen? ⟨b20, 0, none⟩ = false := (World.frozen?_setCell _ _ _ _).trans f20
      replace g19 := g19.turn tn (show ¬ b19 = b20 by omega)
      replace hN := hN.setCell (p := ⟨b20, 0, none⟩) zz20 (.slice x1 34 c1_)
      clear tn
      try simp only [Act.put, List.setIfInBounds_toArray, List.set_cons_zero, List.set_cons_succ]
      rw [wpSchedB]
      simp only [pick, List.map_cons, List.map_nil, Array.getD_eq_getD_getElem?, List.getElem?_toArray, List.getElem?_cons_succ, List.getElem?_cons_zero, Option.getD_some]
      repeat (first | go_big_quiet_step (fail) | quiet_step (fail))
      refine wpQuiet_nil ?_
      exact NormQ.mk ⟨b19, b20, ⟨ne, zz19, zz20⟩, g19, c20, f20, hN, ex_frame (by kernel_rfl)⟩
    · refine heavyB_want (by rfl) (fun K' hK' => ?_)
      go_simp
      refine hK' _ _ ((Below.refl _ _).alloc hZ _) ?_
      clear hK' K'
      have hb := al (Below.refl _ X) (.cells #[.slice none 0 0] 33)
      have c20 : (X.alloc (.cells #[.slice none 0 0] 33)).cell? ⟨X.heap.size, 0, none⟩ = some (.slice none 0 0) := cell_new X _ _ _ 0
      have f20 := frozen_new X #[.slice none 0 0] 33 0
      have l20 : X.heap.size < (X.alloc (.cells #[.slice none 0 0] 33)).heap.size := by simp
      obtain ⟨X1, hY⟩ : ∃ Y, X.alloc (.cells #[.slice none 0 0] 33) = Y := ⟨_, rfl⟩
      rw [hY] at hb c20 f20 l20 ⊢
      clear hY
      replace hN := hN.trans (hb.mono hZ)
      have zz20 := hZ
      replace hZ := Nat.le_trans hZ hb.size
      obtain ⟨b20, e20⟩ : ∃ b, X.heap.size = b := ⟨_, rfl⟩
      rw [e20] at c20 f20 l20 zz20 ⊢
      clear hb e20
      try simp only [Act.put, List.setIfInBounds_toArray, List.set_cons_zero, List.set_cons_succ]
      rw [wpSchedB]
      simp only [pick, List.map_nil, Array.getD_eq_getD_getElem?, List.getElem?_toArray, List.getElem?_cons_succ, List.getElem?_cons_zero, Option.getD_some]
      refine wpQuiet_nil ?_
      refine heavyB_want (by rfl) (fun K' hK' => ?_)
      refine wp_allocAt _ rfl soft_zero ?_
      intro X2 g19 hb hz9
      refine hK' _ _ (hb.mono hZ) ?_
      clear hK' K'
      replace c20 := later hb c20
      replace f20 := (hb.frozen (p := ⟨b20, 0, none⟩) l20).trans f20
      have ne : X1.heap.size ≠ b20 := by omega
      replace hN := hN.trans (hb.mono hZ)
      have zz19 := hZ
      replace hZ := Nat.le_trans hZ hb.size
      obtain ⟨b19, e19⟩ : ∃ b, X1.heap.size = b := ⟨_, rfl⟩
      rw [e19] at g19 zz19 hz9 ne ⊢
      have l19 := World.block_lt_of_cell? _ _ (g19.at 0 (by omega)).1
      simp only at l19
      clear hb e19 hz9
      try simp only [Act.put, List.setIfInBounds_toArray, List.set_cons_zero, List.set_cons_succ]
      rw [wpSchedB]
      simp only [pick, List.map_nil, Array.getD_eq_getD_getElem?, List.getElem?_toArray, List.getElem?_cons_succ, List.getElem?_cons_zero, Option.getD_some]
      refine wpQuiet_nil ?_
      refine heavyB_want (by rfl) (fun K' hK' => ?_)
      refine wp_storeAt rfl _ (.tmp 19) (.tmp 87) rfl (b := b19) (q := 0) rfl (v := softV sA ⟨xa, ca, xpA, cpA⟩) rfl g19 (fun j _ => soft_one _ _ _) soft_size ?_
      intro X3 u19
      refine hK' _ _ (u19.below _ _ zz19 (Below.refl _ _)) ?_
      clear hK' K'
      have tn := u19.turns (fun b => b = b19) _ (fun _ => rfl) (Turns.refl _ _)
      replace c20 := tn.cell (p := ⟨b20, 0, none⟩) (show ¬ b20 = b19 by omega) c20
      replace f20 := (u19.frozen ⟨b20, 0, none⟩).trans f20
      replace hN := u19.below _ _ zz19 hN
      replace g19 := u19.blk
      clear u19 tn
      try simp only [Act.put, List.setIfInBounds_toArray, List.set_cons_zero, List.set_cons_succ]
      rw [wpSchedB]
      simp only [pick, List.map_nil, Array.getD_eq_getD_getElem?, List.getElem?_toArray, List.getElem?_cons_succ, List.getElem?_cons_zero, Option.getD_some]
      refine wpQuiet_nil ?_
      refine heavyB_want (by rfl) (fun K' hK' => ?_)
      go_simp
      refine hK' _ _ ((Below.refl _ _).setCell (p := ⟨b20, 0, none⟩) zz20 _) ?_
      clear hK' K'
      have tn : Turns (fun b => b = b20) X3 (X3.setCell ⟨b20, 0, none⟩ (.slice x1 34 c1_)) := (Turns.refl (fun b => b = b20) X3).setCell (p := ⟨b20, 0, none⟩) (fun _ => rfl) _
      replace c20 : (X3.setCell ⟨b20, 0, none⟩ (.slice x1 34 c1_)).cell? ⟨b20, 0, none⟩ = some (.slice x1 34 c1_) := World.cell?_setCell_same' _ _ _ (by rw [c20]; rfl)
      replace f20 : (X3.setCell ⟨b20, 0, none⟩ (.slice x1 34 c1_)).frozen? ⟨b20, 0, none⟩ = false := (World.frozen?_setCell _ _ _ _).trans f20
      replace g19 := g19.turn tn (show ¬ b19 = b20 by omega)
      replace hN := hN.setCell (p := ⟨b20, 0, none⟩) zz20 (.slice x1 34 c1_)
      clear tn
      try simp only [Act.put, List.setIfInBounds_toArray, List.set_cons_zero, List.set_cons_succ]
      rw [wpSchedB]
      simp only [pick, List.map_cons, List.map_nil, Array.getD_eq_getD_getElem?, List.getElem?_toArray, List.getElem?_cons_succ, List.getElem?_cons_zero, Option.getD_some]
      repeat (first | go_big_quiet_step (fail) | quiet_step (fail))
      refine wpQuiet_nil ?_
      exact NormQ.mk ⟨b19, b20, ⟨ne, zz19, zz20⟩, g19, c20, f20, hN, ex_frame (by kernel_rfl)⟩
  rintro a' V3 ⟨b19, b20, ⟨ne, z19, z20⟩, g19, c20, f20, hN, u, rfl⟩
  have hb3 : Below V2.heap.size V2 V3 := by rw [HNBL.out]; exact hN
  have c1v := later hb3 c1
  have c17v := later hb3 c17
  have a13v := a_b13.later hb3
  have HB3 := Lib.hid hb3
  have HN3 := Lib.hid hN
  clear hb3 hN
  try dsimp only
  have q1 : b1 ≠ b19 ∧ b1 ≠ b20 ∧ b13 ≠ b19 ∧ b13 ≠ b20 := by omega
  have q17 : b17 < NB := L17.out
  have q2 : b17 ≠ b19 ∧ b17 ≠ b20 := by omega
  have hwb := way.toNat_lt
  obtain ⟨wv, hwv⟩ : ∃ n, way.toNat = n := ⟨_, rfl⟩
  rw [hwv] at hwb ⊢
  clear hwv
  have hcase : wv % 6 = 0 ∨ wv % 6 = 1 ∨ wv % 6 = 2 ∨ wv % 6 = 3 ∨ wv % 6 = 4 ∨ wv % 6 = 5 := by omega
  rcases hcase with h6 | h6 | h6 | h6 | h6 | h6
  · have hlen := hs.len HST0.out.st
    obtain ⟨g1, o1, rfl⟩ : ∃ g o, x1 = some ⟨g, o, none⟩ := by
      rcases hs.rws.1 with h | ⟨b, o, h, _⟩
      · rw [h] at hlen; simp at hlen
      · exact ⟨b, o, h⟩
    have H33 : (rs1.take 33).length = 33 := by rw [List.length_take, hlen]; rfl
    have HI0 := fun W (hW : Rws W (some ⟨g1, o1, none⟩) rs1) (hI : SwIn W sA ⟨xa, ca, xpA, cpA⟩) => ins_e (some ⟨g1, o1, none⟩) (rs1.take 33) rt 0 sA c1_ ⟨xa, ca, xpA, cpA⟩ W (hW.take 33) (by omega) hI 2 (Ld.cdI_arg (by rw [Ld.not_usable (by rw [List.length_map, H33]; decide), Bool.false_and])) (by decide)
    rw [H33] at HI0
    have hc1 := HCAP.out
    have p1 : (33 : Int) ≤ (c1_ : Int) := by omega
    have p2 : 33 ≤ c1_ := by omega
    have p3 : (34 : Int) ≤ (c1_ : Int) := by omega
    clear hlen H33
    have htm : Int.tmod (wv : Int) 6 = 0 := by rw [Int.tmod_eq_emod_of_nonneg (by omega)]; omega
    clear hwb h6
    have k19 := (g19.at 0 (by omega)).1
    have j19 := (g19.at 0 (by omega)).2
    have hb : Below V2.heap.size V2 (V3.setCell ⟨b20, 0, none⟩ (.slice (some ⟨g1, o1, none⟩) 33 c1_)) := by rw [HNBL.out]; exact HN3.out.setCell (p := ⟨b20, 0, none⟩) z20 (.slice (some ⟨g1, o1, none⟩) 33 c1_)
    have tn : Turns (fun b => b = b20) V3 (V3.setCell ⟨b20, 0, none⟩ (.slice (some ⟨g1, o1, none⟩) 33 c1_)) := (Turns.refl (fun b => b = b20) V3).setCell (p := ⟨b20, 0, none⟩) (fun _ => rfl) _
    have g19x : Blk (V3.setCell ⟨b20, 0, none⟩ (.slice (some ⟨g1, o1, none⟩) 33 c1_)) b19 0 23 (softV sA ⟨xa, ca, xpA, cpA⟩) := g19.turn tn (show ¬ b19 = b20 by omega)
    have c20x : (V3.setCell ⟨b20, 0, none⟩ (.slice (some ⟨g1, o1, none⟩) 33 c1_)).cell? ⟨b20, 0, none⟩ = some (.slice (some ⟨g1, o1, none⟩) 33 c1_) := World.cell?_setCell_same' _ _ _ (by rw [c20]; rfl)
    clear tn
    replace hs := hs.later hb
    replace c1 := later hb c1
    replace iA := iA.later hb
    replace a_b13 := a_b13.later hb
    replace hs2 := hs2.later hb
    replace c17 := later hb c17
    replace hB := hB.trans (hb.mono hB.size)
    clear hb
    go_wp2_with (refine wpList_loadN rfl _ (.tmp 19) rfl (b := b19) (q := 0) rfl (run_loadSw g19x) ?_)
    have IT := iA
    refine (HI0 _ hs.rws IT).mono ?_
    rintro e w31 ⟨yE, kE, rfl, hb⟩
    replace hs := hs.later hb
    replace c1 := later hb c1
    replace iA := iA.later hb
    replace a_b13 := a_b13.later hb
    replace hs2 := hs2.later hb
    replace c17 := later hb c17
    replace hB := hB.trans (hb.mono hB.size)
    clear hb
    clear g19x c20x IT
    clear c1 a_b13 hs iA
    go_wp2_with fail
    refine (rn_e rt 0 _).mono ?_
    rintro e w32 ⟨sX, aX, rfl, _, _, hb⟩
    replace hs2 := hs2.later hb
    replace c17 := later hb c17
    replace hB := hB.trans (hb.mono hB.size)
    clear hb
    go_wp2_with (refine wpList_allocTo 27 rfl rfl _ rfl soft_zero ?_; intro Xx0 a_b27 hb0 hz0; refine Hid.out ?_)
    unfold Hid
    try simp only [Act.put, List.setIfInBounds_toArray, List.set_cons_zero, List.set_cons_succ]
    obtain ⟨b27, e_b27⟩ : ∃ a, w32.heap.size = a := ⟨_, rfl⟩
    have s_b27 : w32.heap.size ≤ b27 := by omega
    have hb := hb0
    rw [e_b27] at a_b27 hz0 ⊢
    clear hb0
    have hz : b27 < Xx0.heap.size := by omega
    clear e_b27 hz0
    go_wp2_with (refine wpList_storeB rfl rfl _ (.tmp 27) _ rfl (b := b27) (q := 0) rfl (n := 23) (v := softV sX aX) rfl a_b27 (fun j _ => soft_one _ _ _) soft_size ?_; intro Yx0 t1; refine Hid.out ?_)
    unfold Hid
    replace hb := t1.below _ _ (by omega) hb
    replace a_b27 := t1.blk
    rw [← t1.size] at hz
    clear t1
    replace hs2 := hs2.later hb
    replace c17 := later hb c17
    replace hB := hB.trans (hb.mono hB.size)
    clear hb hz
    clear s_b27
    clear a_b27
    go_wp2_with fail
    refine (rn_n _ _ hs2 HRUN.out.st HN1.out).mono ?_
    rintro e w33 ⟨sY, aY, rfl, _, _, hb⟩
    replace hs2 := hs2.later hb
    replace c17 := later hb c17
    replace hB := hB.trans (hb.mono hB.size)
    clear hb
    go_wp2_with (refine wpList_allocTo 30 rfl rfl _ rfl soft_zero ?_; intro Xy0 a_b30 hb0 hz0; refine Hid.out ?_)
    unfold Hid
    try simp only [Act.put, List.setIfInBounds_toArray, List.set_cons_zero, List.set_cons_succ]
    obtain ⟨b30, e_b30⟩ : ∃ a, w33.heap.size = a := ⟨_, rfl⟩
    have s_b30 : w33.heap.size ≤ b30 := by omega
    have hb := hb0
    rw [e_b30] at a_b30 hz0 ⊢
    clear hb0
    have hz : b30 < Xy0.heap.size := by omega
    clear e_b30 hz0
    go_wp2_with (refine wpList_storeB rfl rfl _ (.tmp 30) _ rfl (b := b30) (q := 0) rfl (n := 23) (v := softV sY aY) rfl a_b30 (fun j _ => soft_one _ _ _) soft_size ?_; intro Yy0 t1; refine Hid.out ?_)
    unfold Hid
    replace hb := t1.below _ _ (by omega) hb
    replace a_b30 := t1.blk
    rw [← t1.size] at hz
    clear t1
    replace hs2 := hs2.later hb
    replace c17 := later hb c17
    replace hB := hB.trans (hb.mono hB.size)
    clear hb hz
    clear s_b30
    clear a_b30
    go_wp2_with fail
    refine (awake_any _).mono ?_
    rintro e wX ⟨rfl, hb⟩
    have hBX := hB.trans (hb.mono hB.size)
    clear hb
    go_wp2_with fail
    go_ret
    exact ⟨rfl, hBX⟩
  · have htm : Int.tmod (wv : Int) 6 = 1 := by rw [Int.tmod_eq_emod_of_nonneg (by omega)]; omega
    clear hwb h6
    have k19 := (g19.at 0 (by omega)).1
    have j19 := (g19.at 0 (by omega)).2
    have hb : Below V2.heap.size V2 (V3.setCell ⟨b19, 0, none⟩ (.string ⟨#[]⟩)) := by rw [HNBL.out]; exact HN3.out.setCell (p := ⟨b19, 0, none⟩) z19 (.string ⟨#[]⟩)
    have tn : Turns (fun b => b = b19) V3 (V3.setCell ⟨b19, 0, none⟩ (.string ⟨#[]⟩)) := (Turns.refl (fun b => b = b19) V3).setCell (p := ⟨b19, 0, none⟩) (fun _ => rfl) _
    have g19x : Blk (V3.setCell ⟨b19, 0, none⟩ (.string ⟨#[]⟩)) b19 0 23 (softV { sA with name := [] } ⟨xa, ca, xpA, cpA⟩) := g19.setName []
    have c20x : (V3.setCell ⟨b19, 0, none⟩ (.string ⟨#[]⟩)).cell? ⟨b20, 0, none⟩ = some (.slice x1 34 c1_) := tn.cell (show ¬ b20 = b19 by omega) c20
    clear tn
    replace hs := hs.later hb
    replace c1 := later hb c1
    replace iA := iA.later hb
    replace a_b13 := a_b13.later hb
    replace hs2 := hs2.later hb
    replace c17 := later hb c17
    replace hB := hB.trans (hb.mono hB.size)
    clear hb
    go_wp2_with (refine wpList_loadN rfl _ (.tmp 19) rfl (b := b19) (q := 0) rfl (run_loadSw g19x) ?_)
    have IT : SwIn (V3.setCell ⟨b19, 0, none⟩ (.string ⟨#[]⟩)) { sA with name := [] } ⟨xa, ca, xpA, cpA⟩ := ⟨iA.1, iA.2.1, iA.2.2⟩
    refine (ins_e34 _ _ _ hs HST0.out.st IT (Ld.cdI_arg (by rw [show ({ sA with name := [] } : Ld.Sw).vld = false from rfl, Bool.and_false])) (by decide)).mono ?_
    rintro e w31 ⟨yE, kE, rfl, hb⟩
    replace hs := hs.later hb
    replace c1 := later hb c1
    replace iA := iA.later hb
    replace a_b13 := a_b13.later hb
    replace hs2 := hs2.later hb
    replace c17 := later hb c17
    replace hB := hB.trans (hb.mono hB.size)
    clear hb
    clear g19x c20x IT
    clear c1 a_b13 hs iA
    go_wp2_with fail
    refine (rn_e rt 0 _).mono ?_
    rintro e w32 ⟨sX, aX, rfl, _, _, hb⟩
    replace hs2 := hs2.later hb
    replace c17 := later hb c17
    replace hB := hB.trans (hb.mono hB.size)
    clear hb
    go_wp2_with (refine wpList_allocTo 27 rfl rfl _ rfl soft_zero ?_; intro Xx0 a_b27 hb0 hz0; refine Hid.out ?_)
    unfold Hid
    try simp only [Act.put, List.setIfInBounds_toArray, List.set_cons_zero, List.set_cons_succ]
    obtain ⟨b27, e_b27⟩ : ∃ a, w32.heap.size = a := ⟨_, rfl⟩
    have s_b27 : w32.heap.size ≤ b27 := by omega
    have hb := hb0
    rw [e_b27] at a_b27 hz0 ⊢
    clear hb0
    have hz : b27 < Xx0.heap.size := by omega
    clear e_b27 hz0
    go_wp2_with (refine wpList_storeB rfl rfl _ (.tmp 27) _ rfl (b := b27) (q := 0) rfl (n := 23) (v := softV sX aX) rfl a_b27 (fun j _ => soft_one _ _ _) soft_size ?_; intro Yx0 t1; refine Hid.out ?_)
    unfold Hid
    replace hb := t1.below _ _ (by omega) hb
    replace a_b27 := t1.blk
    rw [← t1.size] at hz
    clear t1
    replace hs2 := hs2.later hb
    replace c17 := later hb c17
    replace hB := hB.trans (hb.mono hB.size)
    clear hb hz
    clear s_b27
    clear a_b27
    go_wp2_with fail
    refine (rn_n _ _ hs2 HRUN.out.st HN1.out).mono ?_
    rintro e w33 ⟨sY, aY, rfl, _, _, hb⟩
    replace hs2 := hs2.later hb
    replace c17 := later hb c17
    replace hB := hB.trans (hb.mono hB.size)
    clear hb
    go_wp2_with (refine wpList_allocTo 30 rfl rfl _ rfl soft_zero ?_; intro Xy0 a_b30 hb0 hz0; refine Hid.out ?_)
    unfold Hid
    try simp only [Act.put, List.setIfInBounds_toArray, List.set_cons_zero, List.set_cons_succ]
    obtain ⟨b30, e_b30⟩ : ∃ a, w33.heap.size = a := ⟨_, rfl⟩
    have s_b30 : w33.heap.size ≤ b30 := by omega
    have hb := hb0
    rw [e_b30] at a_b30 hz0 ⊢
    clear hb0
    have hz : b30 < Xy0.heap.size := by omega
    clear e_b30 hz0
    go_wp2_with (refine wpList_storeB rfl rfl _ (.tmp 30) _ rfl (b := b30) (q := 0) rfl (n := 23) (v := softV sY aY) rfl a_b30 (fun j _ => soft_one _ _ _) soft_size ?_; intro Yy0 t1; refine Hid.out ?_)
    unfold Hid
    replace hb := t1.below _ _ (by omega) hb
    replace a_b30 := t1.blk
    rw [← t1.size] at hz
    clear t1
    replace hs2 := hs2.later hb
    replace c17 := later hb c17
    replace hB := hB.trans (hb.mono hB.size)
    clear hb hz
    clear s_b30
    clear a_b30
    go_wp2_with fail
    refine (awake_any _).mono ?_
    rintro e wX ⟨rfl, hb⟩
    have hBX := hB.trans (hb.mono hB.size)
    clear hb
    go_wp2_with fail
    go_ret
    exact ⟨rfl, hBX⟩
  · have htm : Int.tmod (wv : Int) 6 = 2 := by rw [Int.tmod_eq_emod_of_nonneg (by omega)]; omega
    clear hwb h6
    have k19 := (g19.at 1 (by omega)).1
    have j19 := (g19.at 1 (by omega)).2
    have hb : Below V2.heap.size V2 (V3.setCell ⟨b19, 1, none⟩ (.int .i64 1048577)) := by rw [HNBL.out]; exact HN3.out.setCell (p := ⟨b19, 1, none⟩) z19 (.int .i64 1048577)
    have tn : Turns (fun b => b = b19) V3 (V3.setCell ⟨b19, 1, none⟩ (.int .i64 1048577)) := (Turns.refl (fun b => b = b19) V3).setCell (p := ⟨b19, 1, none⟩) (fun _ => rfl) _
    have g19x : Blk (V3.setCell ⟨b19, 1, none⟩ (.int .i64 1048577)) b19 0 23 (softV { sA with ver := 1048577 } ⟨xa, ca, xpA, cpA⟩) := g19.setVer 1048577
    have c20x : (V3.setCell ⟨b19, 1, none⟩ (.int .i64 1048577)).cell? ⟨b20, 0, none⟩ = some (.slice x1 34 c1_) := tn.cell (show ¬ b20 = b19 by omega) c20
    clear tn
    replace hs := hs.later hb
    replace c1 := later hb c1
    replace iA := iA.later hb
    replace a_b13 := a_b13.later hb
    replace hs2 := hs2.later hb
    replace c17 := later hb c17
    replace hB := hB.trans (hb.mono hB.size)
    clear hb
    go_wp2_with (refine wpList_loadN rfl _ (.tmp 19) rfl (b := b19) (q := 0) rfl (run_loadSw g19x) ?_)
    have IT : SwIn (V3.setCell ⟨b19, 1, none⟩ (.int .i64 1048577)) { sA with ver := 1048577 } ⟨xa, ca, xpA, cpA⟩ := ⟨iA.1, iA.2.1, iA.2.2⟩
    refine (ins_e34 _ _ _ hs HST0.out.st IT (Ld.cdI_arg (by rw [show ({ sA with ver := 1048577 } : Ld.Sw).vld = false from Bool.eq_false_iff.2 (fun h => by have := ((Ld.Sw.vld_iff _).1 h).2.1.2; simp at this), Bool.and_false])) (by decide)).mono ?_
    rintro e w31 ⟨yE, kE, rfl, hb⟩
    replace hs := hs.later hb
    replace c1 := later hb c1
    replace iA := iA.later hb
    replace a_b13 := a_b13.later hb
    replace hs2 := hs2.later hb
    replace c17 := later hb c17
    replace hB := hB.trans (hb.mono hB.size)
    clear hb
    clear g19x c20x IT
    clear c1 a_b13 hs iA
    go_wp2_with fail
    refine (rn_e rt 0 _).mono ?_
    rintro e w32 ⟨sX, aX, rfl, _, _, hb⟩
    replace hs2 := hs2.later hb
    replace c17 := later hb c17
    replace hB := hB.trans (hb.mono hB.size)
    clear hb
    go_wp2_with (refine wpList_allocTo 27 rfl rfl _ rfl soft_zero ?_; intro Xx0 a_b27 hb0 hz0; refine Hid.out ?_)
    unfold Hid
    try simp only [Act.put, List.setIfInBounds_toArray, List.set_cons_zero, List.set_cons_succ]
    obtain ⟨b27, e_b27⟩ : ∃ a, w32.heap.size = a := ⟨_, rfl⟩
    have s_b27 : w32.heap.size ≤ b27 := by omega
    have hb := hb0
    rw [e_b27] at a_b27 hz0 ⊢
    clear hb0
    have hz : b27 < Xx0.heap.size := by omega
    clear e_b27 hz0
    go_wp2_with (refine wpList_storeB rfl rfl _ (.tmp 27) _ rfl (b := b27) (q := 0) rfl (n := 23) (v := softV sX aX) rfl a_b27 (fun j _ => soft_one _ _ _) soft_size ?_; intro Yx0 t1; refine Hid.out ?_)
    unfold Hid
    replace hb := t1.below _ _ (by omega) hb
    replace a_b27 := t1.blk
    rw [← t1.size] at hz
    clear t1
    replace hs2 := hs2.later hb
    replace c17 := later hb c17
    replace hB := hB.trans (hb.mono hB.size)
    clear hb hz
    clear s_b27
    clear a_b27
    go_wp2_with fail
    refine (rn_n _ _ hs2 HRUN.out.st HN1.out).mono ?_
    rintro e w33 ⟨sY, aY, rfl, _, _, hb⟩
    replace hs2 := hs2.later hb
    replace c17 := later hb c17
    replace hB := hB.trans (hb.mono hB.size)
    clear hb
    go_wp2_with (refine wpList_allocTo 30 rfl rfl _ rfl soft_zero ?_; intro Xy0 a_b30 hb0 hz0; refine Hid.out ?_)
    unfold Hid
    try simp only [Act.put, List.setIfInBounds_toArray, List.set_cons_zero, List.set_cons_succ]
    obtain ⟨b30, e_b30⟩ : ∃ a, w33.heap.size = a := ⟨_, rfl⟩
    have s_b30 : w33.heap.size ≤ b30 := by omega
    have hb := hb0
    rw [e_b30] at a_b30 hz0 ⊢
    clear hb0
    have hz : b30 < Xy0.heap.size := by omega
    clear e_b30 hz0
    go_wp2_with (refine wpList_storeB rfl rfl _ (.tmp 30) _ rfl (b := b30) (q := 0) rfl (n := 23) (v := softV sY aY) rfl a_b30 (fun j _ => soft_one _ _ _) soft_size ?_; intro Yy0 t1; refine Hid.out ?_)
    unfold Hid
    replace hb := t1.below _ _ (by omega) hb
    replace a_b30 := t1.blk
    rw [← t1.size] at hz
    clear t1
    replace hs2 := hs2.later hb
    replace c17 := later hb c17
    replace hB := hB.trans (hb.mono hB.size)
    clear hb hz
    clear s_b30
    clear a_b30
    go_wp2_with fail
    refine (awake_any _).mono ?_
    rintro e wX ⟨rfl, hb⟩
    have hBX := hB.trans (hb.mono hB.size)
    clear hb
    go_wp2_with fail
    go_ret
    exact ⟨rfl, hBX⟩
  · have htm : Int.tmod (wv : Int) 6 = 3 := by rw [Int.tmod_eq_emod_of_nonneg (by omega)]; omega
    clear hwb h6
    have k19 := (g19.at 1 (by omega)).1
    have j19 := (g19.at 1 (by omega)).2
    have hb : Below V2.heap.size V2 (V3.setCell ⟨b19, 1, none⟩ (.int .i64 (ver + 1))) := by rw [HNBL.out]; exact HN3.out.setCell (p := ⟨b19, 1, none⟩) z19 (.int .i64 (ver + 1))
    have tn : Turns (fun b => b = b19) V3 (V3.setCell ⟨b19, 1, none⟩ (.int .i64 (ver + 1))) := (Turns.refl (fun b => b = b19) V3).setCell (p := ⟨b19, 1, none⟩) (fun _ => rfl) _
    have g19x : Blk (V3.setCell ⟨b19, 1, none⟩ (.int .i64 (ver + 1))) b19 0 23 (softV { sA with ver := ver + 1 } ⟨xa, ca, xpA, cpA⟩) := g19.setVer (ver + 1)
    have c20x : (V3.setCell ⟨b19, 1, none⟩ (.int .i64 (ver + 1))).cell? ⟨b20, 0, none⟩ = some (.slice x1 34 c1_) := tn.cell (show ¬ b20 = b19 by omega) c20
    clear tn
    replace hs := hs.later hb
    replace c1 := later hb c1
    replace iA := iA.later hb
    replace a_b13 := a_b13.later hb
    replace hs2 := hs2.later hb
    replace c17 := later hb c17
    replace hB := hB.trans (hb.mono hB.size)
    clear hb
    have IT : SwIn (V3.setCell ⟨b19, 1, none⟩ (.int .i64 (ver + 1))) { sA with ver := ver + 1 } ⟨xa, ca, xpA, cpA⟩ := ⟨iA.1, iA.2.1, iA.2.2⟩
    have cv := a13v.ver
    rw [HVE.out] at cv
    obtain ⟨hw1, hw2⟩ := HW.out
    have hTV : ({ sA with ver := ver + 1 } : Ld.Sw).vld = true := by
      have h0 := (Ld.Sw.vld_iff _).1 HVA.out.1
      exact (Ld.Sw.vld_iff _).2 ⟨h0.1, ⟨by show 0 ≤ ver + 1; omega, by show ver + 1 ≤ 1048576; omega⟩, h0.2.2⟩
    have hTG : vldG ((({ sA with ver := ver + 1 } : Ld.Sw).path.length : Nat) : Int) ({ sA with ver := ver + 1 } : Ld.Sw).key = true := by
      have h0 := (Ld.Sw.vld_iff _).1 hTV
      exact (Ld.vldG_iff _ _).2 h0.2.2.2
    have hd1 : dgC { sA with ver := ver + 1 } = 0 := if_pos hTV
    have hd2 : dgV { sA with ver := ver + 1 } = Dig.ofL (Ld.cont { sA with ver := ver + 1 }) := if_pos hTV
    have HGE : Hid (Ld.genu { sA with ver := ver + 1 } rt 0 = (vldG ((({ sA with ver := ver + 1 } : Ld.Sw).path.length : Nat) : Int) ({ sA with ver := ver + 1 } : Ld.Sw).key && (decide (((({ sA with ver := ver + 1 } : Ld.Sw).path.length : Nat) : Int) = 0) && (Sgn.vfy (dgV { sA with ver := ver + 1 }) ({ sA with ver := ver + 1 } : Ld.Sw).key.toNat ({ sA with ver := ver + 1 } : Ld.Sw).ch ({ sA with ver := ver + 1 } : Ld.Sw).path == rt)))) := by
      show _ = _
      rw [hTG, hd2]
      unfold Ld.genu
      rw [hTV]
    have HDI := fun W (hW : SwIn W { sA with ver := ver + 1 } ⟨xa, ca, xpA, cpA⟩) => digest_any { sA with ver := ver + 1 } ⟨xa, ca, xpA, cpA⟩ W hW
    have HVF := fun W d (hW : SwIn W { sA with ver := ver + 1 } ⟨xa, ca, xpA, cpA⟩) => verif_any { sA with ver := ver + 1 } ⟨xa, ca, xpA, cpA⟩ rt d 0 W hW
    rw [hd1] at HDI
    obtain ⟨dT, hdT⟩ : ∃ d, dgV { sA with ver := ver + 1 } = d := ⟨_, rfl⟩
    rw [hdT] at HDI HGE
    replace HVF := fun W (hW : SwIn W { sA with ver := ver + 1 } ⟨xa, ca, xpA, cpA⟩) => HVF W dT hW
    have HTV := Lib.hid hTV
    clear hd1 hd2 hdT hTG hTV
    go_wp2_with (refine wpList_loadN rfl _ (.tmp 19) rfl (b := b19) (q := 0) rfl (run_loadSw g19x) ?_)
    clear cv hw1 hw2 k19 j19
    refine (HDI _ IT).mono ?_
    rintro e w28 ⟨rfl, hb⟩
    replace hs := hs.later hb
    replace c1 := later hb c1
    replace iA := iA.later hb
    replace a_b13 := a_b13.later hb
    replace hs2 := hs2.later hb
    replace c17 := later hb c17
    replace g19x := g19x.later hb
    replace c20x := later hb c20x
    replace IT := IT.later hb
    replace hB := hB.trans (hb.mono hB.size)
    clear hb
    clear HDI
    go_wp2_with (refine wpList_loadN rfl _ (.tmp 122) rfl (b := b19) (q := 3) rfl (run_loadSg g19x.sig) ?_)
    refine (HVF _ IT).mono ?_
    rintro e w29 ⟨rfl, hb⟩
    replace hs := hs.later hb
    replace c1 := later hb c1
    replace iA := iA.later hb
    replace a_b13 := a_b13.later hb
    replace hs2 := hs2.later hb
    replace c17 := later hb c17
    replace g19x := g19x.later hb
    replace c20x := later hb c20x
    replace IT := IT.later hb
    replace hB := hB.trans (hb.mono hB.size)
    clear hb
    clear HVF
    rw [← HGE.out]
    obtain ⟨v, hv⟩ : ∃ v, Ld.genu { sA with ver := ver + 1 } rt 0 = v := ⟨_, rfl⟩
    have HGV := Lib.hid hv
    rw [hv]
    clear hv HGE
    cases v with
    | true =>
      clear g19x c20x IT hs c1 iA a_b13 hs2 c17
      go_wp2_with fail
      refine (awake_any _).mono ?_
      rintro e wX ⟨rfl, hb⟩
      have hBX := hB.trans (hb.mono hB.size)
      clear hb
      go_wp2_with fail
      go_ret
      exact ⟨rfl, hBX⟩
    | false =>
      go_wp2_with (refine wpList_loadN rfl _ (.tmp 19) rfl (b := b19) (q := 0) rfl (run_loadSw g19x) ?_)
      refine (ins_e34 _ _ _ hs HST0.out.st IT (Ld.cdI_gen HST0.out.st HTV.out HGV.out) (by decide)).mono ?_
      rintro e w31 ⟨yE, kE, rfl, hb⟩
      replace hs := hs.later hb
      replace c1 := later hb c1
      replace iA := iA.later hb
      replace a_b13 := a_b13.later hb
      replace hs2 := hs2.later hb
      replace c17 := later hb c17
      replace hB := hB.trans (hb.mono hB.size)
      clear hb
      clear g19x c20x IT
      clear c1 a_b13 hs iA
      go_wp2_with fail
      refine (rn_e rt 0 _).mono ?_
      rintro e w32 ⟨sX, aX, rfl, _, _, hb⟩
      replace hs2 := hs2.later hb
      replace c17 := later hb c17
      replace hB := hB.trans (hb.mono hB.size)
      clear hb
      go_wp2_with (refine wpList_allocTo 27 rfl rfl _ rfl soft_zero ?_; intro Xx0 a_b27 hb0 hz0; refine Hid.out ?_)
      unfold Hid
      try simp only [Act.put, List.setIfInBounds_toArray, List.set_cons_zero, List.set_cons_succ]
      obtain ⟨b27, e_b27⟩ : ∃ a, w32.heap.size = a := ⟨_, rfl⟩
      have s_b27 : w32.heap.size ≤ b27 := by omega
      have hb := hb0
      rw [e_b27] at a_b27 hz0 ⊢
      clear hb0
      have hz : b27 < Xx0.heap.size := by omega
      clear e_b27 hz0
      go_wp2_with (refine wpList_storeB rfl rfl _ (.tmp 27) _ rfl (b := b27) (q := 0) rfl (n := 23) (v := softV sX aX) rfl a_b27 (fun j _ => soft_one _ _ _) soft_size ?_; intro Yx0 t1; refine Hid.out ?_)
      unfold Hid
      replace hb := t1.below _ _ (by omega) hb
      replace a_b27 := t1.blk
      rw [← t1.size] at hz
      clear t1
      replace hs2 := hs2.later hb
      replace c17 := later hb c17
      replace hB := hB.trans (hb.mono hB.size)
      clear hb hz
      clear s_b27
      clear a_b27
      go_wp2_with fail
      refine (rn_n _ _ hs2 HRUN.out.st HN1.out).mono ?_
      rintro e w33 ⟨sY, aY, rfl, _, _, hb⟩
      replace hs2 := hs2.later hb
      replace c17 := later hb c17
      replace hB := hB.trans (hb.mono hB.size)
      clear hb
      go_wp2_with (refine wpList_allocTo 30 rfl rfl _ rfl soft_zero ?_; intro Xy0 a_b30 hb0 hz0; refine Hid.out ?_)
      unfold Hid
      try simp only [Act.put, List.setIfInBounds_toArray, List.set_cons_zero, List.set_cons_succ]
      obtain ⟨b30, e_b30⟩ : ∃ a, w33.heap.size = a := ⟨_, rfl⟩
      have s_b30 : w33.heap.size ≤ b30 := by omega
      have hb := hb0
      rw [e_b30] at a_b30 hz0 ⊢
      clear hb0
      have hz : b30 < Xy0.heap.size := by omega
      clear e_b30 hz0
      go_wp2_with (refine wpList_storeB rfl rfl _ (.tmp 30) _ rfl (b := b30) (q := 0) rfl (n := 23) (v := softV sY aY) rfl a_b30 (fun j _ => soft_one _ _ _) soft_size ?_; intro Yy0 t1; refine Hid.out ?_)
      unfold Hid
      replace hb := t1.below _ _ (by omega) hb
      replace a_b30 := t1.blk
      rw [← t1.size] at hz
      clear t1
      replace hs2 := hs2.later hb
      replace c17 := later hb c17
      replace hB := hB.trans (hb.mono hB.size)
      clear hb hz
      clear s_b30
      clear a_b30
      go_wp2_with fail
      refine (awake_any _).mono ?_
      rintro e wX ⟨rfl, hb⟩
      have hBX := hB.trans (hb.mono hB.size)
      clear hb
      go_wp2_with fail
      go_ret
      exact ⟨rfl, hBX⟩
  · have htm : Int.tmod (wv : Int) 6 = 4 := by rw [Int.tmod_eq_emod_of_nonneg (by omega)]; omega
    clear hwb h6
    have hb := HB3.out
    have g19x := g19
    have c20x := c20
    replace hs := hs.later hb
    replace c1 := later hb c1
    replace iA := iA.later hb
    replace a_b13 := a_b13.later hb
    replace hs2 := hs2.later hb
    replace c17 := later hb c17
    replace hB := hB.trans (hb.mono hB.size)
    clear hb
    go_wp2_with (refine wpList_loadN rfl _ (.tmp 19) rfl (b := b19) (q := 0) rfl (run_loadSw g19x) ?_)
    have IT := iA
    refine (ins_e34 (g := 1) _ _ _ hs HST0.out.st IT (Ld.cdI_gen HST0.out.st HVA.out.1 (Ld.genu_h (by rw [HPA.out]; decide))) (by decide)).mono ?_
    rintro e w31 ⟨yE, kE, rfl, hb⟩
    replace hs := hs.later hb
    replace c1 := later hb c1
    replace iA := iA.later hb
    replace a_b13 := a_b13.later hb
    replace hs2 := hs2.later hb
    replace c17 := later hb c17
    replace hB := hB.trans (hb.mono hB.size)
    clear hb
    clear g19x c20x IT
    clear c1 a_b13 hs iA
    go_wp2_with fail
    refine (rn_e rt 0 _).mono ?_
    rintro e w32 ⟨sX, aX, rfl, _, _, hb⟩
    replace hs2 := hs2.later hb
    replace c17 := later hb c17
    replace hB := hB.trans (hb.mono hB.size)
    clear hb
    go_wp2_with (refine wpList_allocTo 27 rfl rfl _ rfl soft_zero ?_; intro Xx0 a_b27 hb0 hz0; refine Hid.out ?_)
    unfold Hid
    try simp only [Act.put, List.setIfInBounds_toArray, List.set_cons_zero, List.set_cons_succ]
    obtain ⟨b27, e_b27⟩ : ∃ a, w32.heap.size = a := ⟨_, rfl⟩
    have s_b27 : w32.heap.size ≤ b27 := by omega
    have hb := hb0
    rw [e_b27] at a_b27 hz0 ⊢
    clear hb0
    have hz : b27 < Xx0.heap.size := by omega
    clear e_b27 hz0
    go_wp2_with (refine wpList_storeB rfl rfl _ (.tmp 27) _ rfl (b := b27) (q := 0) rfl (n := 23) (v := softV sX aX) rfl a_b27 (fun j _ => soft_one _ _ _) soft_size ?_; intro Yx0 t1; refine Hid.out ?_)
    unfold Hid
    replace hb := t1.below _ _ (by omega) hb
    replace a_b27 := t1.blk
    rw [← t1.size] at hz
    clear t1
    replace hs2 := hs2.later hb
    replace c17 := later hb c17
    replace hB := hB.trans (hb.mono hB.size)
    clear hb hz
    clear s_b27
    clear a_b27
    go_wp2_with fail
    refine (rn_n _ _ hs2 HRUN.out.st HN1.out).mono ?_
    rintro e w33 ⟨sY, aY, rfl, _, _, hb⟩
    replace hs2 := hs2.later hb
    replace c17 := later hb c17
    replace hB := hB.trans (hb.mono hB.size)
    clear hb
    go_wp2_with (refine wpList_allocTo 30 rfl rfl _ rfl soft_zero ?_; intro Xy0 a_b30 hb0 hz0; refine Hid.out ?_)
    unfold Hid
    try simp only [Act.put, List.setIfInBounds_toArray, List.set_cons_zero, List.set_cons_succ]
    obtain ⟨b30, e_b30⟩ : ∃ a, w33.heap.size = a := ⟨_, rfl⟩
    have s_b30 : w33.heap.size ≤ b30 := by omega
    have hb := hb0
    rw [e_b30] at a_b30 hz0 ⊢
    clear hb0
    have hz : b30 < Xy0.heap.size := by omega
    clear e_b30 hz0
    go_wp2_with (refine wpList_storeB rfl rfl _ (.tmp 30) _ rfl (b := b30) (q := 0) rfl (n := 23) (v := softV sY aY) rfl a_b30 (fun j _ => soft_one _ _ _) soft_size ?_; intro Yy0 t1; refine Hid.out ?_)
    unfold Hid
    replace hb := t1.below _ _ (by omega) hb
    replace a_b30 := t1.blk
    rw [← t1.size] at hz
    clear t1
    replace hs2 := hs2.later hb
    replace c17 := later hb c17
    replace hB := hB.trans (hb.mono hB.size)
    clear hb hz
    clear s_b30
    clear a_b30
    go_wp2_with fail
    refine (awake_any _).mono ?_
    rintro e wX ⟨rfl, hb⟩
    have hBX := hB.trans (hb.mono hB.size)
    clear hb
    go_wp2_with fail
    go_ret
    exact ⟨rfl, hBX⟩
  · have htm : Int.tmod (wv : Int) 6 = 5 := by rw [Int.tmod_eq_emod_of_nonneg (by omega)]; omega
    clear hwb h6
    have k19 := (g19.at 0 (by omega)).1
    have j19 := (g19.at 0 (by omega)).2
    have hb : Below V2.heap.size V2 (V3.setCell ⟨b20, 0, none⟩ (.slice x2_ 34 c2_)) := by rw [HNBL.out]; exact HN3.out.setCell (p := ⟨b20, 0, none⟩) z20 (.slice x2_ 34 c2_)
    have tn : Turns (fun b => b = b20) V3 (V3.setCell ⟨b20, 0, none⟩ (.slice x2_ 34 c2_)) := (Turns.refl (fun b => b = b20) V3).setCell (p := ⟨b20, 0, none⟩) (fun _ => rfl) _
    have g19x : Blk (V3.setCell ⟨b20, 0, none⟩ (.slice x2_ 34 c2_)) b19 0 23 (softV sA ⟨xa, ca, xpA, cpA⟩) := g19.turn tn (show ¬ b19 = b20 by omega)
    have c20x : (V3.setCell ⟨b20, 0, none⟩ (.slice x2_ 34 c2_)).cell? ⟨b20, 0, none⟩ = some (.slice x2_ 34 c2_) := World.cell?_setCell_same' _ _ _ (by rw [c20]; rfl)
    clear tn
    replace hs := hs.later hb
    replace c1 := later hb c1
    replace iA := iA.later hb
    replace a_b13 := a_b13.later hb
    replace hs2 := hs2.later hb
    replace c17 := later hb c17
    replace hB := hB.trans (hb.mono hB.size)
    clear hb
    go_wp2_with (refine wpList_loadN rfl _ (.tmp 19) rfl (b := b19) (q := 0) rfl (run_loadSw g19x) ?_)
    have IT := iA
    refine (ins_e34 _ _ _ hs2 HRUN.out.st IT (Ld.ins_old HRUN.out HVA.out.1 HVA.out.2 (Int.le_refl _)) (by decide)).mono ?_
    rintro e w31 ⟨yE, kE, rfl, hb⟩
    replace hs := hs.later hb
    replace c1 := later hb c1
    replace iA := iA.later hb
    replace a_b13 := a_b13.later hb
    replace hs2 := hs2.later hb
    replace c17 := later hb c17
    replace hB := hB.trans (hb.mono hB.size)
    clear hb
    clear g19x c20x IT
    clear c1 a_b13 hs iA
    go_wp2_with fail
    refine (rn_e rt 0 _).mono ?_
    rintro e w32 ⟨sX, aX, rfl, _, _, hb⟩
    replace hs2 := hs2.later hb
    replace c17 := later hb c17
    replace hB := hB.trans (hb.mono hB.size)
    clear hb
    go_wp2_with (refine wpList_allocTo 27 rfl rfl _ rfl soft_zero ?_; intro Xx0 a_b27 hb0 hz0; refine Hid.out ?_)
    unfold Hid
    try simp only [Act.put, List.setIfInBounds_toArray, List.set_cons_zero, List.set_cons_succ]
    obtain ⟨b27, e_b27⟩ : ∃ a, w32.heap.size = a := ⟨_, rfl⟩
    have s_b27 : w32.heap.size ≤ b27 := by omega
    have hb := hb0
    rw [e_b27] at a_b27 hz0 ⊢
    clear hb0
    have hz : b27 < Xx0.heap.size := by omega
    clear e_b27 hz0
    go_wp2_with (refine wpList_storeB rfl rfl _ (.tmp 27) _ rfl (b := b27) (q := 0) rfl (n := 23) (v := softV sX aX) rfl a_b27 (fun j _ => soft_one _ _ _) soft_size ?_; intro Yx0 t1; refine Hid.out ?_)
    unfold Hid
    replace hb := t1.below _ _ (by omega) hb
    replace a_b27 := t1.blk
    rw [← t1.size] at hz
    clear t1
    replace hs2 := hs2.later hb
    replace c17 := later hb c17
    replace hB := hB.trans (hb.mono hB.size)
    clear hb hz
    clear s_b27
    clear a_b27
    go_wp2_with fail
    refine (rn_n _ _ hs2 HRUN.out.st HN1.out).mono ?_
    rintro e w33 ⟨sY, aY, rfl, _, _, hb⟩
    replace hs2 := hs2.later hb
    replace c17 := later hb c17
    replace hB := hB.trans (hb.mono hB.size)
    clear hb
    go_wp2_with (refine wpList_allocTo 30 rfl rfl _ rfl soft_zero ?_; intro Xy0 a_b30 hb0 hz0; refine Hid.out ?_)
    unfold Hid
    try simp only [Act.put, List.setIfInBounds_toArray, List.set_cons_zero, List.set_cons_succ]
    obtain ⟨b30, e_b30⟩ : ∃ a, w33.heap.size = a := ⟨_, rfl⟩
    have s_b30 : w33.heap.size ≤ b30 := by omega
    have hb := hb0
    rw [e_b30] at a_b30 hz0 ⊢
    clear hb0
    have hz : b30 < Xy0.heap.size := by omega
    clear e_b30 hz0
    go_wp2_with (refine wpList_storeB rfl rfl _ (.tmp 30) _ rfl (b := b30) (q := 0) rfl (n := 23) (v := softV sY aY) rfl a_b30 (fun j _ => soft_one _ _ _) soft_size ?_; intro Yy0 t1; refine Hid.out ?_)
    unfold Hid
    replace hb := t1.below _ _ (by omega) hb
    replace a_b30 := t1.blk
    rw [← t1.size] at hz
    clear t1
    replace hs2 := hs2.later hb
    replace c17 := later hb c17
    replace hB := hB.trans (hb.mono hB.size)
    clear hb hz
    clear s_b30
    clear a_b30
    go_wp2_with fail
    refine (awake_any _).mono ?_
    rintro e wX ⟨rfl, hb⟩
    have hBX := hB.trans (hb.mono hB.size)
    clear hb
    go_wp2_with fail
    go_ret
    exact ⟨rfl, hBX⟩

end Go.Proofs.Ytapefonhgkjgnaa
