/- LAW SignForm, where the signature is shaped. -/
import Derived.Test.YtjpicnfkmfjnoaaSgnT
import Derived.Test.YtjpicnfkmfjnoaaSgnO
import Derived.Test.YtjpicnfkmfjnoaaZerosO
import Derived.Test.YtjpicnfkmfjnoaaRegionB
import Derived.Test.YtjpicnfkmfjnoaaVldN
namespace Go.Proofs.Ytjpicnfkmfjnoaa
open Go.RowKit

set_option maxRecDepth 20000 in
set_option maxHeartbeats 4000000 in
theorem form_tt (root d : D64) (key : Int) (f : Nat → D64) (x : Option Addr) (p : List D64) (c : Nat) (ct : UInt8) (w : World) (hp : Wts w x p) (hov : vldS (p.length : Int) key = true) :
    Calls Try.prog 8 #[.int .u64 (num root), .int .i64 (p.length : Int), .int .u64 (num d), aggN 20 (sigV key f x p.length c), .int .u8 (ct.toNat : Int)] w (YesOf w) := by
  obtain ⟨h6, kk, hkk, hk⟩ := vld_nat2 hov
  obtain ⟨r, hr⟩ : ∃ r, ct.toNat % 20 = r := ⟨_, rfl⟩
  have hrI : (ct.toNat : Int) % 20 = (r : Int) := by omega
  have hrT : (ct.toNat : Int).tmod 20 = (r : Int) := by rw [Int.tmod_eq_emod_of_nonneg (by omega)]; exact hrI
  obtain ⟨m, hm⟩ : ∃ m, 1 + r = m := ⟨_, rfl⟩
  have hmI : 1 + (r : Int) = (m : Int) := by omega
  have hm20 : 1 ≤ m ∧ m ≤ 20 := by omega
  have hel := Sgn.enc_length kk f p
  have he1 : ((Sgn.enc kk f p).getD 1 0).toNat = p.length := by rw [Sgn.enc_1, UInt8.toNat_ofNat']; omega
  have HE : ∀ W, Wts W x p → Calls Try.prog 28 #[aggN 20 (sigV key f x p.length c)] W fun e w' => ∃ y cy, e = .returned (.tuple #[.slice y (Sgn.enc kk f p).length cy, .int .i64 0]) ∧ OwnsB W.heap.size w' y cy (Sgn.enc kk f p) ∧ Below W.heap.size W w' := fun W hw => by rw [hkk]; exact encode_ok kk f p x c W hw h6 hk
  have HD : ∀ W xa ca, Bts W xa (Sgn.enc kk f p) → Calls Try.prog 30 #[.slice xa (Sgn.enc kk f p).length ca] W fun e w' => ∃ y cy g, e = .returned (.tuple #[aggN 20 (sigV key g y p.length cy), .int .i64 0]) ∧ (∀ j, j < 18 → g j = f j) ∧ OwnsW W.heap.size w' y cy p ∧ Below W.heap.size W w' := fun W xa ca hw => by rw [hkk]; exact dec_enc kk f p h6 hk xa ca W hw
  have HS : ∀ (W : World) (xa xb : Option Addr) (ca cb : Nat) (g : Nat → D64), (∀ j, j < 18 → g j = f j) → Wts W xa p → Wts W xb p → Calls Try.prog 20 #[aggN 20 (sigV key g xa p.length ca), aggN 20 (sigV key f xb p.length cb)] W (YesOf W) := fun W xa xb ca cb g hg h1 h2 => same_yes key g f hg xa xb p ca cb W h1 h2 (by omega)
  obtain ⟨el, hel0⟩ : ∃ l, Sgn.enc kk f p = l := ⟨_, rfl⟩
  rw [hel0] at hel he1 HE HD
  have hcutl : (el.take (el.length - m)).length = el.length - m := by rw [List.length_take]; omega
  have hextl : (el ++ List.replicate m (0 : UInt8)).length = el.length + m := by simp
  have HC : ∀ W xa ca, Bts W xa (el.take (el.length - m)) → Calls Try.prog 30 #[.slice xa (el.length - m) ca] W fun e w' => e = .returned (.tuple #[aggN 20 zeroS, .int .i64 60]) ∧ Below W.heap.size W w' := fun W xa ca hw => by
    have h1 := decode_no xa (el.take (el.length - m)) ca W hw (by
      unfold decN
      rw [Bool.and_eq_false_iff]
      refine .inr (decide_eq_false ?_)
      rw [hcutl, List.getD_eq_getElem?_getD, List.getElem?_take, if_pos (by omega), ← List.getD_eq_getElem?_getD, he1]
      omega)
    rw [hcutl] at h1
    exact h1
  have HX : ∀ W xa ca, Bts W xa (el ++ List.replicate m 0) → Calls Try.prog 30 #[.slice xa (el.length + m) ca] W fun e w' => e = .returned (.tuple #[aggN 20 zeroS, .int .i64 60]) ∧ Below W.heap.size W w' := fun W xa ca hw => by
    have h1 := decode_no xa (el ++ List.replicate m 0) ca W hw (by
      unfold decN
      rw [Bool.and_eq_false_iff]
      refine .inr (decide_eq_false ?_)
      rw [hextl, List.getD_eq_getElem?_getD, List.getElem?_append_left (by omega), ← List.getD_eq_getElem?_getD, he1]
      omega)
    rw [hextl] at h1
    exact h1
  obtain ⟨L, hL⟩ : ∃ k, el.length = k := ⟨_, rfl⟩
  have HL := Lib.hid hL
  obtain ⟨km, hkm⟩ : ∃ k, L - m = k := ⟨_, rfl⟩
  obtain ⟨kp, hkp⟩ : ∃ k, L + m = k := ⟨_, rfl⟩
  obtain ⟨n, hnn⟩ : ∃ n, p.length = n := ⟨_, rfl⟩
  have HN := Lib.hid hnn
  rw [hL] at hel HE HD HC HX
  rw [hkm] at HC
  rw [hkp] at HX
  rw [hnn] at hel h6 HE HD HS hk ⊢
  have hLn : (L : Int) = 2 + 8 * (18 + (n : Int)) := by omega
  have hkmI : (L : Int) - (m : Int) = (km : Int) := by omega
  have HKP := Lib.hid hkp
  have HKM := Lib.hid hkm
  have hlm : decide ((L : Int) < (m : Int)) = false := decide_eq_false (by omega)
  have hlmn : decide (L < m) = false := decide_eq_false (by omega)
  have hLb : 146 ≤ L ∧ L ≤ 194 := by omega
  have hkmb : km ≤ L ∧ 1 ≤ km := by omega
  have hkpb : kp ≤ 300 := by omega
  have HLN := Lib.hid hLn
  have hLeq : ((L : Int) == 2 + 8 * (18 + (n : Int))) = true := by rw [beq_iff_eq]; exact hLn
  have q1 : 0 ≤ key := by omega
  have hPb : 1 ≤ 2 ^ n ∧ 2 ^ n ≤ 64 := ⟨Nat.one_le_two_pow, Nat.pow_le_pow_right (n := 2) (by decide) h6⟩
  have hpow : (2 : Int) ^ n = ((2 ^ n : Nat) : Int) := by simp
  obtain ⟨P, hP⟩ : ∃ P : Nat, 2 ^ n = P := ⟨_, rfl⟩
  rw [hP] at hPb hpow hk
  have e4 : decide (key < (P : Int)) = true := decide_eq_true (by rw [hkk]; exact Int.ofNat_lt.2 hk)
  have hPw : wrap64 (P : Int) = (P : Int) := IntWalk.wrap64_in _ ⟨by omega, by omega⟩
  have HPW := Lib.hid hPw
  have HRT := Lib.hid hrT
  have HRI := Lib.hid hrI
  clear hPw hrT hrI
  have e3 : decide (0 ≤ key) = true := decide_eq_true q1
  have e6 : decide ((n : Int) ≤ 6) = true := decide_eq_true (by omega)
  have E1 := Lib.hid HE
  have D1 := Lib.hid HD
  have S1 := Lib.hid HS
  have C1 := Lib.hid HC
  have X1 := Lib.hid HX
  have hn10 : n ≤ 10 := by omega
  clear HE HD HS HC HX hr hm hL hkm hkp hcutl hextl he1 hel hel0 hkk hk hP q1 hnn hLn hov
  have d1 : decide (10 < n) = false := decide_eq_false (by omega)
  have d1i : decide ((10 : Int) < (n : Int)) = false := decide_eq_false (by omega)
  have hmin : ∀ (ts : Array TypeId) (t : TypeId) (W : World), (Builtin.min_ ts t #[.int .i64 (n : Int), .int .i64 6]).run Try.prog W = .ok (.int .i64 (n : Int)) W := fun ts t W => by
    simp [Builtin.min_, Builtin.min2]
    try omega
  have hmax : ∀ (ts : Array TypeId) (t : TypeId) (W : World), (Builtin.max_ ts t #[.int .i64 (n : Int), .int .i64 0]).run Try.prog W = .ok (.int .i64 (n : Int)) W := fun ts t W => by
    simp [Builtin.max_, Builtin.max2]
    try omega
  have e1 : decide ((0 : Int) ≤ (n : Int)) = true := decide_eq_true (by omega)
  have e5 : ((n : Int) == (n : Int)) = true := by simp
  have n63 : n < 64 := by omega
  go_enter Try.func8, Try.ntmps8
  go_wp2_with (refine wpList_boxN rfl _ _ rfl (v := sigV key f x n c) rfl ?_; intro U g hB hz; refine Hid.out ?_)
  unfold Hid
  try simp only [Act.put, List.setIfInBounds_toArray, List.set_cons_zero, List.set_cons_succ]
  have gp := hp.later hB
  obtain ⟨b8, hb8⟩ : ∃ a, w.heap.size = a := ⟨_, rfl⟩
  rw [hb8] at g ⊢
  have a_b8 := g
  have c0 : U.cell? ⟨b8, 0, none⟩ = some (.int .i64 key) := (g.at 0 (by omega)).1
  have c19 : U.cell? ⟨b8, 19, none⟩ = some (.slice x n c) := (g.at 19 (by omega)).1
  clear hp hz hb8 g
  go_wp2_with fail
  have hPw := HPW.out
  refine wp_region_sched (fun W => W.cell? ⟨b8, 0, none⟩ = some (.int .i64 key) ∧ W.cell? ⟨b8, 19, none⟩ = some (.slice x n c) ∧ Below U.heap.size U W) (.done [0, 1, 2, 3, 4, 5, 6, 7, 8, 9, 10, 11, 12, 13, 14, 15, 16, 17, 18, 19, 20, 21, 22, 23, 24, 25, 26, 27]) (by kernel_rfl) (by kernel_rfl) (fun _ _ _ _ _ h => h) ⟨(by go_simp), (by go_simp), (Below.refl _ _).drew⟩ ?_
  clear c0 c19
  rintro V ⟨c0, c19, hUV⟩
  rw [wpSched]
  simp only [pick, List.map_cons, List.map_nil, Array.getD_eq_getD_getElem?, List.getElem?_toArray, List.getElem?_cons_succ, List.getElem?_cons_zero, Option.getD_some]
  have k0 := plusW_cell c0
  have k19 := plusW_cell c19
  repeat (first | go_big_quiet_step (fail) | quiet_step (fail))
  refine wpQuiet_nil ?_
  clear k0 k19
  clear hPw hmin hmax
  replace a_b8 := a_b8.later hUV
  replace gp := gp.later hUV
  replace hB := thru hB hUV
  clear hUV
  have l8 := run_loadS a_b8
  go_wp2_with (refine wpList_loadN rfl _ (.tmp 8) rfl (b := b8) (q := 0) rfl l8 ?_)
  refine (E1.out _ gp).mono ?_
  rintro e V2 ⟨ye, ce, rfl, ho, hb⟩
  clear l8
  replace c0 := later hb c0
  replace c19 := later hb c19
  replace a_b8 := a_b8.later hb
  replace gp := gp.later hb
  replace hB := thru hB hb
  clear hb
  have hcap : L ≤ ce := by
    rcases ho.2 with ⟨_, h0⟩ | ⟨g', cap', cur, hv, _, _, hnc, _⟩
    · have := HL.out; omega
    · simp only [Value.slice.injEq] at hv
      have := HL.out
      omega
  obtain ⟨ge, rfl⟩ := ho.some_of (by have := HL.out; omega)
  have ge1 := ho.bts
  clear ho
  have hPw := HPW.out
  go_wp2_with fail
  refine wp_region_sched (fun W => W.cell? ⟨b8, 0, none⟩ = some (.int .i64 key) ∧ W.cell? ⟨b8, 19, none⟩ = some (.slice x n c) ∧ Below V2.heap.size V2 W) (.done [0, 1, 2, 3, 4, 5, 6, 7, 8, 9, 10, 11, 12, 13, 14, 15, 16, 17, 18]) (by kernel_rfl) (by kernel_rfl) (fun _ _ _ _ _ h => h) ⟨(by go_simp), (by go_simp), (Below.refl _ _).drew⟩ ?_
  clear c0 c19
  rintro V3 ⟨c0, c19, hUV⟩
  rw [wpSched]
  simp only [pick, List.map_cons, List.map_nil, Array.getD_eq_getD_getElem?, List.getElem?_toArray, List.getElem?_cons_succ, List.getElem?_cons_zero, Option.getD_some]
  have k0 := plusW_cell c0
  have k19 := plusW_cell c19
  repeat (first | go_big_quiet_step (fail) | quiet_step (fail))
  refine wpQuiet_nil ?_
  clear k0 k19
  clear hPw
  replace a_b8 := a_b8.later hUV
  replace gp := gp.later hUV
  replace ge1 := ge1.later hUV
  replace hB := thru hB hUV
  clear hUV
  go_wp2_with fail
  refine (D1.out _ _ _ ge1).mono ?_
  rintro e V4 ⟨yd, cd, gg, rfl, hg, ho, hb⟩
  have gd := ho.wts
  have HG := Lib.hid hg
  replace c19 := later hb c19
  replace a_b8 := a_b8.later hb
  replace gp := gp.later hb
  replace ge1 := ge1.later hb
  replace hB := thru hB hb
  clear hb ho hg c0
  go_wp2_with (refine wpList_allocTo 15 rfl rfl _ rfl sig_zero ?_; intro Xp0 a_b15 hb0 hz0; refine Hid.out ?_)
  unfold Hid
  try simp only [Act.put, List.setIfInBounds_toArray, List.set_cons_zero, List.set_cons_succ]
  obtain ⟨b15, e_b15⟩ : ∃ a, V4.heap.size = a := ⟨_, rfl⟩
  have s_b15 : V4.heap.size ≤ b15 := by omega
  have hb := hb0
  rw [e_b15] at a_b15 hz0 ⊢
  clear hb0
  have hz : b15 < Xp0.heap.size := by omega
  clear e_b15 hz0
  go_wp2_with (refine wpList_storeB rfl rfl _ (.tmp 15) _ rfl (b := b15) (q := 0) rfl (n := 20) (v := sigV key gg yd n cd) rfl a_b15 (fun j _ => sig_one _ _ _ _ _ j) sig_size ?_; intro Yp0 t1; refine Hid.out ?_)
  unfold Hid
  replace hb := t1.below _ _ (by omega) hb
  replace a_b15 := t1.blk
  rw [← t1.size] at hz
  clear t1
  replace gp := gp.later hb
  replace ge1 := ge1.later hb
  replace gd := gd.later hb
  replace a_b8 := a_b8.later hb
  replace c19 := later hb c19
  replace hB := thru hB hb
  clear hb hz
  have hrT := HRT.out
  have hrI := HRI.out
  go_wp2_with fail
  clear hrT hrI
  have gcut : Bts Yp0 (some ⟨ge, 0, none⟩) (el.take (el.length - m)) := ge1.take _
  refine (C1.out _ _ _ (by rw [HL.out, HKM.out] at gcut; exact gcut)).mono ?_
  rintro e V5 ⟨rfl, hb⟩
  clear gcut
  replace gp := gp.later hb
  replace ge1 := ge1.later hb
  replace gd := gd.later hb
  replace a_b8 := a_b8.later hb
  replace a_b15 := a_b15.later hb
  replace c19 := later hb c19
  replace hB := thru hB hb
  clear hb
  go_wp2_with (refine wpList_allocTo 18 rfl rfl _ rfl sig_zero ?_; intro Xq0 a_b18 hb0 hz0; refine Hid.out ?_)
  unfold Hid
  try simp only [Act.put, List.setIfInBounds_toArray, List.set_cons_zero, List.set_cons_succ]
  obtain ⟨b18, e_b18⟩ : ∃ a, V5.heap.size = a := ⟨_, rfl⟩
  have s_b18 : V5.heap.size ≤ b18 := by omega
  have hb := hb0
  rw [e_b18] at a_b18 hz0 ⊢
  clear hb0
  have hz : b18 < Xq0.heap.size := by omega
  clear e_b18 hz0
  go_wp2_with (refine wpList_storeB rfl rfl _ (.tmp 18) _ rfl (b := b18) (q := 0) rfl (n := 20) (v := zeroS) rfl a_b18 (fun j _ => sig_one _ _ _ _ _ j) sig_size ?_; intro Yq0 t1; refine Hid.out ?_)
  unfold Hid
  replace hb := t1.below _ _ (by omega) hb
  replace a_b18 := t1.blk
  rw [← t1.size] at hz
  clear t1
  replace gp := gp.later hb
  replace ge1 := ge1.later hb
  replace gd := gd.later hb
  replace a_b8 := a_b8.later hb
  replace a_b15 := a_b15.later hb
  replace c19 := later hb c19
  replace hB := thru hB hb
  clear hb hz
  go_wp2_with (at_builtin; refine wpList_app rfl _ _ rfl (B := Yq0.heap.size) (l := []) (cap := 0) (OwnsB.made Yq0.heap.size Yq0 (Nat.le_refl _)) rfl (y := some ⟨ge, 0, none⟩) (m := el) (by rw [HL.out]; rfl) (ge1.later (al (Below.refl _ _) _)) (fun h => by cases h) (by have := HL.out; simp; omega) (List.nil_append _) (by simp) ?_; intro x1 cap1 V6 h1 h2 _; refine Hid.out ?_)
  unfold Hid
  try simp only [Act.put, List.setIfInBounds_toArray, List.set_cons_zero, List.set_cons_succ]
  rw [HL.out]
  obtain ⟨g1, rfl⟩ := h1.some_of (by have := HL.out; omega)
  have H1 := Lib.hid h1
  have hb6 : Below Yq0.heap.size Yq0 V6 := (al (Below.refl _ Yq0) _).trans h2
  clear h1 h2
  go_wp2_with (at_builtin; refine wpList_app_zerosO rfl _ _ rfl (B := Yq0.heap.size) H1.out (by rw [HL.out]; rfl) m (by omega) rfl (by have := HL.out; omega) hb6.size ?_; intro x2 cap2 V7 h1 h2; refine Hid.out ?_)
  unfold Hid
  try simp only [Act.put, List.setIfInBounds_toArray, List.set_cons_zero, List.set_cons_succ]
  rw [HL.out, HKP.out]
  have hb := hb6.trans h2
  clear hb6 h2 H1
  have gx1 := h1
  clear h1
  replace gp := gp.later hb
  replace ge1 := ge1.later hb
  replace gd := gd.later hb
  replace a_b8 := a_b8.later hb
  replace a_b15 := a_b15.later hb
  replace c19 := later hb c19
  replace hB := thru hB hb
  clear hb
  go_wp2_with fail
  refine (X1.out _ _ _ gx1).mono ?_
  rintro e V8 ⟨rfl, hb⟩
  replace gp := gp.later hb
  replace gd := gd.later hb
  replace a_b8 := a_b8.later hb
  replace a_b15 := a_b15.later hb
  replace c19 := later hb c19
  replace hB := thru hB hb
  clear hb gx1 ge1
  go_wp2_with (refine wpList_allocTo 20 rfl rfl _ rfl sig_zero ?_; intro Xr0 a_b20 hb0 hz0; refine Hid.out ?_)
  unfold Hid
  try simp only [Act.put, List.setIfInBounds_toArray, List.set_cons_zero, List.set_cons_succ]
  obtain ⟨b20, e_b20⟩ : ∃ a, V8.heap.size = a := ⟨_, rfl⟩
  have s_b20 : V8.heap.size ≤ b20 := by omega
  have hb := hb0
  rw [e_b20] at a_b20 hz0 ⊢
  clear hb0
  have hz : b20 < Xr0.heap.size := by omega
  clear e_b20 hz0
  go_wp2_with (refine wpList_storeB rfl rfl _ (.tmp 20) _ rfl (b := b20) (q := 0) rfl (n := 20) (v := zeroS) rfl a_b20 (fun j _ => sig_one _ _ _ _ _ j) sig_size ?_; intro Yr0 t1; refine Hid.out ?_)
  unfold Hid
  replace hb := t1.below _ _ (by omega) hb
  replace a_b20 := t1.blk
  rw [← t1.size] at hz
  clear t1
  replace gp := gp.later hb
  replace gd := gd.later hb
  replace a_b8 := a_b8.later hb
  replace a_b15 := a_b15.later hb
  replace c19 := later hb c19
  replace hB := thru hB hb
  clear hb hz
  have l8 := run_loadS a_b8
  have l15 := run_loadS a_b15
  go_wp2_with (first | (refine wpList_loadN_w rfl _ (.tmp 15) rfl (b := b15) (q := 0) rfl l15 ?_) | (refine wpList_loadN_w rfl _ (.tmp 8) rfl (b := b8) (q := 0) rfl l8 ?_))
  refine (S1.out _ _ _ _ _ _ HG.out gd gp).mono ?_
  rintro e V9 ⟨rfl, hb⟩
  clear l8 l15
  replace c19 := later hb c19
  replace hB := thru hB hb
  clear hb
  go_wp2_with fail
  refine (awake_any _).mono ?_
  rintro e V10 ⟨rfl, hb⟩
  go_wp2_with fail
  go_ret
  exact ⟨rfl, thru hB hb⟩

end Go.Proofs.Ytjpicnfkmfjnoaa
