/- LAW SignAdvances. -/
import Derived.Test.YtjpicnfkmfjnoaaSgnN
namespace Go.Proofs.Ytjpicnfkmfjnoaa
open Go.RowKit

theorem u8z_key (q : Nat) : u8z (q : Int) = Sgn.keyA q := u8z_nat q
theorem u8z_key2 (q : Nat) : u8z ((q : Int) / 256) = Sgn.keyB q := by
  unfold Sgn.keyB
  rw [← u8z_nat]
  rfl
/-- Verify's value at what Sign makes. -/
theorem vfy_sign (seed : D64) (h q : Nat) (d : D64) (hq : q < 2 ^ h) : Sgn.vfy d q (fun i => Sgn.val seed (u8z (q : Int)) (u8z ((q : Int) / 256)) i (Sgn.dig d i)) (Sgn.path seed h q) = Sgn.node seed h 0 := by
  unfold Sgn.vfy
  rw [Sgn.path_length]
  have e : Sgn.pubE (fun i => Sgn.adv (UInt8.ofNat i) (Sgn.dig d i) (15 - Sgn.dig d i) (Sgn.val seed (u8z (q : Int)) (u8z ((q : Int) / 256)) i (Sgn.dig d i))) = Sgn.node seed 0 q := by
    show _ = Sgn.pub seed (Sgn.keyA q) (Sgn.keyB q)
    unfold Sgn.pub
    refine Sgn.pubE_congr fun i hi => ?_
    rw [← Sgn.val_add, u8z_key, u8z_key2]
    have := Sgn.dig_le d i
    rw [show Sgn.dig d i + (15 - Sgn.dig d i) = 15 by omega]
  rw [e]
  exact Sgn.up_root seed h q hq
theorem path_one (seed : D64) (k : Nat) (hk : k < 2) : (Sgn.path seed 1 k).getD 0 0#64 = Sgn.pub seed (u8z (1 - (k : Int))) (u8z ((1 - (k : Int)) / 256)) := by
  have h : k = 0 ∨ k = 1 := by omega
  rcases h with rfl | rfl <;> rfl
set_option maxHeartbeats 4000000 in
theorem advances_law (seed : D64) (q : UInt8) (d e : D64) (w : World) : Calls Try.prog 5 #[.int .u64 (num seed), .int .u8 (q.toNat : Int), .int .u64 (num d), .int .u64 (num e)] w (YesOf w) := by
  obtain ⟨k, hk⟩ : ∃ k, q.toNat % 2 = k := ⟨_, rfl⟩
  have hq8 : q.toNat < 256 := q.toNat_lt
  have hk2 : k < 2 := by omega
  have hqk : (q.toNat : Int) % 2 = (k : Int) := by omega
  have hqk2 : (q.toNat : Int).tmod 2 = (k : Int) := by rw [Int.tmod_eq_emod_of_nonneg (by omega)]; exact hqk
  obtain ⟨qn, hqn⟩ : ∃ n, q.toNat = n := ⟨_, rfl⟩
  rw [hqn] at hqk hqk2 hq8 ⊢
  clear hk hqn
  go_enter Try.func5, Try.ntmps5
  have hkp : k < 2 ^ 1 := hk2
  have HF1 := fun i => Sgn.val seed (u8z (k : Int)) (u8z ((k : Int) / 256)) i (Sgn.dig d i)
  go_wp2_with fail
  refine (sign_ok seed 1 k d (by omega) hkp _).mono ?_
  rintro e' W1 ⟨xx, cx, rfl, ho, hB⟩
  obtain ⟨fx, hfx⟩ : ∃ f, (fun i => Sgn.val seed (u8z (k : Int)) (u8z ((k : Int) / 256)) i (Sgn.dig d i)) = f := ⟨_, rfl⟩
  have HFX := Lib.hid hfx
  rw [hfx]
  clear hfx HF1
  have gx := ho.wts
  clear ho
  go_wp2_with (refine wpList_allocTo 10 rfl rfl _ rfl sig_zero ?_; intro Xp0 a_bx hb0 hz0; refine Hid.out ?_)
  unfold Hid
  try simp only [Act.put, List.setIfInBounds_toArray, List.set_cons_zero, List.set_cons_succ]
  obtain ⟨bx, e_bx⟩ : ∃ a, W1.heap.size = a := ⟨_, rfl⟩
  have s_bx : W1.heap.size ≤ bx := by omega
  have hb := hb0
  rw [e_bx] at a_bx hz0 ⊢
  clear hb0
  have hz : bx < Xp0.heap.size := by omega
  clear e_bx hz0
  go_wp2_with (refine wpList_storeB rfl rfl _ (.tmp 10) _ rfl (b := bx) (q := 0) rfl (n := 20) (v := sigV (k : Int) fx xx 1 cx) rfl a_bx (fun j _ => sig_one _ _ _ _ _ j) sig_size ?_; intro Yp0 t1; refine Hid.out ?_)
  unfold Hid
  replace hb := t1.below _ _ (by omega) hb
  replace a_bx := t1.blk
  rw [← t1.size] at hz
  clear t1
  replace gx := gx.later hb
  replace hB := thru hB hb
  clear hb hz

  go_wp2_with fail
  refine (sign_ok seed 1 k e (by omega) hkp _).mono ?_
  rintro e' W2 ⟨xy, cy, rfl, ho, hb⟩
  obtain ⟨fy, hfy⟩ : ∃ f, (fun i => Sgn.val seed (u8z (k : Int)) (u8z ((k : Int) / 256)) i (Sgn.dig e i)) = f := ⟨_, rfl⟩
  have HFY := Lib.hid hfy
  rw [hfy]
  replace hB := thru hB hb
  replace gx := gx.later hb
  replace a_bx := a_bx.later hb
  have gy := ho.wts
  clear hfy ho hb
  go_wp2_with (refine wpList_allocTo 12 rfl rfl _ rfl sig_zero ?_; intro Xq0 a_by2 hb0 hz0; refine Hid.out ?_)
  unfold Hid
  try simp only [Act.put, List.setIfInBounds_toArray, List.set_cons_zero, List.set_cons_succ]
  obtain ⟨by2, e_by2⟩ : ∃ a, W2.heap.size = a := ⟨_, rfl⟩
  have s_by2 : W2.heap.size ≤ by2 := by omega
  have hb := hb0
  rw [e_by2] at a_by2 hz0 ⊢
  clear hb0
  have hz : by2 < Xq0.heap.size := by omega
  clear e_by2 hz0
  go_wp2_with (refine wpList_storeB rfl rfl _ (.tmp 12) _ rfl (b := by2) (q := 0) rfl (n := 20) (v := sigV (k : Int) fy xy 1 cy) rfl a_by2 (fun j _ => sig_one _ _ _ _ _ j) sig_size ?_; intro Yq0 t1; refine Hid.out ?_)
  unfold Hid
  replace hb := t1.below _ _ (by omega) hb
  replace a_by2 := t1.blk
  rw [← t1.size] at hz
  clear t1
  replace gx := gx.later hb
  replace gy := gy.later hb
  replace a_bx := a_bx.later hb
  replace hB := thru hB hb
  clear hb hz

  go_wp2_with fail
  refine (root_ok seed 1 (by omega) _).mono ?_
  rintro e' W3 ⟨rfl, hb⟩
  replace hB := thru hB hb
  replace gx := gx.later hb
  replace gy := gy.later hb
  replace a_bx := a_bx.later hb
  replace a_by2 := a_by2.later hb
  clear hb
  go_wp2_with fail
  refine (digits_any d _).mono ?_
  rintro e' W4 ⟨rfl, hb⟩
  replace hB := thru hB hb
  replace gx := gx.later hb
  replace gy := gy.later hb
  replace a_bx := a_bx.later hb
  replace a_by2 := a_by2.later hb
  clear hb
  go_wp2_with fail
  refine (digits_any e _).mono ?_
  rintro e' W5 ⟨rfl, hb⟩
  replace hB := thru hB hb
  replace gx := gx.later hb
  replace gy := gy.later hb
  replace a_bx := a_bx.later hb
  replace a_by2 := a_by2.later hb
  clear hb
  go_wp2_with (refine wpList_allocTo 16 rfl rfl _ rfl arrI_zero ?_; intro Xr0 a_ba hb0 hz0; refine Hid.out ?_)
  unfold Hid
  try simp only [Act.put, List.setIfInBounds_toArray, List.set_cons_zero, List.set_cons_succ]
  obtain ⟨ba, e_ba⟩ : ∃ a, W5.heap.size = a := ⟨_, rfl⟩
  have s_ba : W5.heap.size ≤ ba := by omega
  have hb := hb0
  rw [e_ba] at a_ba hz0 ⊢
  clear hb0
  go_wp2_with (refine wpList_allocTo 17 rfl rfl _ rfl arrI_zero ?_; intro Xr1 a_be hb1 hz1; refine Hid.out ?_)
  unfold Hid
  try simp only [Act.put, List.setIfInBounds_toArray, List.set_cons_zero, List.set_cons_succ]
  obtain ⟨be, e_be⟩ : ∃ a, Xr0.heap.size = a := ⟨_, rfl⟩
  have s_be : W5.heap.size ≤ be := by omega
  have s_babe : ba < be := by omega
  replace hb := thru hb hb1
  replace a_ba := a_ba.later hb1
  rw [e_be] at a_be hz1 ⊢
  clear hb1
  have hz : ba < Xr1.heap.size ∧ be < Xr1.heap.size := by omega
  clear e_ba hz0 e_be hz1
  go_wp2_with (refine wpList_storeB rfl rfl _ (.tmp 16) _ rfl (b := ba) (q := 0) rfl (n := 18) (v := digV d) (aggN_arr _).symm a_ba (fun _ _ => rfl) arrI_size ?_; intro Yr0 t1; refine Hid.out ?_)
  unfold Hid
  replace hb := t1.below _ _ (by omega) hb
  replace a_ba := t1.blk
  replace a_be := t1.other (.inl (by omega)) a_be
  rw [← t1.size] at hz
  clear t1
  go_wp2_with (refine wpList_storeB rfl rfl _ (.tmp 17) _ rfl (b := be) (q := 0) rfl (n := 18) (v := digV e) (aggN_arr _).symm a_be (fun _ _ => rfl) arrI_size ?_; intro Yr1 t1; refine Hid.out ?_)
  unfold Hid
  replace hb := t1.below _ _ (by omega) hb
  replace a_be := t1.blk
  replace a_ba := t1.other (.inl (by omega)) a_ba
  rw [← t1.size] at hz
  clear t1
  replace gx := gx.later hb
  replace gy := gy.later hb
  replace a_bx := a_bx.later hb
  replace a_by2 := a_by2.later hb
  replace hB := thru hB hb
  clear hb hz

  clear s_bx s_by2 s_ba s_be s_babe
  obtain ⟨Y, hY⟩ : ∃ Y, Yr1 = Y := ⟨_, rfl⟩
  rw [hY] at gx gy a_bx a_by2 a_ba a_be hB ⊢
  clear hY
  have GX := Lib.hid gx
  have GY := Lib.hid gy
  have AX := Lib.hid a_bx
  have AY := Lib.hid a_by2
  have AA := Lib.hid a_ba
  have AE := Lib.hid a_be
  clear gx gy a_bx a_by2 a_ba a_be
  obtain ⟨rt, hrt⟩ : ∃ y, Sgn.node seed 1 0 = y := ⟨_, rfl⟩
  have HRT := Lib.hid hrt
  rw [hrt]
  clear hrt
  go_wp2_with fail
  go_loopw [54] (fun u54 wr => ∃ i : Nat, i ≤ 18 ∧ u54 = .int .i64 (i : Int) ∧ Below Y.heap.size Y wr) (fun u54 _ => 18 - (intOf u54).toNat)
  case atStart => exact ⟨0, by omega, rfl, Below.refl _ _⟩
  case round =>
    obtain ⟨i, hi, rfl, hBr⟩ := hrel
    by_cases hlt : i < 18
    · have hki : decide ((i : Int) < 18) = true := by simp; omega
      have k1 : Y.cell? ⟨ba, i, none⟩ = some (.int .i64 ((Sgn.dig d i : Nat) : Int)) := (AA.out.at i hlt).1
      have k2 : Y.cell? ⟨be, i, none⟩ = some (.int .i64 ((Sgn.dig e i : Nat) : Int)) := (AE.out.at i hlt).1
      have k3 : Y.cell? ⟨by2, 1 + i, none⟩ = some (.int .u64 (num (fy i))) := (AY.out.chain i hlt).1
      have k4 : Y.cell? ⟨bx, 1 + i, none⟩ = some (.int .u64 (num (fx i))) := (AX.out.chain i hlt).1
      have hva : fx i = Sgn.val seed (u8z (k : Int)) (u8z ((k : Int) / 256)) i (Sgn.dig d i) := by rw [← HFX.out]
      have hvb : fy i = Sgn.val seed (u8z (k : Int)) (u8z ((k : Int) / 256)) i (Sgn.dig e i) := by rw [← HFY.out]
      have ha15 := Sgn.dig_le d i
      have hb15 := Sgn.dig_le e i
      obtain ⟨a, ha⟩ : ∃ a, Sgn.dig d i = a := ⟨_, rfl⟩
      obtain ⟨b, hb⟩ : ∃ a, Sgn.dig e i = a := ⟨_, rfl⟩
      obtain ⟨va, hva2⟩ : ∃ a, fx i = a := ⟨_, rfl⟩
      obtain ⟨vb, hvb2⟩ : ∃ a, fy i = a := ⟨_, rfl⟩
      rw [ha] at k1 hva ha15
      rw [hb] at k2 hvb hb15
      rw [hva2] at k4 hva
      rw [hvb2] at k3 hvb
      have HAB : Hid (a ≤ b → Sgn.adv (UInt8.ofNat i) a (b - a) va = vb) := fun h => by rw [hva, ← Sgn.val_add, hvb, show a + (b - a) = b by omega]
      clear ha hb hva2 hvb2 hva hvb
      have c1 := later hBr k1
      have c4 := later hBr k4
      have K1 := Lib.hid k1
      have K2 := Lib.hid k2
      have K3 := Lib.hid k3
      clear k1 k2 k3 k4
      go_wp2_with fail
      clear c4 c1
      go_loopw [19, 20] (fun u19 u20 W' => ∃ t : Nat, (a + t ≤ b ∨ t = 0) ∧ u20 = .int .i64 ((a + t : Nat) : Int) ∧ u19 = .int .u64 (num (Sgn.adv (UInt8.ofNat i) a t va)) ∧ Below Y.heap.size Y W') (fun _ u20 _ => 16 - (intOf u20).toNat)
      case atStart => exact ⟨0, .inr rfl, rfl, rfl, hBr⟩
      case round =>
        obtain ⟨t, ht, rfl, rfl, hBs⟩ := hrel
        have c2 := later hBs K2.out
        have HT : Hid (Sgn.adv (UInt8.ofNat i) a (t + 1) va = Sgn.stepS (UInt8.ofNat i) (UInt8.ofNat (a + t)) (Sgn.adv (UInt8.ofNat i) a t va)) := rfl
        obtain ⟨z, hz⟩ : ∃ z, Sgn.adv (UInt8.ofNat i) a t va = z := ⟨_, rfl⟩
        have HZ := Lib.hid hz
        obtain ⟨m, hm⟩ : ∃ m, a + t = m := ⟨_, rfl⟩
        have HM := Lib.hid hm
        rw [hz, hm] at HT
        rw [hm] at ht
        rw [hz, hm]
        have HT2 := Lib.hid ht
        clear hz ht
        by_cases hmb : m < b
        · have hd : decide (m < b) = true := decide_eq_true hmb
          have hm15 : m ≤ 15 := by omega
          clear hm hmb
          go_wp2_with fail
          refine (step_any (i : Int) (m : Int) z _).mono ?_
          rintro e' W6 ⟨rfl, hb⟩
          rw [u8z_nat, u8z_nat, ← HT.out]
          replace hBs := thru hBs hb
          clear hb c2
          go_wp2_with fail
          exact ⟨⟨t + 1, by have := HM.out; have := HT2.out; have : m < b := by simpa using hd
                            omega, by have := HM.out; congr 1; omega, rfl, hBs⟩, by simp [intOf]; omega⟩
        · have hd : decide (m < b) = false := decide_eq_false hmb
          have HMB := Lib.hid hmb
          have hm15 : m ≤ 15 := by
            rcases HT2.out with h | h
            · omega
            · omega
          clear hm hmb
          have c1 := later hBs K1.out
          have c3 := later hBs K3.out
          by_cases hab : a ≤ b
          · have hE : z = vb := by
              have h1 := HMB.out
              have h2 := HT2.out
              have h3 := HM.out
              rw [← HZ.out, ← HAB.out hab, show t = b - a by omega]
            have hle : decide (a ≤ b) = true := decide_eq_true hab
            subst hE
            clear hab
            go_wp2_with fail
            refine wp_region_sched (fun W => W.cell? ⟨ba, i, none⟩ = some (.int .i64 (a : Int)) ∧ W.cell? ⟨be, i, none⟩ = some (.int .i64 (b : Int)) ∧ W.cell? ⟨by2, 1 + i, none⟩ = some (.int .u64 (num z)) ∧ Below Y.heap.size Y W) (.done [0, 1, 2, 3, 4, 5, 6, 7, 8, 9, 10, 11, 12, 13, 14]) (by kernel_rfl) (by kernel_rfl) (fun _ _ _ _ _ h => h) ⟨(by go_simp), (by go_simp), (by go_simp), hBs.drew⟩ ?_
            clear c1 c2 c3 hBs
            rintro V ⟨c1, c2, c3, hBs⟩
            rw [wpSched]
            simp only [pick, List.map_cons, List.map_nil, Array.getD_eq_getD_getElem?, List.getElem?_toArray, List.getElem?_cons_succ, List.getElem?_cons_zero, Option.getD_some]
            have kc1 := plusW_cell c1
            have kc2 := plusW_cell c2
            have kc3 := plusW_cell c3
            repeat (first | go_big_quiet_step (fail) | quiet_step (fail))
            refine wpQuiet_nil ?_
            clear kc1 kc2 kc3
            go_wp2_with fail
            exact ⟨⟨i + 1, by omega, by go_num, hBs⟩, by simp [intOf]; omega⟩
          · have hle : decide (a ≤ b) = false := decide_eq_false hab
            clear hab
            go_wp2_with fail
            refine wp_region_sched (fun W => W.cell? ⟨ba, i, none⟩ = some (.int .i64 (a : Int)) ∧ W.cell? ⟨be, i, none⟩ = some (.int .i64 (b : Int)) ∧ W.cell? ⟨by2, 1 + i, none⟩ = some (.int .u64 (num vb)) ∧ Below Y.heap.size Y W) (.done [0, 1, 2, 3, 4, 5, 6, 7, 8, 9, 10, 11, 12, 13, 14]) (by kernel_rfl) (by kernel_rfl) (fun _ _ _ _ _ h => h) ⟨(by go_simp), (by go_simp), (by go_simp), hBs.drew⟩ ?_
            clear c1 c2 c3 hBs
            rintro V ⟨c1, c2, c3, hBs⟩
            rw [wpSched]
            simp only [pick, List.map_cons, List.map_nil, Array.getD_eq_getD_getElem?, List.getElem?_toArray, List.getElem?_cons_succ, List.getElem?_cons_zero, Option.getD_some]
            have kc1 := plusW_cell c1
            have kc2 := plusW_cell c2
            have kc3 := plusW_cell c3
            repeat (first | go_big_quiet_step (fail) | quiet_step (fail))
            refine wpQuiet_nil ?_
            clear kc1 kc2 kc3
            go_wp2_with fail
            exact ⟨⟨i + 1, by omega, by go_num, hBs⟩, by simp [intOf]; omega⟩
    · obtain rfl : i = 18 := by omega
      rw [show ((18 : Nat) : Int) = 18 from rfl]
      have hpx := path_one seed k hk2
      have HVX : ∀ W, Wts W xx (Sgn.path seed 1 k) → Calls Try.prog 23 #[.int .u64 (num rt), .int .i64 1, .int .u64 (num d), aggN 20 (sigV (k : Int) fx xx 1 cx)] W fun e w' => e = .returned (.bool true) ∧ Below W.heap.size W w' := fun W h => by
        have h1 := verify_yes rt d k fx (Sgn.path seed 1 k) xx cx W h (by rw [Sgn.path_length]; omega) (by rw [Sgn.path_length]; exact hkp)
        rw [Sgn.path_length, ← HFX.out, vfy_sign seed 1 k d hkp, HRT.out, beq_self_eq_true, HFX.out] at h1
        exact h1
      have HVY : ∀ W, Wts W xy (Sgn.path seed 1 k) → Calls Try.prog 23 #[.int .u64 (num rt), .int .i64 1, .int .u64 (num e), aggN 20 (sigV (k : Int) fy xy 1 cy)] W fun e w' => e = .returned (.bool true) ∧ Below W.heap.size W w' := fun W h => by
        have h1 := verify_yes rt e k fy (Sgn.path seed 1 k) xy cy W h (by rw [Sgn.path_length]; omega) (by rw [Sgn.path_length]; exact hkp)
        rw [Sgn.path_length, ← HFY.out, vfy_sign seed 1 k e hkp, HRT.out, beq_self_eq_true, HFY.out] at h1
        exact h1
      obtain ⟨bq, oq, hxx, kq⟩ := GX.out.cell 0 (by rw [Sgn.path_length]; omega)
      rw [hpx] at kq
      obtain ⟨y, hy⟩ : ∃ y, Sgn.pub seed (u8z (1 - (k : Int))) (u8z ((1 - (k : Int)) / 256)) = y := ⟨_, rfl⟩
      have HY := Lib.hid hy
      rw [hy] at kq
      have kx : Y.cell? ⟨bx, 19, none⟩ = some (.slice xx 1 cx) := (AX.out.at 19 (by omega)).1
      subst hxx
      clear hpx hy HFX HFY HRT AA AE
      go_wp2_with fail
      refine (Public_any seed (1 - (k : Int)) _).mono ?_
      rintro e' W6 ⟨rfl, hb⟩
      rw [HY.out]
      replace hBr := thru hBr hb
      have c1 := later hBr kx
      have c2 := later hBr kq
      rw [Nat.add_zero] at c2
      have lx := run_loadS (AX.out.later hBr)
      clear hb kx kq
      go_wp2_with (refine wpList_loadN_w rfl _ _ rfl (b := bx) (q := 0) rfl lx ?_)
      refine (HVX _ (GX.out.later hBr)).mono ?_
      rintro e' W7 ⟨rfl, hb⟩
      replace hBr := thru hBr hb
      have ly := run_loadS (AY.out.later hBr)
      clear hb c1 c2 lx
      go_wp2_with (refine wpList_loadN_w rfl _ _ rfl (b := by2) (q := 0) rfl ly ?_)
      refine (HVY _ (GY.out.later hBr)).mono ?_
      rintro e' W8 ⟨rfl, hb⟩
      replace hBr := thru hBr hb
      clear hb ly
      go_wp2_with fail
      refine (awake_any _).mono ?_
      rintro e' W9 ⟨rfl, hb⟩
      go_wp2_with fail
      go_ret
      exact ⟨rfl, thru (thru hB hBr) hb⟩

end Go.Proofs.Ytjpicnfkmfjnoaa
