/- LAW SignTells. -/
import Derived.Test.YtjpicnfkmfjnoaaSgnW
import Derived.Test.YtjpicnfkmfjnoaaSgnT
namespace Go.Proofs.Ytjpicnfkmfjnoaa
open Go.RowKit

section
variable {P : Program} {ops : Array Oper} {o : Oper} {a : Act} {w : World} {Q : Exit → Act → World → Prop}
theorem wp_loadN {K : Act → World → Prop} (t : TypeId) (p : Operand) (ho : o.op = .load t p) {b q : Nat} (hp : a.eval p = .pointer (some ⟨b, q, none⟩)) {v : Value} (hrun : (loadVar t ⟨b, q, none⟩).run P w = .ok v w)
    (h : K (a.put o.dst v) w) : o.wp P a w K Q := by
  unfold Oper.wp
  simp [execOp, ho, hp, Instr.loadAt, Instr.sureAddr, hrun, Result.andThen]
  exact h
end
theorem int_under : Try.prog.underlying 3 = some (.int .i64) := by kernel_rfl
theorem int_size : (Try.prog.info? 3).map (·.size) = some 1 := by kernel_rfl
theorem arrI_guard : Try.prog.eqGuardType Try.prog.depth 24 = false := by kernel_rfl
set_option maxRecDepth 20000 in
set_option maxHeartbeats 4000000 in
theorem tells_law (seed : D64) (h q : Int) (d : D64) (i k : Int) (w : World) : Calls Try.prog 3 #[.int .u64 (num seed), .int .i64 h, .int .i64 q, .int .u64 (num d), .int .i64 i, .int .i64 k] w (YesOf w) := by
  have hq : eqUpTo (fun j => ((Sgn.dig d j : Nat) : Int)) (fun j => ((Sgn.dig d j : Nat) : Int)) 0 18 = true := (eqUpTo_iff _ _ _ _).2 fun _ _ _ => rfl
  by_cases hA : 3 < h ∧ h ≤ 6
  · have d3 : decide (3 < h) = true := decide_eq_true hA.1
    have d6 : decide (h ≤ 6) = true := decide_eq_true hA.2
    clear hA hq
    go_enter Try.func3, Try.ntmps3
    go_wp2_with fail
    refine (awake_any _).mono ?_
    rintro e w' ⟨rfl, hb⟩
    go_wp2_with fail
    go_ret
    exact ⟨rfl, hb⟩
  · by_cases hB0 : h < 0 ∨ 6 < h
    · have hv0 : vldS h 0 = false := by unfold vldS; exact decide_eq_false (by omega)
      have hvq : vldS h q = false := by unfold vldS; exact decide_eq_false (by omega)
      have h36 : (decide (3 < h) = false) ∨ (decide (3 < h) = true ∧ decide (h ≤ 6) = false) := by
        rcases hB0 with hb | hb
        · exact .inl (decide_eq_false (by omega))
        · exact .inr ⟨decide_eq_true (by omega), decide_eq_false (by omega)⟩
      have hrv := refValid_any h 0
      rw [hv0] at hrv
      clear hA hB0
      rcases h36 with d3 | ⟨d3, d6⟩
      · go_enter Try.func3, Try.ntmps3
        go_wp2_with fail
        refine (digits_any d _).mono ?_
        rintro e W1 ⟨rfl, hb⟩
        have hB := hb
        clear hb
        go_wp2_with fail
        refine (refDigits_any d _).mono ?_
        rintro e W2 ⟨rfl, hb⟩
        replace hB := thru hB hb
        clear hb
        go_wp2_with (refine wpList_neqA rfl _ _ _ _ rfl (aggN_arr _).symm (aggN_arr _).symm arrI_underlying int_under int_size arrI_guard ?_; rw [hq])
        clear hq
        refine (step_any i k d _).mono ?_
        rintro e W3 ⟨rfl, hb⟩
        replace hB := thru hB hb
        clear hb
        go_wp2_with fail
        refine (refStep_any i k d _).mono ?_
        rintro e W4 ⟨rfl, hb⟩
        replace hB := thru hB hb
        clear hb
        go_wp2_with fail
        refine (Public_any seed q _).mono ?_
        rintro e W5 ⟨rfl, hb⟩
        replace hB := thru hB hb
        clear hb
        go_wp2_with fail
        refine (refPublic_any seed q _).mono ?_
        rintro e W6 ⟨rfl, hb⟩
        replace hB := thru hB hb
        clear hb
        go_wp2_with fail
        refine (root_bad seed h hv0 _).mono ?_
        rintro e W7 ⟨rfl, hb⟩
        replace hB := thru hB hb
        clear hb
        go_wp2_with fail
        refine (sign_bad seed h q d hvq _).mono ?_
        rintro e W8 ⟨rfl, hb⟩
        replace hB := thru hB hb
        clear hb
        go_wp2_with (refine wpList_allocTo 15 rfl rfl _ rfl sig_zero ?_; intro Xp0 a_b15 hb0 hz0; refine Hid.out ?_)
        unfold Hid
        try simp only [Act.put, List.setIfInBounds_toArray, List.set_cons_zero, List.set_cons_succ]
        obtain ⟨b15, e_b15⟩ : ∃ a, W8.heap.size = a := ⟨_, rfl⟩
        have s_b15 : W8.heap.size ≤ b15 := by omega
        have hb := hb0
        rw [e_b15] at a_b15 hz0 ⊢
        clear hb0
        have hz : b15 < Xp0.heap.size := by omega
        clear e_b15 hz0
        go_wp2_with (refine wpList_storeB rfl rfl _ (.tmp 15) _ rfl (b := b15) (q := 0) rfl (n := 20) (v := zeroS) rfl a_b15 (fun j _ => sig_one _ _ _ _ _ j) sig_size ?_; intro Yp0 t1; refine Hid.out ?_)
        unfold Hid
        replace hb := t1.below _ _ (by omega) hb
        replace a_b15 := t1.blk
        rw [← t1.size] at hz
        clear t1
        replace hB := thru hB hb
        clear hb hz
        go_wp2_with fail
        refine (hrv _).mono ?_
        rintro e W9 ⟨rfl, hw⟩
        obtain rfl : Yp0 = W9 := hw.symm
        clear hw hrv
        have l15 := run_loadS a_b15
        clear a_b15
        go_wp2_with (refine wpList_loadN_w rfl _ (.tmp 15) rfl (b := b15) (q := 0) rfl l15 ?_)
        refine (same_zero _).mono ?_
        rintro e W10 ⟨rfl, hb⟩
        replace hB := thru hB hb
        clear hb
        clear l15
        go_wp2_with fail
        refine (awake_any _).mono ?_
        rintro e W11 ⟨rfl, hb⟩
        replace hB := thru hB hb
        clear hb
        go_wp2_with fail
        go_ret
        exact ⟨rfl, hB⟩
      · go_enter Try.func3, Try.ntmps3
        go_wp2_with fail
        refine (digits_any d _).mono ?_
        rintro e W1 ⟨rfl, hb⟩
        have hB := hb
        clear hb
        go_wp2_with fail
        refine (refDigits_any d _).mono ?_
        rintro e W2 ⟨rfl, hb⟩
        replace hB := thru hB hb
        clear hb
        go_wp2_with (refine wpList_neqA rfl _ _ _ _ rfl (aggN_arr _).symm (aggN_arr _).symm arrI_underlying int_under int_size arrI_guard ?_; rw [hq])
        clear hq
        refine (step_any i k d _).mono ?_
        rintro e W3 ⟨rfl, hb⟩
        replace hB := thru hB hb
        clear hb
        go_wp2_with fail
        refine (refStep_any i k d _).mono ?_
        rintro e W4 ⟨rfl, hb⟩
        replace hB := thru hB hb
        clear hb
        go_wp2_with fail
        refine (Public_any seed q _).mono ?_
        rintro e W5 ⟨rfl, hb⟩
        replace hB := thru hB hb
        clear hb
        go_wp2_with fail
        refine (refPublic_any seed q _).mono ?_
        rintro e W6 ⟨rfl, hb⟩
        replace hB := thru hB hb
        clear hb
        go_wp2_with fail
        refine (root_bad seed h hv0 _).mono ?_
        rintro e W7 ⟨rfl, hb⟩
        replace hB := thru hB hb
        clear hb
        go_wp2_with fail
        refine (sign_bad seed h q d hvq _).mono ?_
        rintro e W8 ⟨rfl, hb⟩
        replace hB := thru hB hb
        clear hb
        go_wp2_with (refine wpList_allocTo 15 rfl rfl _ rfl sig_zero ?_; intro Xp0 a_b15 hb0 hz0; refine Hid.out ?_)
        unfold Hid
        try simp only [Act.put, List.setIfInBounds_toArray, List.set_cons_zero, List.set_cons_succ]
        obtain ⟨b15, e_b15⟩ : ∃ a, W8.heap.size = a := ⟨_, rfl⟩
        have s_b15 : W8.heap.size ≤ b15 := by omega
        have hb := hb0
        rw [e_b15] at a_b15 hz0 ⊢
        clear hb0
        have hz : b15 < Xp0.heap.size := by omega
        clear e_b15 hz0
        go_wp2_with (refine wpList_storeB rfl rfl _ (.tmp 15) _ rfl (b := b15) (q := 0) rfl (n := 20) (v := zeroS) rfl a_b15 (fun j _ => sig_one _ _ _ _ _ j) sig_size ?_; intro Yp0 t1; refine Hid.out ?_)
        unfold Hid
        replace hb := t1.below _ _ (by omega) hb
        replace a_b15 := t1.blk
        rw [← t1.size] at hz
        clear t1
        replace hB := thru hB hb
        clear hb hz
        go_wp2_with fail
        refine (hrv _).mono ?_
        rintro e W9 ⟨rfl, hw⟩
        obtain rfl : Yp0 = W9 := hw.symm
        clear hw hrv
        have l15 := run_loadS a_b15
        clear a_b15
        go_wp2_with (refine wpList_loadN_w rfl _ (.tmp 15) rfl (b := b15) (q := 0) rfl l15 ?_)
        refine (same_zero _).mono ?_
        rintro e W10 ⟨rfl, hb⟩
        replace hB := thru hB hb
        clear hb
        clear l15
        go_wp2_with fail
        refine (awake_any _).mono ?_
        rintro e W11 ⟨rfl, hb⟩
        replace hB := thru hB hb
        clear hb
        go_wp2_with fail
        go_ret
        exact ⟨rfl, hB⟩
    · obtain ⟨n, rfl⟩ : ∃ n : Nat, h = (n : Int) := ⟨h.toNat, by omega⟩
      have hn3 : n ≤ 3 := by omega
      have d3 : decide ((3 : Int) < (n : Int)) = false := decide_eq_false (by omega)
      have d3n : decide (3 < n) = false := decide_eq_false (by omega)
      have hv0 : vldS (n : Int) 0 = true := by
        unfold vldS
        refine decide_eq_true ⟨by omega, by omega, by omega, ?_⟩
        rw [Int.toNat_natCast]
        have : (0 : Int) < ((2 ^ n : Nat) : Int) := by exact_mod_cast Nat.two_pow_pos n
        simpa using this
      have hrv := refValid_any (n : Int) 0
      rw [hv0] at hrv
      have hrq := refValid_any (n : Int) q
      have hro := root_ok seed n (by omega)
      have hno := fun W => refNode_any seed n 0 W (by omega) (by have : 2 ^ n ≤ 64 := pow6 (show n ≤ 6 by omega); omega)
      obtain ⟨r, hr⟩ : ∃ r, Sgn.node seed n 0 = r := ⟨_, rfl⟩
      rw [hr] at hro hno
      clear hA hB0 hv0 hr
      cases hvq : vldS (n : Int) q with
      | false =>
        rw [hvq] at hrq
        go_enter Try.func3, Try.ntmps3
        go_wp2_with fail
        refine (digits_any d _).mono ?_
        rintro e W1 ⟨rfl, hb⟩
        have hB := hb
        clear hb
        go_wp2_with fail
        refine (refDigits_any d _).mono ?_
        rintro e W2 ⟨rfl, hb⟩
        replace hB := thru hB hb
        clear hb
        go_wp2_with (refine wpList_neqA rfl _ _ _ _ rfl (aggN_arr _).symm (aggN_arr _).symm arrI_underlying int_under int_size arrI_guard ?_; rw [hq])
        clear hq
        refine (step_any i k d _).mono ?_
        rintro e W3 ⟨rfl, hb⟩
        replace hB := thru hB hb
        clear hb
        go_wp2_with fail
        refine (refStep_any i k d _).mono ?_
        rintro e W4 ⟨rfl, hb⟩
        replace hB := thru hB hb
        clear hb
        go_wp2_with fail
        refine (Public_any seed q _).mono ?_
        rintro e W5 ⟨rfl, hb⟩
        replace hB := thru hB hb
        clear hb
        go_wp2_with fail
        refine (refPublic_any seed q _).mono ?_
        rintro e W6 ⟨rfl, hb⟩
        replace hB := thru hB hb
        clear hb
        go_wp2_with fail
        refine (hro _).mono ?_
        rintro e W7 ⟨rfl, hb⟩
        replace hB := thru hB hb
        clear hb
        clear hro
        go_wp2_with fail
        refine (sign_bad seed (n : Int) q d hvq _).mono ?_
        rintro e W8 ⟨rfl, hb⟩
        replace hB := thru hB hb
        clear hb
        go_wp2_with (refine wpList_allocTo 15 rfl rfl _ rfl sig_zero ?_; intro Xp0 a_b15 hb0 hz0; refine Hid.out ?_)
        unfold Hid
        try simp only [Act.put, List.setIfInBounds_toArray, List.set_cons_zero, List.set_cons_succ]
        obtain ⟨b15, e_b15⟩ : ∃ a, W8.heap.size = a := ⟨_, rfl⟩
        have s_b15 : W8.heap.size ≤ b15 := by omega
        have hb := hb0
        rw [e_b15] at a_b15 hz0 ⊢
        clear hb0
        have hz : b15 < Xp0.heap.size := by omega
        clear e_b15 hz0
        go_wp2_with (refine wpList_storeB rfl rfl _ (.tmp 15) _ rfl (b := b15) (q := 0) rfl (n := 20) (v := zeroS) rfl a_b15 (fun j _ => sig_one _ _ _ _ _ j) sig_size ?_; intro Yp0 t1; refine Hid.out ?_)
        unfold Hid
        replace hb := t1.below _ _ (by omega) hb
        replace a_b15 := t1.blk
        rw [← t1.size] at hz
        clear t1
        replace hB := thru hB hb
        clear hb hz
        go_wp2_with fail
        refine (hrv _).mono ?_
        rintro e W9 ⟨rfl, hw⟩
        obtain rfl : Yp0 = W9 := hw.symm
        clear hw hrv
        go_wp2_with fail
        refine (hno _).mono ?_
        rintro e W12 ⟨rfl, hb⟩
        have hb0 := hb
        replace hB := thru hB hb
        clear hb
        replace a_b15 := a_b15.later hb0
        clear hb0 hno
        go_wp2_with fail
        refine (hrq _).mono ?_
        rintro e W13 ⟨rfl, hw⟩
        obtain rfl : W12 = W13 := hw.symm
        clear hw hrq
        have l15 := run_loadS a_b15
        clear a_b15
        go_wp2_with (refine wpList_loadN_w rfl _ (.tmp 15) rfl (b := b15) (q := 0) rfl l15 ?_)
        refine (same_zero _).mono ?_
        rintro e W10 ⟨rfl, hb⟩
        replace hB := thru hB hb
        clear hb
        clear l15
        go_wp2_with fail
        refine (awake_any _).mono ?_
        rintro e W11 ⟨rfl, hb⟩
        replace hB := thru hB hb
        clear hb
        go_wp2_with fail
        go_ret
        exact ⟨rfl, hB⟩
      | true =>
        rw [hvq] at hrq
        obtain ⟨m, rfl⟩ : ∃ m : Nat, q = (m : Int) := ⟨q.toNat, by unfold vldS at hvq; have := of_decide_eq_true hvq; omega⟩
        have hmq : m < 2 ^ n := by
          unfold vldS at hvq
          have h4 := (of_decide_eq_true hvq).2.2.2
          rw [Int.toNat_natCast] at h4
          have h5 : (m : Int) < ((2 ^ n : Nat) : Int) := by simpa using h4
          omega
        clear hvq
        go_enter Try.func3, Try.ntmps3
        go_wp2_with fail
        refine (digits_any d _).mono ?_
        rintro e W1 ⟨rfl, hb⟩
        have hB := hb
        clear hb
        go_wp2_with fail
        refine (refDigits_any d _).mono ?_
        rintro e W2 ⟨rfl, hb⟩
        replace hB := thru hB hb
        clear hb
        go_wp2_with (refine wpList_neqA rfl _ _ _ _ rfl (aggN_arr _).symm (aggN_arr _).symm arrI_underlying int_under int_size arrI_guard ?_; rw [hq])
        clear hq
        refine (step_any i k d _).mono ?_
        rintro e W3 ⟨rfl, hb⟩
        replace hB := thru hB hb
        clear hb
        go_wp2_with fail
        refine (refStep_any i k d _).mono ?_
        rintro e W4 ⟨rfl, hb⟩
        replace hB := thru hB hb
        clear hb
        go_wp2_with fail
        refine (Public_any seed (m : Int) _).mono ?_
        rintro e W5 ⟨rfl, hb⟩
        replace hB := thru hB hb
        clear hb
        go_wp2_with fail
        refine (refPublic_any seed (m : Int) _).mono ?_
        rintro e W6 ⟨rfl, hb⟩
        replace hB := thru hB hb
        clear hb
        go_wp2_with fail
        refine (hro _).mono ?_
        rintro e W7 ⟨rfl, hb⟩
        replace hB := thru hB hb
        clear hb
        clear hro
        go_wp2_with fail
        refine (sign_ok seed n m d (by omega) hmq _).mono ?_
        rintro e W8 ⟨xx, cx, rfl, ho, hb⟩
        replace hB := thru hB hb
        have hrs := fun W => refSign_ok seed n m d (by omega) hmq W
        obtain ⟨f, hf⟩ : ∃ f, (fun i => Sgn.val seed (u8z (m : Int)) (u8z ((m : Int) / 256)) i (Sgn.dig d i)) = f := ⟨_, rfl⟩
        rw [hf] at hrs
        rw [hf]
        have hpl := Sgn.path_length seed n m
        obtain ⟨p, hp⟩ : ∃ p, Sgn.path seed n m = p := ⟨_, rfl⟩
        rw [hp] at ho hpl hrs
        have gx := ho.wts
        have HS : ∀ (W : World) (xa xb : Option Addr) (ca cb : Nat), Wts W xa p → Wts W xb p → Calls Try.prog 20 #[aggN 20 (sigV (m : Int) f xa n ca), aggN 20 (sigV (m : Int) f xb n cb)] W (YesOf W) := fun W xa xb ca cb h1 h2 => by
          have := same_yes (m : Int) f f (fun _ _ => rfl) xa xb p ca cb W h1 h2 (by omega)
          rw [hpl] at this
          exact this
        have HS2 := Lib.hid HS
        clear hf hp ho hb HS hpl
        go_wp2_with (refine wpList_allocTo 15 rfl rfl _ rfl sig_zero ?_; intro Xp0 a_b15 hb0 hz0; refine Hid.out ?_)
        unfold Hid
        try simp only [Act.put, List.setIfInBounds_toArray, List.set_cons_zero, List.set_cons_succ]
        obtain ⟨b15, e_b15⟩ : ∃ a, W8.heap.size = a := ⟨_, rfl⟩
        have s_b15 : W8.heap.size ≤ b15 := by omega
        have hb := hb0
        rw [e_b15] at a_b15 hz0 ⊢
        clear hb0
        have hz : b15 < Xp0.heap.size := by omega
        clear e_b15 hz0
        go_wp2_with (refine wpList_storeB rfl rfl _ (.tmp 15) _ rfl (b := b15) (q := 0) rfl (n := 20) (v := sigV (m : Int) f xx n cx) rfl a_b15 (fun j _ => sig_one _ _ _ _ _ j) sig_size ?_; intro Yp0 t1; refine Hid.out ?_)
        unfold Hid
        replace hb := t1.below _ _ (by omega) hb
        replace a_b15 := t1.blk
        rw [← t1.size] at hz
        clear t1
        replace gx := gx.later hb
        replace hB := thru hB hb
        clear hb hz
        go_wp2_with fail
        refine (hrv _).mono ?_
        rintro e W9 ⟨rfl, hw⟩
        obtain rfl : Yp0 = W9 := hw.symm
        clear hw hrv
        go_wp2_with fail
        refine (hno _).mono ?_
        rintro e W12 ⟨rfl, hb⟩
        replace a_b15 := a_b15.later hb
        replace gx := gx.later hb
        replace hB := thru hB hb
        clear hb hno
        go_wp2_with fail
        refine (hrq _).mono ?_
        rintro e W13 ⟨rfl, hw⟩
        obtain rfl : W12 = W13 := hw.symm
        clear hw hrq
        go_wp2_with fail
        refine wp_region_sched (fun W => True ∧ Below W12.heap.size W12 W) (.two [0, 1, 2, 4, 5, 6, 7] 3 (.one [] 8 (.one [] 9 (.one [10, 11] 12 (.done [13, 14])))) 8 (.one [] 3 (.one [] 9 (.one [10, 11] 12 (.done [13, 14]))))) (by kernel_rfl) (by kernel_rfl) (fun _ _ _ _ _ h => h) ⟨trivial, (Below.refl _ _).drew⟩ ?_
        rintro V ⟨-, hWV⟩
        rw [wpSched]
        simp only [pick, List.map_cons, List.map_nil, Array.getD_eq_getD_getElem?, List.getElem?_toArray, List.getElem?_cons_succ, List.getElem?_cons_zero, Option.getD_some]
        repeat (first | go_big_quiet_step (fail) | quiet_step (fail))
        refine wpQuiet_nil ?_
        refine ⟨?_, ?_⟩
        · refine heavy_want (by rfl) (fun K' hK' => ?_)
          refine wp_loadN _ _ rfl (b := b15) (q := 0) rfl (run_loadS (a_b15.later hWV)) (hK' _ _ (Below.refl _ _) ?_)
          clear hK' K'
          try simp only [Act.put, List.setIfInBounds_toArray, List.set_cons_zero, List.set_cons_succ]
          rw [wpSched]
          simp only [pick, List.map_nil, Array.getD_eq_getD_getElem?, List.getElem?_toArray, List.getElem?_cons_succ, List.getElem?_cons_zero, Option.getD_some]
          refine wpQuiet_nil ?_
          refine heavy_want (by rfl) (fun K' hK' => ?_)
          go_simp
          refine (hrs _).mono ?_
          rintro e V1 ⟨xy, cy, rfl, ho, hb⟩
          refine hK' _ _ hb ?_
          clear hK' K'
          have gy := ho.wts
          replace hWV := thru hWV hb
          clear ho hb
          try simp only [Act.put, List.setIfInBounds_toArray, List.set_cons_zero, List.set_cons_succ]
          rw [wpSched]
          simp only [pick, List.map_nil, Array.getD_eq_getD_getElem?, List.getElem?_toArray, List.getElem?_cons_succ, List.getElem?_cons_zero, Option.getD_some]
          refine wpQuiet_nil ?_
          refine heavy_want (by rfl) (fun K' hK' => ?_)
          go_simp
          refine (HS2.out _ xx xy cx cy (gx.later hWV) gy).mono ?_
          rintro e V2 ⟨rfl, hb⟩
          refine hK' _ _ hb ?_
          clear hK' K'
          replace hWV := thru hWV hb
          clear hb gy
          try simp only [Act.put, List.setIfInBounds_toArray, List.set_cons_zero, List.set_cons_succ]
          rw [wpSched]
          simp only [pick, List.map_cons, List.map_nil, Array.getD_eq_getD_getElem?, List.getElem?_toArray, List.getElem?_cons_succ, List.getElem?_cons_zero, Option.getD_some]
          repeat (first | go_big_quiet_step (fail) | quiet_step (fail))
          refine wpQuiet_nil ?_
          refine heavy_want (by rfl) (fun K' hK' => ?_)
          go_simp
          refine (awake_any _).mono ?_
          rintro e V3 ⟨rfl, hb⟩
          refine hK' _ _ hb ?_
          clear hK' K'
          replace hWV := thru hWV hb
          clear hb
          try simp only [Act.put, List.setIfInBounds_toArray, List.set_cons_zero, List.set_cons_succ]
          rw [wpSched]
          simp only [pick, List.map_cons, List.map_nil, Array.getD_eq_getD_getElem?, List.getElem?_toArray, List.getElem?_cons_succ, List.getElem?_cons_zero, Option.getD_some]
          repeat (first | go_big_quiet_step (fail) | quiet_step (fail))
          refine wpQuiet_nil ?_
          go_wp2_with fail
          go_ret
          exact ⟨rfl, thru hB hWV⟩
        · refine heavy_want (by rfl) (fun K' hK' => ?_)
          go_simp
          refine (hrs _).mono ?_
          rintro e V1 ⟨xy, cy, rfl, ho, hb⟩
          refine hK' _ _ hb ?_
          clear hK' K'
          have gy := ho.wts
          replace hWV := thru hWV hb
          clear ho hb
          try simp only [Act.put, List.setIfInBounds_toArray, List.set_cons_zero, List.set_cons_succ]
          rw [wpSched]
          simp only [pick, List.map_nil, Array.getD_eq_getD_getElem?, List.getElem?_toArray, List.getElem?_cons_succ, List.getElem?_cons_zero, Option.getD_some]
          refine wpQuiet_nil ?_
          refine heavy_want (by rfl) (fun K' hK' => ?_)
          refine wp_loadN _ _ rfl (b := b15) (q := 0) rfl (run_loadS (a_b15.later hWV)) (hK' _ _ (Below.refl _ _) ?_)
          clear hK' K'
          try simp only [Act.put, List.setIfInBounds_toArray, List.set_cons_zero, List.set_cons_succ]
          rw [wpSched]
          simp only [pick, List.map_nil, Array.getD_eq_getD_getElem?, List.getElem?_toArray, List.getElem?_cons_succ, List.getElem?_cons_zero, Option.getD_some]
          refine wpQuiet_nil ?_
          refine heavy_want (by rfl) (fun K' hK' => ?_)
          go_simp
          refine (HS2.out _ xx xy cx cy (gx.later hWV) gy).mono ?_
          rintro e V2 ⟨rfl, hb⟩
          refine hK' _ _ hb ?_
          clear hK' K'
          replace hWV := thru hWV hb
          clear hb gy
          try simp only [Act.put, List.setIfInBounds_toArray, List.set_cons_zero, List.set_cons_succ]
          rw [wpSched]
          simp only [pick, List.map_cons, List.map_nil, Array.getD_eq_getD_getElem?, List.getElem?_toArray, List.getElem?_cons_succ, List.getElem?_cons_zero, Option.getD_some]
          repeat (first | go_big_quiet_step (fail) | quiet_step (fail))
          refine wpQuiet_nil ?_
          refine heavy_want (by rfl) (fun K' hK' => ?_)
          go_simp
          refine (awake_any _).mono ?_
          rintro e V3 ⟨rfl, hb⟩
          refine hK' _ _ hb ?_
          clear hK' K'
          replace hWV := thru hWV hb
          clear hb
          try simp only [Act.put, List.setIfInBounds_toArray, List.set_cons_zero, List.set_cons_succ]
          rw [wpSched]
          simp only [pick, List.map_cons, List.map_nil, Array.getD_eq_getD_getElem?, List.getElem?_toArray, List.getElem?_cons_succ, List.getElem?_cons_zero, Option.getD_some]
          repeat (first | go_big_quiet_step (fail) | quiet_step (fail))
          refine wpQuiet_nil ?_
          go_wp2_with fail
          go_ret
          exact ⟨rfl, thru hB hWV⟩

end Go.Proofs.Ytjpicnfkmfjnoaa
