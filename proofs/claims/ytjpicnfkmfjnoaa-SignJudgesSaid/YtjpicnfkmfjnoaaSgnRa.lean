/- WALKS of the reference of the sign layer: word, Decode. -/
import Derived.Test.YtjpicnfkmfjnoaaSgnW
import Derived.Test.YtjpicnfkmfjnoaaSgnQ
namespace Go.Proofs.Ytjpicnfkmfjnoaa
open Go.RowKit

theorem mul256 (x : D64) : IntKind.u64.wrap (256 * num x) = num (256#64 * x) := by
  unfold num
  rw [wrap64u, BitVec.toNat_mul]
  show (256 * (x.toNat : Int)) % 18446744073709551616 = ((256 % 2 ^ 64 * x.toNat % 2 ^ 64 : Nat) : Int)
  omega
theorem add_byte (x : D64) (v : UInt8) : IntKind.u64.wrap (num x + (v.toNat : Int)) = num (x + Dig.ofB v) := by
  rw [u8_num v, u64_add]
set_option maxHeartbeats 1000000 in
theorem refword_any (t : Nat) (l : List UInt8) (x : Option Addr) (c : Nat) (w : World) (hx : Bts w x l) (hi : t + 8 ≤ l.length ∧ t ≤ 250) :
    Calls Try.prog 50 #[.slice x l.length c, .int .i64 (t : Int)] w (NumOf (Sgn.wd l t 8) w) := by
  obtain ⟨g, o, rfl, hc⟩ := hx.at (by omega)
  have HC := Lib.hid hc
  obtain ⟨n, hn⟩ : ∃ n, l.length = n := ⟨_, rfl⟩
  have HN := Lib.hid hn
  rw [hn] at hi ⊢
  clear hx hn hc
  go_enter Try.func50, Try.ntmps50
  go_wp2_with fail
  go_loopw [5, 6] (fun u5 u6 wr => ∃ j : Nat, j ≤ 8 ∧ u6 = .int .i64 ((j : Int) - 1) ∧ u5 = .int .u64 (num (Sgn.wd l (t + j) (8 - j))) ∧ wr = w) (fun _ u6 _ => (intOf u6 + 1).toNat)
  case atStart => exact ⟨8, by omega, rfl, rfl, rfl⟩
  case round =>
    obtain ⟨j, hj, rfl, rfl, rfl⟩ := hrel
    by_cases h0 : j = 0
    · subst h0
      rw [show ((0 : Nat) : Int) - 1 = -1 from rfl, Nat.add_zero, Nat.sub_zero]
      go_wp2_with fail
      go_ret
      exact ⟨rfl, Below.refl _ _⟩
    · obtain ⟨i, hij⟩ : ∃ i, j = i + 1 := ⟨j - 1, by omega⟩
      subst hij
      rw [show ((i + 1 : Nat) : Int) - 1 = (i : Int) by omega]
      have hki : decide ((0 : Int) ≤ (i : Int)) = true := decide_eq_true (by omega)
      obtain ⟨m, hm⟩ : ∃ m, t + i = m := ⟨_, rfl⟩
      have hmI : (t : Int) + (i : Int) = (m : Int) := by omega
      have hmn : m < n := by omega
      have kc := HC.out m (by have := HN.out; omega)
      have hsn : Sgn.wd l m (8 - i) = 256#64 * Sgn.wd l (t + (i + 1)) (8 - (i + 1)) + Dig.ofB (l.getD m 0) := by
        rw [Sgn.horner, show 8 - i = (8 - (i + 1)) + 1 by omega, show t + (i + 1) = m + 1 by omega]
        rfl
      obtain ⟨v, hv⟩ : ∃ v, l.getD m 0 = v := ⟨_, rfl⟩
      rw [hv] at kc hsn
      obtain ⟨q, hq⟩ : ∃ q, Sgn.wd l (t + (i + 1)) (8 - (i + 1)) = q := ⟨_, rfl⟩
      rw [hq] at hsn ⊢
      have h256 := mul256 q
      have hadd := add_byte (256#64 * q) v
      obtain ⟨y, hy⟩ : ∃ y, 256#64 * q = y := ⟨_, rfl⟩
      rw [hy] at h256 hadd hsn
      obtain ⟨z, hz⟩ : ∃ z, y + Dig.ofB v = z := ⟨_, rfl⟩
      rw [hz] at hadd hsn
      have hwv : IntKind.u64.wrap (v.toNat : Int) = (v.toNat : Int) := by have := v.toNat_lt; rw [wrap64u]; omega
      have HS := Lib.hid hsn
      have HM := Lib.hid hm
      have hi8 : i ≤ 7 := by omega
      clear hm hv hy hz hq hsn h0 hj
      go_wp2_with fail
      exact ⟨⟨i, by omega, rfl, by rw [HM.out, HS.out], trivial⟩, by simp [intOf] <;> omega⟩
set_option maxRecDepth 20000 in
set_option maxHeartbeats 400000 in
theorem refDecode_no (x : Option Addr) (l : List UInt8) (c : Nat) (w : World) (hx : Bts w x l) (hn : decN l = false) : Calls Try.prog 31 #[.slice x l.length c] w fun e w' => e = .returned (.tuple #[aggN 20 zeroS, .int .i64 60]) ∧ Below w.heap.size w w' := by
  go_enter Try.func31, Try.ntmps31
  go_wp2_with (refine wpList_allocTo 2 rfl rfl _ rfl sig_zero ?_; intro X a_b hb0 hz0; refine Hid.out ?_)
  unfold Hid
  try simp only [Act.put, List.setIfInBounds_toArray, List.set_cons_zero, List.set_cons_succ]
  obtain ⟨a, ea⟩ : ∃ a, w.heap.size = a := ⟨_, rfl⟩
  have s_a : w.heap.size ≤ a := by omega
  have hB := hb0
  have hx1 : Bts X x l := hx.later hb0
  rw [ea] at a_b hz0 ⊢
  clear hb0 ea hx
  by_cases h2 : l.length < 146
  · have hd : decide ((l.length : Int) < 146) = true := by simp; omega
    have hd2 : decide (l.length < 146) = true := decide_eq_true h2
    obtain ⟨n, hnn⟩ : ∃ n, l.length = n := ⟨_, rfl⟩
    rw [hnn] at hd hd2 ⊢
    clear hn hx1 h2 hnn
    go_wp2_with fail
    refine wp_region_sched (fun W => True ∧ Below X.heap.size X W) (.one [0, 1, 2, 3, 4, 5, 6, 7, 8, 9, 10, 11] 12 (.done [13, 14, 15, 16, 17, 18, 19, 20, 21, 22, 23, 24, 25])) (by kernel_rfl) (by kernel_rfl) (fun _ _ _ _ _ h => h) ⟨trivial, (Below.refl _ X).drew⟩ ?_
    rintro V ⟨-, hXW⟩
    rw [wpSched]
    simp only [pick, List.map_cons, List.map_nil, Array.getD_eq_getD_getElem?, List.getElem?_toArray, List.getElem?_cons_succ, List.getElem?_cons_zero, Option.getD_some]
    repeat (first | go_big_quiet_step (fail) | quiet_step (fail))
    refine wpQuiet_nil ?_
    refine heavy_skip (by rfl) ?_
    try simp only [Act.put, List.setIfInBounds_toArray, List.set_cons_zero, List.set_cons_succ]
    rw [wpSched]
    simp only [pick, List.map_cons, List.map_nil, Array.getD_eq_getD_getElem?, List.getElem?_toArray, List.getElem?_cons_succ, List.getElem?_cons_zero, Option.getD_some]
    repeat (first | go_big_quiet_step (fail) | quiet_step (fail))
    refine wpQuiet_nil ?_
    go_wp2_with (refine wpList_storeB rfl rfl _ (.tmp 2) _ rfl (b := a) (q := 0) rfl (n := 20) (v := zeroS) rfl (a_b.later hXW) (fun j _ => sig_one _ _ _ _ _ j) sig_size ?_; intro Y1 t1; refine Hid.out ?_)
    unfold Hid
    replace hB := t1.below w.heap.size w (by omega) (thru hB hXW)
    have l1 := run_loadS t1.blk
    clear t1 a_b hXW
    go_wp2_with fail
    refine bodyPost_ret (v := .tuple #[aggN 20 zeroS, .int .i64 60]) ?_ rfl ⟨rfl, hB⟩
    rw [results_cell_tmp rfl]
    simp [asAddr, Result.andThen]
    rw [l1]
  · have hd : decide ((l.length : Int) < 146) = false := by simp; omega
    obtain ⟨g, o, rfl, hc⟩ := hx1.at (by omega)
    have k0 := hc 0 (by omega)
    have k1 := hc 1 (by omega)
    rw [Nat.add_zero] at k0
    have hv2 := refValid_any ((l.getD 1 0).toNat : Int) ((l.getD 0 0).toNat : Int)
    have hl : l.length = 146 + 8 * (l.getD 1 0).toNat → vldS ((l.getD 1 0).toNat : Int) ((l.getD 0 0).toNat : Int) = false := fun h => by
      cases hv : vldS ((l.getD 1 0).toNat : Int) ((l.getD 0 0).toNat : Int) with
      | false => rfl
      | true =>
        unfold decN at hn
        rw [hv, decide_eq_true h, decide_eq_true (by omega)] at hn
        cases hn
    obtain ⟨l0, e0⟩ : ∃ b, l.getD 0 0 = b := ⟨_, rfl⟩
    obtain ⟨l1, e1⟩ : ∃ b, l.getD 1 0 = b := ⟨_, rfl⟩
    obtain ⟨n, hnn⟩ : ∃ n, l.length = n := ⟨_, rfl⟩
    have hd2 : decide (l.length < 146) = false := decide_eq_false h2
    rw [hnn] at hd hd2 hl h2 ⊢
    rw [e0] at k0 hv2 hl
    rw [e1] at k1 hv2 hl
    have hl0 : l0.toNat < 256 := l0.toNat_lt
    have hl256 : l1.toNat < 256 := l1.toNat_lt
    obtain ⟨m, hm⟩ : ∃ m, l1.toNat = m := ⟨_, rfl⟩
    rw [hm] at k1 hv2 hl hl256
    cases hv : vldS (m : Int) (l0.toNat : Int) with
    | false =>
      rw [hv] at hv2
      have HV := hv2
      clear hn hc hx1 hnn e0 e1 hl hv hv2 hm
      go_wp2_with fail
      refine wp_region_sched (fun W => True ∧ W.cell? ⟨g, o, none⟩ = some (.int .u8 (l0.toNat : Int)) ∧ W.cell? ⟨g, o + 1, none⟩ = some (.int .u8 (m : Int)) ∧ Below X.heap.size X W) (.one [0, 1, 2, 3, 4, 5, 6, 7, 8, 9, 10, 11] 12 (.done [13, 14, 15, 16, 17, 18, 19, 20, 21, 22, 23, 24, 25])) (by kernel_rfl) (by kernel_rfl) (fun _ _ _ _ _ h => h) ⟨trivial, (by go_simp), (by go_simp), (Below.refl _ X).drew⟩ ?_
      clear k0 k1
      rintro V ⟨-, k0, k1, hXW⟩
      rw [wpSched]
      simp only [pick, List.map_cons, List.map_nil, Array.getD_eq_getD_getElem?, List.getElem?_toArray, List.getElem?_cons_succ, List.getElem?_cons_zero, Option.getD_some]
      have kk0 := plusW_cell k0
      have kk1 := plusW_cell k1
      repeat (first | go_big_quiet_step (fail) | quiet_step (fail))
      refine wpQuiet_nil ?_
      refine heavy_want (by rfl) (fun K' hK' => ?_)
      go_simp
      refine (HV _).mono ?_
      rintro e V1 ⟨rfl, hw⟩
      obtain rfl : V = V1 := hw.symm
      refine hK' _ _ (Below.refl _ _) ?_
      clear hK' K' HV hw
      try simp only [Act.put, List.setIfInBounds_toArray, List.set_cons_zero, List.set_cons_succ]
      rw [wpSched]
      simp only [pick, List.map_cons, List.map_nil, Array.getD_eq_getD_getElem?, List.getElem?_toArray, List.getElem?_cons_succ, List.getElem?_cons_zero, Option.getD_some]
      repeat (first | go_big_quiet_step (fail) | quiet_step (fail))
      refine wpQuiet_nil ?_
      clear kk0 kk1
      go_wp2_with (refine wpList_storeB rfl rfl _ (.tmp 2) _ rfl (b := a) (q := 0) rfl (n := 20) (v := zeroS) rfl (a_b.later hXW) (fun j _ => sig_one _ _ _ _ _ j) sig_size ?_; intro Y1 t1; refine Hid.out ?_)
      unfold Hid
      replace hB := t1.below w.heap.size w (by omega) (thru hB hXW)
      have l1 := run_loadS t1.blk
      clear t1 a_b hXW
      go_wp2_with fail
      refine bodyPost_ret (v := .tuple #[aggN 20 zeroS, .int .i64 60]) ?_ rfl ⟨rfl, hB⟩
      rw [results_cell_tmp rfl]
      simp [asAddr, Result.andThen]
      rw [l1]
    | true =>
      rw [hv] at hv2
      have HV := hv2
      have hne : ¬ n = 146 + 8 * m := fun h => by rw [hl h] at hv; cases hv
      have h3 : ((n : Int) == 146 + 8 * (m : Int)) = false := by
        rw [beq_eq_false_iff_ne]
        omega
      clear hn hc hx1 hnn e0 e1 hl hv hv2 hm
      go_wp2_with fail
      refine wp_region_sched (fun W => True ∧ W.cell? ⟨g, o, none⟩ = some (.int .u8 (l0.toNat : Int)) ∧ W.cell? ⟨g, o + 1, none⟩ = some (.int .u8 (m : Int)) ∧ Below X.heap.size X W) (.one [0, 1, 2, 3, 4, 5, 6, 7, 8, 9, 10, 11] 12 (.done [13, 14, 15, 16, 17, 18, 19, 20, 21, 22, 23, 24, 25])) (by kernel_rfl) (by kernel_rfl) (fun _ _ _ _ _ h => h) ⟨trivial, (by go_simp), (by go_simp), (Below.refl _ X).drew⟩ ?_
      clear k0 k1
      rintro V ⟨-, k0, k1, hXW⟩
      rw [wpSched]
      simp only [pick, List.map_cons, List.map_nil, Array.getD_eq_getD_getElem?, List.getElem?_toArray, List.getElem?_cons_succ, List.getElem?_cons_zero, Option.getD_some]
      have kk0 := plusW_cell k0
      have kk1 := plusW_cell k1
      repeat (first | go_big_quiet_step (fail) | quiet_step (fail))
      refine wpQuiet_nil ?_
      refine heavy_want (by rfl) (fun K' hK' => ?_)
      go_simp
      refine (HV _).mono ?_
      rintro e V1 ⟨rfl, hw⟩
      obtain rfl : V = V1 := hw.symm
      refine hK' _ _ (Below.refl _ _) ?_
      clear hK' K' HV hw
      try simp only [Act.put, List.setIfInBounds_toArray, List.set_cons_zero, List.set_cons_succ]
      rw [wpSched]
      simp only [pick, List.map_cons, List.map_nil, Array.getD_eq_getD_getElem?, List.getElem?_toArray, List.getElem?_cons_succ, List.getElem?_cons_zero, Option.getD_some]
      repeat (first | go_big_quiet_step (fail) | quiet_step (fail))
      refine wpQuiet_nil ?_
      clear kk0 kk1
      go_wp2_with (refine wpList_storeB rfl rfl _ (.tmp 2) _ rfl (b := a) (q := 0) rfl (n := 20) (v := zeroS) rfl (a_b.later hXW) (fun j _ => sig_one _ _ _ _ _ j) sig_size ?_; intro Y1 t1; refine Hid.out ?_)
      unfold Hid
      replace hB := t1.below w.heap.size w (by omega) (thru hB hXW)
      have l1 := run_loadS t1.blk
      clear t1 a_b hXW
      go_wp2_with fail
      refine bodyPost_ret (v := .tuple #[aggN 20 zeroS, .int .i64 60]) ?_ rfl ⟨rfl, hB⟩
      rw [results_cell_tmp rfl]
      simp [asAddr, Result.andThen]
      rw [l1]

end Go.Proofs.Ytjpicnfkmfjnoaa
