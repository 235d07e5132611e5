/- WALKS of the sign layer: Decode. -/
import Derived.Test.YtjpicnfkmfjnoaaSgnN
namespace Go.Proofs.Ytjpicnfkmfjnoaa
open Go.RowKit

theorem shl_byte (v : UInt8) (z : Nat) : IntKind.u64.wrap ((v.toNat : Int) * 2 ^ z) = num (Dig.ofB v <<< z) := by
  rw [u8_num v, ← shl_of]
  simp
theorem Bts.at {W : World} {x : Option Addr} {l : List UInt8} (h : Bts W x l) (h0 : 0 < l.length) : ∃ b o, x = some ⟨b, o, none⟩ ∧ ∀ i, i < l.length → W.cell? ⟨b, o + i, none⟩ = some (.int .u8 ((l.getD i 0).toNat : Int)) := by
  rcases h with h | ⟨b, o, hx, hc⟩
  · subst h; simp at h0
  · exact ⟨b, o, hx, hc⟩
set_option maxHeartbeats 1000000 in
theorem word_any (i b : Nat) (l : List UInt8) (x : Option Addr) (c : Nat) (w : World) (hx : Bts w x l) (hb : w.cell? ⟨b, 0, none⟩ = some (.slice x l.length c)) (hi : 10 + 8 * i ≤ l.length) (h25 : i ≤ 24) :
    Calls Try.prog 49 #[.int .i64 (i : Int), .pointer (some ⟨b, 0, none⟩)] w (NumOf (Sgn.wd l (2 + 8 * i) 8) w) := by
  obtain ⟨g, o, rfl, hc⟩ := hx.at (by omega)
  have HC := Lib.hid hc
  obtain ⟨n, hn⟩ : ∃ n, l.length = n := ⟨_, rfl⟩
  have HN := Lib.hid hn
  rw [hn] at hb hi
  obtain ⟨s, hs⟩ : ∃ s, 8 * i = s := ⟨_, rfl⟩
  have h8i : 8 * (i : Int) = (s : Int) := by omega
  obtain ⟨t, ht⟩ : ∃ t, 2 + s = t := ⟨_, rfl⟩
  have h2s : 2 + (s : Int) = (t : Int) := by omega
  rw [hs] at hi ⊢
  rw [ht]
  have HT := Lib.hid ht
  have htn : t + 8 ≤ n := by omega
  have ht200 : t ≤ 200 := by omega
  have hs200 : s ≤ 200 := by omega
  clear hx hn hs ht hc
  go_enter Try.func49, Try.ntmps49
  go_wp2_with fail
  go_loopw [4, 6] (fun u4 u6 wr => ∃ k : Nat, k ≤ 8 ∧ u6 = .int .i64 (k : Int) ∧ u4 = .int .u64 (num (Sgn.wd l t k)) ∧ wr = w) (fun _ u6 _ => 8 - (intOf u6).toNat)
  case atStart => exact ⟨0, by omega, rfl, rfl, rfl⟩
  case round =>
    obtain ⟨k, hk, rfl, rfl, rfl⟩ := hrel
    by_cases hlt : k < 8
    · have hki : decide ((k : Int) < 8) = true := by simp; omega
      obtain ⟨m, hm⟩ : ∃ m, t + k = m := ⟨_, rfl⟩
      have hmI : (t : Int) + (k : Int) = (m : Int) := by omega
      have hmn : m < n := by omega
      have kc := HC.out m (by have := HN.out; omega)
      have hsn := Sgn.wd_snoc l t k
      rw [hm] at hsn
      obtain ⟨v, hv⟩ : ∃ v, l.getD m 0 = v := ⟨_, rfl⟩
      rw [hv] at kc hsn
      obtain ⟨z, hz⟩ : ∃ z, 8 * k = z := ⟨_, rfl⟩
      have hzI : 8 * (k : Int) = (z : Int) := by omega
      have hz64 : z < 64 := by omega
      rw [hz] at hsn
      have hsh := shl_byte v z
      have hwv : IntKind.u64.wrap (v.toNat : Int) = (v.toNat : Int) := by have := v.toNat_lt; rw [wrap64u]; omega
      obtain ⟨y, hy⟩ : ∃ y, Dig.ofB v <<< z = y := ⟨_, rfl⟩
      rw [hy] at hsh hsn
      obtain ⟨q, hq⟩ : ∃ q, Sgn.wd l t k = q := ⟨_, rfl⟩
      rw [hq] at hsn ⊢
      have HS := Lib.hid hsn
      clear hm hv hz hy hq hsn
      go_wp2_with fail
      exact ⟨⟨k + 1, by omega, by go_num, by rw [HS.out], trivial⟩, by simp [intOf]; omega⟩
    · obtain rfl : k = 8 := by omega
      rw [show ((8 : Nat) : Int) = 8 from rfl]
      go_wp2_with fail
      go_ret
      exact ⟨rfl, Below.refl _ _⟩
def decN (l : List UInt8) : Bool := decide (2 ≤ l.length) && vldS ((l.getD 1 0).toNat : Int) ((l.getD 0 0).toNat : Int) && decide (l.length = 146 + 8 * (l.getD 1 0).toNat)

set_option maxHeartbeats 400000 in
theorem decode_no (x : Option Addr) (l : List UInt8) (c : Nat) (w : World) (hx : Bts w x l) (hn : decN l = false) : Calls Try.prog 30 #[.slice x l.length c] w fun e w' => e = .returned (.tuple #[aggN 20 zeroS, .int .i64 60]) ∧ Below w.heap.size w w' := by
  go_enter Try.func30, Try.ntmps30
  go_wp2_with (refine wpList_allocTo 2 rfl rfl _ rfl sig_zero ?_; intro X a_b hb0 hz0; refine Hid.out ?_)
  unfold Hid
  try simp only [Act.put, List.setIfInBounds_toArray, List.set_cons_zero, List.set_cons_succ]
  rw [World.size_alloc] at a_b hz0 ⊢
  obtain ⟨a, ea⟩ : ∃ a, w.heap.size = a := ⟨_, rfl⟩
  have s_a : w.heap.size ≤ a := by omega
  have d0 : X.cell? ⟨a, 0, none⟩ = some (.slice x l.length c) := by subst ea; exact later hb0 (by go_simp)
  have hB : Below w.heap.size w X := thru (al (Below.refl _ w) _) hb0
  have hx1 : Bts X x l := (hx.later (al (Below.refl _ w) _)).later hb0
  rw [ea] at a_b hz0 ⊢
  clear hb0 ea hx
  by_cases h2 : l.length < 2
  · have hd : decide ((l.length : Int) < 2) = true := by simp; omega
    obtain ⟨n, hnn⟩ : ∃ n, l.length = n := ⟨_, rfl⟩
    rw [hnn] at d0 hd ⊢
    clear hn hx1 h2 hnn
    go_wp2_with fail
    refine wp_region_sched (fun W => W.cell? ⟨a, 0, none⟩ = some (.slice x n c) ∧ Below X.heap.size X W) (.one [0, 1, 2, 3, 4, 5, 6, 7, 8, 9, 10, 11] 12 (.done [13, 14, 15, 16, 17, 18, 19, 20, 21, 22, 23, 24, 25, 26])) (by kernel_rfl) (by kernel_rfl) (fun _ _ _ _ _ h => h) ⟨(by go_simp), (Below.refl _ X).drew⟩ ?_
    clear d0
    rintro V ⟨d0, hXW⟩
    rw [wpSched]
    simp only [pick, List.map_cons, List.map_nil, Array.getD_eq_getD_getElem?, List.getElem?_toArray, List.getElem?_cons_succ, List.getElem?_cons_zero, Option.getD_some]
    have kd0 := plusW_cell d0
    repeat (first | go_big_quiet_step (fail) | quiet_step (fail))
    refine wpQuiet_nil ?_
    refine heavy_skip (by rfl) ?_
    try simp only [Act.put, List.setIfInBounds_toArray, List.set_cons_zero, List.set_cons_succ]
    rw [wpSched]
    simp only [pick, List.map_cons, List.map_nil, Array.getD_eq_getD_getElem?, List.getElem?_toArray, List.getElem?_cons_succ, List.getElem?_cons_zero, Option.getD_some]
    repeat (first | go_big_quiet_step (fail) | quiet_step (fail))
    refine wpQuiet_nil ?_
    clear kd0
    go_wp2_with (refine wpList_storeB rfl rfl _ (.tmp 2) _ rfl (b := a + 1) (q := 0) rfl (n := 20) (v := zeroS) rfl (a_b.later hXW) (fun j _ => sig_one _ _ _ _ _ j) sig_size ?_; intro Y1 t1; refine Hid.out ?_)
    unfold Hid
    replace hB := t1.below w.heap.size w (by omega) (thru hB hXW)
    have l1 := run_loadS t1.blk
    clear t1 a_b hXW
    go_wp2_with fail
    refine bodyPost_ret (v := .tuple #[aggN 20 zeroS, .int .i64 60]) ?_ rfl ⟨rfl, hB⟩
    rw [results_cell_tmp rfl]
    simp [asAddr, Result.andThen]
    rw [l1]
  · have hd : decide ((l.length : Int) < 2) = false := by simp; omega
    obtain ⟨g, o, rfl, hc⟩ := hx1.at (by omega)
    have k0 := hc 0 (by omega)
    have k1 := hc 1 (by omega)
    rw [Nat.add_zero] at k0
    have hv2 := valid_any ((l.getD 1 0).toNat : Int) ((l.getD 0 0).toNat : Int)
    have hl : l.length = 146 + 8 * (l.getD 1 0).toNat → vldS ((l.getD 1 0).toNat : Int) ((l.getD 0 0).toNat : Int) = false := fun h => by
      cases hv : vldS ((l.getD 1 0).toNat : Int) ((l.getD 0 0).toNat : Int) with
      | false => rfl
      | true =>
        unfold decN at hn
        rw [hv, decide_eq_true h, decide_eq_true (by omega)] at hn
        cases hn
    obtain ⟨l0, e0⟩ : ∃ b, l.getD 0 0 = b := ⟨_, rfl⟩
    obtain ⟨l1, e1⟩ : ∃ b, l.getD 1 0 = b := ⟨_, rfl⟩
    obtain ⟨n, hnn⟩ : ∃ n, l.length = n := ⟨_, rfl⟩
    rw [hnn] at d0 hd hl h2 ⊢
    rw [e0] at k0 hv2 hl
    rw [e1] at k1 hv2 hl
    have hl256 : l1.toNat < 256 := l1.toNat_lt
    have hl0 : l0.toNat < 256 := l0.toNat_lt
    cases hv : vldS (l1.toNat : Int) (l0.toNat : Int) with
    | false =>
      rw [hv] at hv2
      have HV := hv2
      have hd2 : decide (n < 2) = false := decide_eq_false h2
      clear hn hc hx1 hnn e0 e1 hl hv hv2
      go_wp2_with fail
      refine wp_region_sched (fun W => W.cell? ⟨a, 0, none⟩ = some (.slice (some ⟨g, o, none⟩) n c) ∧ W.cell? ⟨g, o, none⟩ = some (.int .u8 (l0.toNat : Int)) ∧ W.cell? ⟨g, o + 1, none⟩ = some (.int .u8 (l1.toNat : Int)) ∧ Below X.heap.size X W) (.one [0, 1, 2, 3, 4, 5, 6, 7, 8, 9, 10, 11] 12 (.done [13, 14, 15, 16, 17, 18, 19, 20, 21, 22, 23, 24, 25, 26])) (by kernel_rfl) (by kernel_rfl) (fun _ _ _ _ _ h => h) ⟨(by go_simp), (by go_simp), (by go_simp), (Below.refl _ X).drew⟩ ?_
      clear d0 k0 k1
      rintro V ⟨d0, k0, k1, hXW⟩
      rw [wpSched]
      simp only [pick, List.map_cons, List.map_nil, Array.getD_eq_getD_getElem?, List.getElem?_toArray, List.getElem?_cons_succ, List.getElem?_cons_zero, Option.getD_some]
      have kd0 := plusW_cell d0
      have kk0 := plusW_cell k0
      have kk1 := plusW_cell k1
      repeat (first | go_big_quiet_step (fail) | quiet_step (fail))
      refine wpQuiet_nil ?_
      refine heavy_want (by rfl) (fun K' hK' => ?_)
      go_simp
      refine (HV _).mono ?_
      rintro e V1 ⟨rfl, hw⟩
      obtain rfl : V = V1 := hw.symm
      refine hK' _ _ (Below.refl _ _) ?_
      clear hK' K' HV hw
      try simp only [Act.put, List.setIfInBounds_toArray, List.set_cons_zero, List.set_cons_succ]
      rw [wpSched]
      simp only [pick, List.map_cons, List.map_nil, Array.getD_eq_getD_getElem?, List.getElem?_toArray, List.getElem?_cons_succ, List.getElem?_cons_zero, Option.getD_some]
      repeat (first | go_big_quiet_step (fail) | quiet_step (fail))
      refine wpQuiet_nil ?_
      clear kd0 kk0 kk1
      go_wp2_with (refine wpList_storeB rfl rfl _ (.tmp 2) _ rfl (b := a + 1) (q := 0) rfl (n := 20) (v := zeroS) rfl (a_b.later hXW) (fun j _ => sig_one _ _ _ _ _ j) sig_size ?_; intro Y1 t1; refine Hid.out ?_)
      unfold Hid
      replace hB := t1.below w.heap.size w (by omega) (thru hB hXW)
      have l1 := run_loadS t1.blk
      clear t1 a_b hXW
      go_wp2_with fail
      refine bodyPost_ret (v := .tuple #[aggN 20 zeroS, .int .i64 60]) ?_ rfl ⟨rfl, hB⟩
      rw [results_cell_tmp rfl]
      simp [asAddr, Result.andThen]
      rw [l1]
    | true =>
      rw [hv] at hv2
      have HV := hv2
      have hd2 : decide (n < 2) = false := decide_eq_false h2
      have hne : ¬ n = 146 + 8 * l1.toNat := fun h => by rw [hl h] at hv; cases hv
      obtain ⟨m, hm⟩ : ∃ m, l1.toNat = m := ⟨_, rfl⟩
      have hm256 : m < 256 := by omega
      rw [hm] at hne
      have h3 : ((n : Int) == 2 + 8 * (18 + (m : Int))) = false := by
        rw [beq_eq_false_iff_ne]
        omega
      clear hn hc hx1 hnn e0 e1 hl hv hv2 hl256
      rw [hm] at k1 HV
      clear hm
      go_wp2_with fail
      refine wp_region_sched (fun W => W.cell? ⟨a, 0, none⟩ = some (.slice (some ⟨g, o, none⟩) n c) ∧ W.cell? ⟨g, o, none⟩ = some (.int .u8 (l0.toNat : Int)) ∧ W.cell? ⟨g, o + 1, none⟩ = some (.int .u8 (m : Int)) ∧ Below X.heap.size X W) (.one [0, 1, 2, 3, 4, 5, 6, 7, 8, 9, 10, 11] 12 (.done [13, 14, 15, 16, 17, 18, 19, 20, 21, 22, 23, 24, 25, 26])) (by kernel_rfl) (by kernel_rfl) (fun _ _ _ _ _ h => h) ⟨(by go_simp), (by go_simp), (by go_simp), (Below.refl _ X).drew⟩ ?_
      clear d0 k0 k1
      rintro V ⟨d0, k0, k1, hXW⟩
      rw [wpSched]
      simp only [pick, List.map_cons, List.map_nil, Array.getD_eq_getD_getElem?, List.getElem?_toArray, List.getElem?_cons_succ, List.getElem?_cons_zero, Option.getD_some]
      have kd0 := plusW_cell d0
      have kk0 := plusW_cell k0
      have kk1 := plusW_cell k1
      repeat (first | go_big_quiet_step (fail) | quiet_step (fail))
      refine wpQuiet_nil ?_
      refine heavy_want (by rfl) (fun K' hK' => ?_)
      go_simp
      refine (HV _).mono ?_
      rintro e V1 ⟨rfl, hw⟩
      obtain rfl : V = V1 := hw.symm
      refine hK' _ _ (Below.refl _ _) ?_
      clear hK' K' HV hw
      try simp only [Act.put, List.setIfInBounds_toArray, List.set_cons_zero, List.set_cons_succ]
      rw [wpSched]
      simp only [pick, List.map_cons, List.map_nil, Array.getD_eq_getD_getElem?, List.getElem?_toArray, List.getElem?_cons_succ, List.getElem?_cons_zero, Option.getD_some]
      repeat (first | go_big_quiet_step (fail) | quiet_step (fail))
      refine wpQuiet_nil ?_
      clear kd0 kk0 kk1
      go_wp2_with (refine wpList_storeB rfl rfl _ (.tmp 2) _ rfl (b := a + 1) (q := 0) rfl (n := 20) (v := zeroS) rfl (a_b.later hXW) (fun j _ => sig_one _ _ _ _ _ j) sig_size ?_; intro Y1 t1; refine Hid.out ?_)
      unfold Hid
      replace hB := t1.below w.heap.size w (by omega) (thru hB hXW)
      have l1 := run_loadS t1.blk
      clear t1 a_b hXW
      go_wp2_with fail
      refine bodyPost_ret (v := .tuple #[aggN 20 zeroS, .int .i64 60]) ?_ rfl ⟨rfl, hB⟩
      rw [results_cell_tmp rfl]
      simp [asAddr, Result.andThen]
      rw [l1]

end Go.Proofs.Ytjpicnfkmfjnoaa
