/- LAW SignChecksum. -/
import Derived.Test.YtjpicnfkmfjnoaaSgnK
namespace Go.Proofs.Ytjpicnfkmfjnoaa
open Go.RowKit

theorem beq_dec (p q : Prop) [Decidable p] [Decidable q] (h : p ↔ q) : (decide p == decide q) = true := by
  by_cases hp : p
  · rw [decide_eq_true hp, decide_eq_true (h.1 hp)]; rfl
  · rw [decide_eq_false hp, decide_eq_false (fun hq => hp (h.2 hq))]; rfl
theorem shl_dig (a s : Nat) (ha : a ≤ 15) : IntKind.u64.wrap ((a : Int) * 2 ^ s) = num (BitVec.ofNat 64 a <<< s) := by
  rw [← shl_of]
  have : num (BitVec.ofNat 64 a) = (a : Int) := by unfold num; rw [BitVec.toNat_ofNat, Nat.mod_eq_of_lt (by omega)]
  rw [this]
  simp
def CkRel (d e : D64) (Y : World) (u7 u8 u9 u10 u16 : Value) (wr : World) : Prop :=
  ∃ i mL mM : Nat, i ≤ 18 ∧ mL ≤ i ∧ mM ≤ i ∧ u16 = .int .i64 (i : Int) ∧ u7 = .int .i64 (mL : Int) ∧ u8 = .int .i64 (mM : Int) ∧ u9 = .int .i64 ((Sgn.lack d (min i 16) : Nat) : Int) ∧ u10 = .int .u64 (num (Sgn.num4 d (min i 16))) ∧ Below Y.heap.size Y wr ∧
    (0 < mL ↔ ∃ j, j < i ∧ Sgn.dig d j < Sgn.dig e j) ∧ (0 < mM ↔ ∃ j, j < i ∧ Sgn.dig e j < Sgn.dig d j)
set_option maxHeartbeats 2000000 in
theorem checksum_any (d e : D64) (w : World) : Calls Try.prog 4 #[.int .u64 (num d), .int .u64 (num e)] w (YesOf w) := by
  go_enter Try.func4, Try.ntmps4
  go_wp2_with fail
  refine (digits_any d _).mono ?_
  rintro e' W1 ⟨rfl, hB⟩
  go_wp2_with fail
  refine (digits_any e _).mono ?_
  rintro e' W2 ⟨rfl, hb⟩
  replace hB := thru hB hb
  clear hb
  go_wp2_with (refine wpList_allocTo 5 rfl rfl _ rfl arrI_zero ?_; intro X1 a1 hb hz; refine Hid.out ?_)
  unfold Hid
  try simp only [Act.put, List.setIfInBounds_toArray, List.set_cons_zero, List.set_cons_succ]
  obtain ⟨b1, hb1⟩ : ∃ a, W2.heap.size = a := ⟨_, rfl⟩
  have s1 : w.heap.size ≤ b1 := hb1 ▸ hB.size
  replace hB := thru hB hb
  rw [hb1] at a1 hz ⊢
  clear hb hb1
  go_wp2_with (refine wpList_allocTo 6 rfl rfl _ rfl arrI_zero ?_; intro X2 a2 hb hz2; refine Hid.out ?_)
  unfold Hid
  try simp only [Act.put, List.setIfInBounds_toArray, List.set_cons_zero, List.set_cons_succ]
  obtain ⟨b2, hb2⟩ : ∃ a, X1.heap.size = a := ⟨_, rfl⟩
  have s2 : b1 < b2 := by omega
  replace hB := thru hB hb
  replace a1 := a1.later hb
  rw [hb2] at a2 hz2 ⊢
  clear hb hb2 hz
  go_wp2_with (refine wpList_storeB rfl rfl _ (.tmp 5) _ rfl (b := b1) (q := 0) rfl (aggN_arr _).symm a1 (fun _ _ => rfl) arrI_size ?_; intro Y1 t1; refine Hid.out ?_)
  unfold Hid
  replace hB := t1.below _ _ (by omega) hB
  replace a1 := t1.blk
  replace a2 := t1.other (.inl (by omega)) a2
  clear t1
  go_wp2_with (refine wpList_storeB rfl rfl _ (.tmp 6) _ rfl (b := b2) (q := 0) rfl (aggN_arr _).symm a2 (fun _ _ => rfl) arrI_size ?_; intro Y t1; refine Hid.out ?_)
  unfold Hid
  replace hB := t1.below _ _ (by omega) hB
  replace a2 := t1.blk
  replace a1 := t1.other (.inl (by omega)) a1
  clear t1 hz2 s1 s2
  have A1 := Lib.hid a1
  have A2 := Lib.hid a2
  clear a1 a2
  go_wp2_with fail
  go_loopw [7, 8, 9, 10, 16] (fun u7 u8 u9 u10 u16 wr => CkRel d e Y u7 u8 u9 u10 u16 wr) (fun _ _ _ _ u16 _ => 18 - (intOf u16).toNat)
  case atStart => exact ⟨0, 0, 0, by omega, by omega, by omega, rfl, rfl, rfl, rfl, rfl, Below.refl _ _, ⟨fun h => by omega, fun ⟨j, hj, _⟩ => by omega⟩, ⟨fun h => by omega, fun ⟨j, hj, _⟩ => by omega⟩⟩
  case round =>
    obtain ⟨i, mL, mM, hi, hmL, hmM, rfl, rfl, rfl, rfl, rfl, hBr, hL, hM⟩ := hrel
    have HL := Lib.hid hL
    have HM := Lib.hid hM
    clear hL hM
    by_cases hlt : i < 18
    · have hki : decide ((i : Int) < 18) = true := by simp; omega
      have c1 : wr.cell? ⟨b1, i, none⟩ = some (.int .i64 ((Sgn.dig d i : Nat) : Int)) := later hBr (A1.out.at i hlt).1
      have c2 : wr.cell? ⟨b2, i, none⟩ = some (.int .i64 ((Sgn.dig e i : Nat) : Int)) := later hBr (A2.out.at i hlt).1
      have ha15 := Sgn.dig_le d i
      have hb15 := Sgn.dig_le e i
      have hlow : i < 16 → Sgn.dig d i = Sgn.dg d i := Sgn.dig_low d i
      obtain ⟨a, ha⟩ : ∃ a, Sgn.dig d i = a := ⟨_, rfl⟩
      obtain ⟨b, hb⟩ : ∃ a, Sgn.dig e i = a := ⟨_, rfl⟩
      have XA := Lib.hid ha
      have XB := Lib.hid hb
      rw [ha] at c1 ha15 hlow
      rw [hb] at c2 hb15
      clear ha hb
      have e0 : decide ((a : Int) < 0) = false := decide_eq_false (by omega)
      have e15 : decide ((15 : Int) < (a : Int)) = false := decide_eq_false (by omega)
      have KL : Hid ((0 < mL ∨ a < b) ↔ ∃ j, j < i + 1 ∧ Sgn.dig d j < Sgn.dig e j) := by
        show _ ↔ _
        constructor
        · rintro (h | h)
          · obtain ⟨j, h1, h2⟩ := HL.out.1 h
            exact ⟨j, by omega, h2⟩
          · exact ⟨i, by omega, by rw [XA.out, XB.out]; exact h⟩
        · rintro ⟨j, h1, h2⟩
          by_cases hj : j = i
          · subst hj; rw [XA.out, XB.out] at h2; exact .inr h2
          · exact .inl (HL.out.2 ⟨j, by omega, h2⟩)
      have KM : Hid ((0 < mM ∨ b < a) ↔ ∃ j, j < i + 1 ∧ Sgn.dig e j < Sgn.dig d j) := by
        show _ ↔ _
        constructor
        · rintro (h | h)
          · obtain ⟨j, h1, h2⟩ := HM.out.1 h
            exact ⟨j, by omega, h2⟩
          · exact ⟨i, by omega, by rw [XA.out, XB.out]; exact h⟩
        · rintro ⟨j, h1, h2⟩
          by_cases hj : j = i
          · subst hj; rw [XA.out, XB.out] at h2; exact .inr h2
          · exact .inl (HM.out.2 ⟨j, by omega, h2⟩)
      by_cases h16 : i < 16
      · have hkj : decide ((i : Int) < 16) = true := by simp; omega
        have hs1 : min i 16 = i := by omega
        have HS2 := Lib.hid (show min (i + 1) 16 = i + 1 by omega)
        have hlk := Sgn.lack_le d i
        have HK : Hid (Sgn.lack d (i + 1) = Sgn.lack d i + (15 - a)) := by show _ = _; rw [hlow h16]; rfl
        have hsh := shl_dig a (4 * i) ha15
        have HN4 : Hid (Sgn.num4 d (i + 1) = Sgn.num4 d i ||| BitVec.ofNat 64 a <<< (4 * i)) := by show _ = _; rw [hlow h16]; rfl
        rw [hs1]
        obtain ⟨s, hs⟩ : ∃ s, 4 * i = s := ⟨_, rfl⟩
        have h4i : 4 * (i : Int) = (s : Int) := by omega
        have hs63 : s < 64 := by omega
        rw [hs] at hsh HN4
        obtain ⟨y, hy⟩ : ∃ y, BitVec.ofNat 64 a <<< s = y := ⟨_, rfl⟩
        rw [hy] at hsh HN4
        obtain ⟨q, hq⟩ : ∃ q, Sgn.lack d i = q := ⟨_, rfl⟩
        rw [hq] at hlk HK ⊢
        obtain ⟨n4, hn4⟩ : ∃ q, Sgn.num4 d i = q := ⟨_, rfl⟩
        rw [hn4] at HN4 ⊢
        clear hs1 hlow hs hy hq hn4
        rcases Nat.lt_trichotomy a b with hcmp | hcmp | hcmp
        · have hab : decide (a < b) = true := decide_eq_true (by omega)
          have hba : decide (b < a) = false := decide_eq_false (by omega)
          have HC := Lib.hid hcmp
          clear hcmp
          go_wp2_with fail
          refine wp_region_sched (fun W => W.cell? ⟨b1, i, none⟩ = some (.int .i64 (a : Int)) ∧ W.cell? ⟨b2, i, none⟩ = some (.int .i64 (b : Int)) ∧ Below Y.heap.size Y W) (.done [0, 1, 2, 3, 4, 5, 6]) (by kernel_rfl) (by kernel_rfl) (fun _ _ _ _ _ h => h) ⟨(by go_simp), (by go_simp), hBr.drew⟩ ?_
          clear c1 c2 hBr
          rintro W ⟨c1, c2, hBr⟩
          rw [wpSched]
          simp only [pick, List.map_cons, List.map_nil, Array.getD_eq_getD_getElem?, List.getElem?_toArray, List.getElem?_cons_succ, List.getElem?_cons_zero, Option.getD_some]
          have kc1 := plusW_cell c1
          have kc2 := plusW_cell c2
          repeat (first | go_big_quiet_step (fail) | quiet_step (fail))
          refine wpQuiet_nil ?_
          clear kc1 kc2
          go_wp2_with fail
          refine wp_region_sched (fun W => W.cell? ⟨b1, i, none⟩ = some (.int .i64 (a : Int)) ∧ W.cell? ⟨b2, i, none⟩ = some (.int .i64 (b : Int)) ∧ Below Y.heap.size Y W) (.done [0, 1, 2, 3, 4, 5, 6]) (by kernel_rfl) (by kernel_rfl) (fun _ _ _ _ _ h => h) ⟨(by go_simp), (by go_simp), hBr.drew⟩ ?_
          clear c1 c2 hBr
          rintro W2 ⟨c1, c2, hBr⟩
          rw [wpSched]
          simp only [pick, List.map_cons, List.map_nil, Array.getD_eq_getD_getElem?, List.getElem?_toArray, List.getElem?_cons_succ, List.getElem?_cons_zero, Option.getD_some]
          have kc1 := plusW_cell c1
          have kc2 := plusW_cell c2
          repeat (first | go_big_quiet_step (fail) | quiet_step (fail))
          refine wpQuiet_nil ?_
          clear kc1 kc2
          go_wp2_with fail
          exact ⟨⟨i + 1, mL + 1, mM, by omega, by omega, by omega, by go_num, by congr 1, rfl, by rw [HS2.out, HK.out]; congr 1; omega, by rw [HS2.out, HN4.out], hBr, by have := HC.out; rw [← KL.out]; omega, by have := HC.out; rw [← KM.out]; omega⟩, by simp [intOf]; omega⟩
        · have hab : decide (a < b) = false := decide_eq_false (by omega)
          have hba : decide (b < a) = false := decide_eq_false (by omega)
          have HC := Lib.hid hcmp
          clear hcmp
          go_wp2_with fail
          refine wp_region_sched (fun W => W.cell? ⟨b1, i, none⟩ = some (.int .i64 (a : Int)) ∧ W.cell? ⟨b2, i, none⟩ = some (.int .i64 (b : Int)) ∧ Below Y.heap.size Y W) (.done [0, 1, 2, 3, 4, 5, 6]) (by kernel_rfl) (by kernel_rfl) (fun _ _ _ _ _ h => h) ⟨(by go_simp), (by go_simp), hBr.drew⟩ ?_
          clear c1 c2 hBr
          rintro W ⟨c1, c2, hBr⟩
          rw [wpSched]
          simp only [pick, List.map_cons, List.map_nil, Array.getD_eq_getD_getElem?, List.getElem?_toArray, List.getElem?_cons_succ, List.getElem?_cons_zero, Option.getD_some]
          have kc1 := plusW_cell c1
          have kc2 := plusW_cell c2
          repeat (first | go_big_quiet_step (fail) | quiet_step (fail))
          refine wpQuiet_nil ?_
          clear kc1 kc2
          go_wp2_with fail
          refine wp_region_sched (fun W => W.cell? ⟨b1, i, none⟩ = some (.int .i64 (a : Int)) ∧ W.cell? ⟨b2, i, none⟩ = some (.int .i64 (b : Int)) ∧ Below Y.heap.size Y W) (.done [0, 1, 2, 3, 4, 5, 6]) (by kernel_rfl) (by kernel_rfl) (fun _ _ _ _ _ h => h) ⟨(by go_simp), (by go_simp), hBr.drew⟩ ?_
          clear c1 c2 hBr
          rintro W2 ⟨c1, c2, hBr⟩
          rw [wpSched]
          simp only [pick, List.map_cons, List.map_nil, Array.getD_eq_getD_getElem?, List.getElem?_toArray, List.getElem?_cons_succ, List.getElem?_cons_zero, Option.getD_some]
          have kc1 := plusW_cell c1
          have kc2 := plusW_cell c2
          repeat (first | go_big_quiet_step (fail) | quiet_step (fail))
          refine wpQuiet_nil ?_
          clear kc1 kc2
          go_wp2_with fail
          exact ⟨⟨i + 1, mL, mM, by omega, by omega, by omega, by go_num, rfl, rfl, by rw [HS2.out, HK.out]; congr 1; omega, by rw [HS2.out, HN4.out], hBr, by have := HC.out; rw [← KL.out]; omega, by have := HC.out; rw [← KM.out]; omega⟩, by simp [intOf]; omega⟩
        · have hab : decide (a < b) = false := decide_eq_false (by omega)
          have hba : decide (b < a) = true := decide_eq_true (by omega)
          have HC := Lib.hid hcmp
          clear hcmp
          go_wp2_with fail
          refine wp_region_sched (fun W => W.cell? ⟨b1, i, none⟩ = some (.int .i64 (a : Int)) ∧ W.cell? ⟨b2, i, none⟩ = some (.int .i64 (b : Int)) ∧ Below Y.heap.size Y W) (.done [0, 1, 2, 3, 4, 5, 6]) (by kernel_rfl) (by kernel_rfl) (fun _ _ _ _ _ h => h) ⟨(by go_simp), (by go_simp), hBr.drew⟩ ?_
          clear c1 c2 hBr
          rintro W ⟨c1, c2, hBr⟩
          rw [wpSched]
          simp only [pick, List.map_cons, List.map_nil, Array.getD_eq_getD_getElem?, List.getElem?_toArray, List.getElem?_cons_succ, List.getElem?_cons_zero, Option.getD_some]
          have kc1 := plusW_cell c1
          have kc2 := plusW_cell c2
          repeat (first | go_big_quiet_step (fail) | quiet_step (fail))
          refine wpQuiet_nil ?_
          clear kc1 kc2
          go_wp2_with fail
          refine wp_region_sched (fun W => W.cell? ⟨b1, i, none⟩ = some (.int .i64 (a : Int)) ∧ W.cell? ⟨b2, i, none⟩ = some (.int .i64 (b : Int)) ∧ Below Y.heap.size Y W) (.done [0, 1, 2, 3, 4, 5, 6]) (by kernel_rfl) (by kernel_rfl) (fun _ _ _ _ _ h => h) ⟨(by go_simp), (by go_simp), hBr.drew⟩ ?_
          clear c1 c2 hBr
          rintro W2 ⟨c1, c2, hBr⟩
          rw [wpSched]
          simp only [pick, List.map_cons, List.map_nil, Array.getD_eq_getD_getElem?, List.getElem?_toArray, List.getElem?_cons_succ, List.getElem?_cons_zero, Option.getD_some]
          have kc1 := plusW_cell c1
          have kc2 := plusW_cell c2
          repeat (first | go_big_quiet_step (fail) | quiet_step (fail))
          refine wpQuiet_nil ?_
          clear kc1 kc2
          go_wp2_with fail
          exact ⟨⟨i + 1, mL, mM + 1, by omega, by omega, by omega, by go_num, rfl, by congr 1, by rw [HS2.out, HK.out]; congr 1; omega, by rw [HS2.out, HN4.out], hBr, by have := HC.out; rw [← KL.out]; omega, by have := HC.out; rw [← KM.out]; omega⟩, by simp [intOf]; omega⟩
      · have hkj : decide ((i : Int) < 16) = false := by simp; omega
        have HS1 := Lib.hid (show min i 16 = 16 by omega)
        have HS2 := Lib.hid (show min (i + 1) 16 = 16 by omega)
        rw [HS1.out]
        obtain ⟨q, hq⟩ : ∃ q, Sgn.lack d 16 = q := ⟨_, rfl⟩
        obtain ⟨n4, hn4⟩ : ∃ q, Sgn.num4 d 16 = q := ⟨_, rfl⟩
        have HQ := Lib.hid hq
        have HN4 := Lib.hid hn4
        rw [hq, hn4]
        clear hlow hq hn4
        rcases Nat.lt_trichotomy a b with hcmp | hcmp | hcmp
        · have hab : decide (a < b) = true := decide_eq_true (by omega)
          have hba : decide (b < a) = false := decide_eq_false (by omega)
          have HC := Lib.hid hcmp
          clear hcmp
          go_wp2_with fail
          refine wp_region_sched (fun W => W.cell? ⟨b1, i, none⟩ = some (.int .i64 (a : Int)) ∧ W.cell? ⟨b2, i, none⟩ = some (.int .i64 (b : Int)) ∧ Below Y.heap.size Y W) (.done [0, 1, 2, 3, 4, 5, 6]) (by kernel_rfl) (by kernel_rfl) (fun _ _ _ _ _ h => h) ⟨(by go_simp), (by go_simp), hBr.drew⟩ ?_
          clear c1 c2 hBr
          rintro W ⟨c1, c2, hBr⟩
          rw [wpSched]
          simp only [pick, List.map_cons, List.map_nil, Array.getD_eq_getD_getElem?, List.getElem?_toArray, List.getElem?_cons_succ, List.getElem?_cons_zero, Option.getD_some]
          have kc1 := plusW_cell c1
          have kc2 := plusW_cell c2
          repeat (first | go_big_quiet_step (fail) | quiet_step (fail))
          refine wpQuiet_nil ?_
          clear kc1 kc2
          go_wp2_with fail
          refine wp_region_sched (fun W => W.cell? ⟨b1, i, none⟩ = some (.int .i64 (a : Int)) ∧ W.cell? ⟨b2, i, none⟩ = some (.int .i64 (b : Int)) ∧ Below Y.heap.size Y W) (.done [0, 1, 2, 3, 4, 5, 6]) (by kernel_rfl) (by kernel_rfl) (fun _ _ _ _ _ h => h) ⟨(by go_simp), (by go_simp), hBr.drew⟩ ?_
          clear c1 c2 hBr
          rintro W2 ⟨c1, c2, hBr⟩
          rw [wpSched]
          simp only [pick, List.map_cons, List.map_nil, Array.getD_eq_getD_getElem?, List.getElem?_toArray, List.getElem?_cons_succ, List.getElem?_cons_zero, Option.getD_some]
          have kc1 := plusW_cell c1
          have kc2 := plusW_cell c2
          repeat (first | go_big_quiet_step (fail) | quiet_step (fail))
          refine wpQuiet_nil ?_
          clear kc1 kc2
          go_wp2_with fail
          exact ⟨⟨i + 1, mL + 1, mM, by omega, by omega, by omega, by go_num, by congr 1, rfl, by rw [HS2.out, HQ.out], by rw [HS2.out, HN4.out], hBr, by have := HC.out; rw [← KL.out]; omega, by have := HC.out; rw [← KM.out]; omega⟩, by simp [intOf]; omega⟩
        · have hab : decide (a < b) = false := decide_eq_false (by omega)
          have hba : decide (b < a) = false := decide_eq_false (by omega)
          have HC := Lib.hid hcmp
          clear hcmp
          go_wp2_with fail
          refine wp_region_sched (fun W => W.cell? ⟨b1, i, none⟩ = some (.int .i64 (a : Int)) ∧ W.cell? ⟨b2, i, none⟩ = some (.int .i64 (b : Int)) ∧ Below Y.heap.size Y W) (.done [0, 1, 2, 3, 4, 5, 6]) (by kernel_rfl) (by kernel_rfl) (fun _ _ _ _ _ h => h) ⟨(by go_simp), (by go_simp), hBr.drew⟩ ?_
          clear c1 c2 hBr
          rintro W ⟨c1, c2, hBr⟩
          rw [wpSched]
          simp only [pick, List.map_cons, List.map_nil, Array.getD_eq_getD_getElem?, List.getElem?_toArray, List.getElem?_cons_succ, List.getElem?_cons_zero, Option.getD_some]
          have kc1 := plusW_cell c1
          have kc2 := plusW_cell c2
          repeat (first | go_big_quiet_step (fail) | quiet_step (fail))
          refine wpQuiet_nil ?_
          clear kc1 kc2
          go_wp2_with fail
          refine wp_region_sched (fun W => W.cell? ⟨b1, i, none⟩ = some (.int .i64 (a : Int)) ∧ W.cell? ⟨b2, i, none⟩ = some (.int .i64 (b : Int)) ∧ Below Y.heap.size Y W) (.done [0, 1, 2, 3, 4, 5, 6]) (by kernel_rfl) (by kernel_rfl) (fun _ _ _ _ _ h => h) ⟨(by go_simp), (by go_simp), hBr.drew⟩ ?_
          clear c1 c2 hBr
          rintro W2 ⟨c1, c2, hBr⟩
          rw [wpSched]
          simp only [pick, List.map_cons, List.map_nil, Array.getD_eq_getD_getElem?, List.getElem?_toArray, List.getElem?_cons_succ, List.getElem?_cons_zero, Option.getD_some]
          have kc1 := plusW_cell c1
          have kc2 := plusW_cell c2
          repeat (first | go_big_quiet_step (fail) | quiet_step (fail))
          refine wpQuiet_nil ?_
          clear kc1 kc2
          go_wp2_with fail
          exact ⟨⟨i + 1, mL, mM, by omega, by omega, by omega, by go_num, rfl, rfl, by rw [HS2.out, HQ.out], by rw [HS2.out, HN4.out], hBr, by have := HC.out; rw [← KL.out]; omega, by have := HC.out; rw [← KM.out]; omega⟩, by simp [intOf]; omega⟩
        · have hab : decide (a < b) = false := decide_eq_false (by omega)
          have hba : decide (b < a) = true := decide_eq_true (by omega)
          have HC := Lib.hid hcmp
          clear hcmp
          go_wp2_with fail
          refine wp_region_sched (fun W => W.cell? ⟨b1, i, none⟩ = some (.int .i64 (a : Int)) ∧ W.cell? ⟨b2, i, none⟩ = some (.int .i64 (b : Int)) ∧ Below Y.heap.size Y W) (.done [0, 1, 2, 3, 4, 5, 6]) (by kernel_rfl) (by kernel_rfl) (fun _ _ _ _ _ h => h) ⟨(by go_simp), (by go_simp), hBr.drew⟩ ?_
          clear c1 c2 hBr
          rintro W ⟨c1, c2, hBr⟩
          rw [wpSched]
          simp only [pick, List.map_cons, List.map_nil, Array.getD_eq_getD_getElem?, List.getElem?_toArray, List.getElem?_cons_succ, List.getElem?_cons_zero, Option.getD_some]
          have kc1 := plusW_cell c1
          have kc2 := plusW_cell c2
          repeat (first | go_big_quiet_step (fail) | quiet_step (fail))
          refine wpQuiet_nil ?_
          clear kc1 kc2
          go_wp2_with fail
          refine wp_region_sched (fun W => W.cell? ⟨b1, i, none⟩ = some (.int .i64 (a : Int)) ∧ W.cell? ⟨b2, i, none⟩ = some (.int .i64 (b : Int)) ∧ Below Y.heap.size Y W) (.done [0, 1, 2, 3, 4, 5, 6]) (by kernel_rfl) (by kernel_rfl) (fun _ _ _ _ _ h => h) ⟨(by go_simp), (by go_simp), hBr.drew⟩ ?_
          clear c1 c2 hBr
          rintro W2 ⟨c1, c2, hBr⟩
          rw [wpSched]
          simp only [pick, List.map_cons, List.map_nil, Array.getD_eq_getD_getElem?, List.getElem?_toArray, List.getElem?_cons_succ, List.getElem?_cons_zero, Option.getD_some]
          have kc1 := plusW_cell c1
          have kc2 := plusW_cell c2
          repeat (first | go_big_quiet_step (fail) | quiet_step (fail))
          refine wpQuiet_nil ?_
          clear kc1 kc2
          go_wp2_with fail
          exact ⟨⟨i + 1, mL, mM + 1, by omega, by omega, by omega, by go_num, rfl, by congr 1, by rw [HS2.out, HQ.out], by rw [HS2.out, HN4.out], hBr, by have := HC.out; rw [← KL.out]; omega, by have := HC.out; rw [← KM.out]; omega⟩, by simp [intOf]; omega⟩
    · obtain rfl : i = 18 := by omega
      have hlk := Sgn.lack_le d 16
      have c16 : wr.cell? ⟨b1, 16, none⟩ = some (.int .i64 ((Sgn.dig d 16 : Nat) : Int)) := later hBr (A1.out.at 16 (by omega)).1
      have c17 : wr.cell? ⟨b1, 17, none⟩ = some (.int .i64 ((Sgn.dig d 17 : Nat) : Int)) := later hBr (A1.out.at 17 (by omega)).1
      rw [Sgn.dig_16] at c16
      rw [Sgn.dig_17] at c17
      rw [show min 18 16 = 16 from rfl, Sgn.num4_all, show ((18 : Nat) : Int) = 18 from rfl]
      have hLe : (0 < mL) ↔ d ≠ e := by
        rw [HL.out]
        constructor
        · rintro ⟨j, _, h⟩ rfl
          omega
        · intro h
          exact Sgn.dig_less h
      have hMe : (0 < mM) ↔ d ≠ e := by
        rw [HM.out]
        constructor
        · rintro ⟨j, _, h⟩ rfl
          omega
        · intro h
          exact Sgn.dig_less (Ne.symm h)
      obtain ⟨q, hq⟩ : ∃ q, Sgn.lack d 16 = q := ⟨_, rfl⟩
      rw [hq] at c16 c17 hlk ⊢
      obtain ⟨m1, hm1⟩ : ∃ k, q % 16 = k := ⟨_, rfl⟩
      obtain ⟨m2, hm2⟩ : ∃ k, q / 16 = k := ⟨_, rfl⟩
      have HQ := Lib.hid (show m1 + 16 * m2 = q by omega)
      have hq1 : (m1 : Int) + 16 * (m2 : Int) = (q : Int) := by omega
      have hm15 : m1 ≤ 15 := by omega
      have hm215 : m2 ≤ 15 := by omega
      rw [hm1] at c16
      rw [hm2] at c17
      clear hm1 hm2 hq hlk HL HM hlt
      by_cases hde : d = e
      · have l0 : mL = 0 := by have : ¬ 0 < mL := fun h => hLe.1 h hde; omega
        have m0 : mM = 0 := by have : ¬ 0 < mM := fun h => hMe.1 h hde; omega
        subst hde l0 m0
        clear hLe hMe hmL hmM
        go_wp2_with fail
        refine (awake_any _).mono ?_
        rintro e' w2 ⟨rfl, hb⟩
        go_wp2_with fail
        go_ret
        exact ⟨rfl, thru (thru hB hBr) hb⟩
      · have l0 : 0 < mL := hLe.2 hde
        have m0 : 0 < mM := hMe.2 hde
        have hll : decide (0 < mL) = true := decide_eq_true l0
        have hmm : decide (0 < mM) = true := decide_eq_true m0
        have hdb : (num d != num e) = true := by rw [bne_iff_ne]; exact fun h => hde (num_inj h)
        clear hLe hMe hmL hmM l0 m0
        go_wp2_with fail
        refine (awake_any _).mono ?_
        rintro e' w2 ⟨rfl, hb⟩
        go_wp2_with fail
        go_ret
        exact ⟨rfl, thru (thru hB hBr) hb⟩

end Go.Proofs.Ytjpicnfkmfjnoaa
