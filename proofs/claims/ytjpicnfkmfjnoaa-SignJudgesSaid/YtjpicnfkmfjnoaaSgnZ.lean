/- WALKS of the reference of the sign layer: Verify. -/
import Derived.Test.YtjpicnfkmfjnoaaSgnV
import Derived.Test.YtjpicnfkmfjnoaaSgnR
namespace Go.Proofs.Ytjpicnfkmfjnoaa
open Go.RowKit

theorem refVerify_no (root : D64) (h : Int) (d : D64) (key : Int) (f : Nat → D64) (x : Option Addr) (n c : Nat) (w : World) (hn : vldS h key = false ∨ (n : Int) ≠ h) :
    Calls Try.prog 32 #[.int .u64 (num root), .int .i64 h, .int .u64 (num d), aggN 20 (sigV key f x n c)] w fun e w' => e = .returned (.bool false) ∧ Below w.heap.size w w' := by
  have hv2 := refValid_any h key
  go_enter Try.func32, Try.ntmps32
  go_wp2_with (refine wpList_boxN rfl _ _ rfl rfl ?_; intro W g hB hz; refine Hid.out ?_)
  unfold Hid
  try simp only [Act.put, List.setIfInBounds_toArray, List.set_cons_zero, List.set_cons_succ]
  have c0 : W.cell? ⟨w.heap.size, 0, none⟩ = some (.int .i64 key) := (g.at 0 (by omega)).1
  have c19 : W.cell? ⟨w.heap.size, 19, none⟩ = some (.slice x n c) := (g.at 19 (by omega)).1
  clear g hz
  cases hv : vldS h key with
  | false =>
    rw [hv] at hv2
    clear hn hv
    go_wp2_with fail
    refine (hv2 _).mono ?_
    rintro e w1 ⟨rfl, hw⟩
    obtain rfl : W = w1 := hw.symm
    clear hw hv2
    go_wp2_with fail
    go_ret
    exact ⟨rfl, hB⟩
  | true =>
    have hne : ((n : Int) == h) = false := by
      rcases hn with hn | hn
      · rw [hv] at hn; cases hn
      · simp [hn]
    rw [hv] at hv2
    clear hn hv
    go_wp2_with fail
    refine (hv2 _).mono ?_
    rintro e w1 ⟨rfl, hw⟩
    obtain rfl : W = w1 := hw.symm
    clear hv2 hw
    go_wp2_with fail
    go_ret
    exact ⟨rfl, hB⟩
set_option maxRecDepth 20000 in
set_option maxHeartbeats 2000000 in
theorem refVerify_yes (root d : D64) (key : Nat) (f : Nat → D64) (p : List D64) (x : Option Addr) (c : Nat) (w : World) (hp : Wts w x p) (h6 : p.length ≤ 6) (hk : key < 2 ^ p.length) :
    Calls Try.prog 32 #[.int .u64 (num root), .int .i64 (p.length : Int), .int .u64 (num d), aggN 20 (sigV (key : Int) f x p.length c)] w fun e w' => e = .returned (.bool (Sgn.vfy d key f p == root)) ∧ Below w.heap.size w w' := by
  have hki : (key : Int) < 2 ^ p.length := by
    have : ((key : Nat) : Int) < ((2 ^ p.length : Nat) : Int) := by exact_mod_cast hk
    simpa using this
  have hk64 : key < 64 := Nat.lt_of_lt_of_le hk (Nat.pow_le_pow_right (n := 2) (by decide) h6)
  have hvv : vldS (p.length : Int) (key : Int) = true := by
    unfold vldS
    refine decide_eq_true ⟨by omega, by omega, by omega, ?_⟩
    rw [Int.toNat_natCast]
    exact hki
  have HV0 := refValid_any (p.length : Int) (key : Int)
  rw [hvv] at HV0
  obtain ⟨E, hE0⟩ : ∃ E : Nat → D64, (fun i => Sgn.adv (UInt8.ofNat i) (Sgn.dig d i) (15 - Sgn.dig d i) (f i)) = E := ⟨_, rfl⟩
  have HEE := Lib.hid hE0
  have HVF : Hid (Sgn.vfy d key f p = Sgn.up key p (Dig.ofL (Sgn.ends E 18)) p.length) := by show _ = _; unfold Sgn.vfy; rw [hE0]; rfl
  obtain ⟨n, hn⟩ : ∃ n, p.length = n := ⟨_, rfl⟩
  have HN := Lib.hid hn
  rw [hn] at h6 HV0 HVF ⊢
  have hnn : ((n : Int) == (n : Int)) = true := by simp
  clear hk hki hn hvv hE0
  go_enter Try.func32, Try.ntmps32
  go_wp2_with (refine wpList_boxN rfl _ _ rfl rfl ?_; intro W g hB hz; refine Hid.out ?_)
  unfold Hid
  try simp only [Act.put, List.setIfInBounds_toArray, List.set_cons_zero, List.set_cons_succ]
  obtain ⟨a, ha⟩ : ∃ a, w.heap.size = a := ⟨_, rfl⟩
  have haW : a < W.heap.size := by omega
  rw [ha] at g hz ⊢
  have gx := hp.later (hB.mono (Nat.le_refl _))
  clear hp hz ha
  have c0 : W.cell? ⟨a, 0, none⟩ = some (.int .i64 (key : Int)) := (g.at 0 (by omega)).1
  have c19 : W.cell? ⟨a, 19, none⟩ = some (.slice x n c) := (g.at 19 (by omega)).1
  go_wp2_with fail
  refine (HV0 _).mono ?_
  rintro e w1 ⟨rfl, hw⟩
  obtain rfl : W = w1 := hw.symm
  clear HV0 hw
  go_wp2_with fail
  refine (refDigits_any d _).mono ?_
  rintro e W1 ⟨rfl, hb⟩
  replace hB := thru hB hb
  replace g := g.later hb
  replace gx := gx.later hb
  replace haW : a < W1.heap.size := Nat.lt_of_lt_of_le haW hb.size
  clear hb c0 c19
  go_wp2_with (refine wpList_allocTo 10 rfl rfl _ rfl arrI_zero ?_; intro Xp0 a_b hb0 hz0; refine Hid.out ?_)
  unfold Hid
  try simp only [Act.put, List.setIfInBounds_toArray, List.set_cons_zero, List.set_cons_succ]
  obtain ⟨b, e_b⟩ : ∃ a, W1.heap.size = a := ⟨_, rfl⟩
  have s_b : W1.heap.size ≤ b := by omega
  have hb := hb0
  rw [e_b] at a_b hz0 ⊢
  clear hb0
  have hz : b < Xp0.heap.size := by omega
  clear e_b hz0
  go_wp2_with (refine wpList_storeB rfl rfl _ (.tmp 10) _ rfl (b := b) (q := 0) rfl (n := 18) (v := digV d) (aggN_arr _).symm a_b (fun _ _ => rfl) arrI_size ?_; intro Yp0 t1; refine Hid.out ?_)
  unfold Hid
  replace hb := t1.below _ _ (by omega) hb
  replace a_b := t1.blk
  rw [← t1.size] at hz
  clear t1
  replace g := g.later hb
  replace gx := gx.later hb
  replace hB := thru hB hb
  clear hb hz

  obtain ⟨Z, hZ⟩ : ∃ Z, Yp0 = Z := ⟨_, rfl⟩
  rw [hZ] at g gx a_b hB ⊢
  have hbz : b < Z.heap.size := World.block_lt_of_cell? _ _ (a_b.at 0 (by omega)).1
  have haz : a < Z.heap.size := by omega
  have AB := Lib.hid a_b
  have GG := Lib.hid g
  have GX := Lib.hid gx
  clear hZ a_b g gx s_b haW
  go_wp2_with fail
  go_loopw [9, 11] (fun u9 u11 wr => ∃ i y cy, i ≤ 18 ∧ u11 = .int .i64 ((i : Nat) : Int) ∧ u9 = .slice y (Sgn.ends E i).length cy ∧ OwnsB Z.heap.size wr y cy (Sgn.ends E i) ∧ Below Z.heap.size Z wr) (fun _ u11 _ => 18 - (intOf u11).toNat)
  case atStart => exact ⟨0, none, 0, by omega, rfl, rfl, OwnsB.nil _ _, Below.refl _ _⟩
  case round =>
    obtain ⟨i, y, cy, hi, rfl, rfl, hown, hBr⟩ := hrel
    by_cases hlt : i < 18
    · have hki : decide ((i : Int) < 18) = true := by simp; omega
      have hi18 : decide ((i : Int) < 18) = true := hki
      have c1 : wr.cell? ⟨b, i, none⟩ = some (.int .i64 ((Sgn.dig d i : Nat) : Int)) := later hBr (AB.out.at i hlt).1
      have c2 : wr.cell? ⟨a, 1 + i, none⟩ = some (.int .u64 (num (f i))) := later hBr (GG.out.chain i hlt).1
      have hx15 := Sgn.dig_le d i
      have hEi : Sgn.adv (UInt8.ofNat i) (Sgn.dig d i) (15 - Sgn.dig d i) (f i) = E i := by rw [← HEE.out]
      obtain ⟨x, hx⟩ : ∃ x, Sgn.dig d i = x := ⟨_, rfl⟩
      obtain ⟨fi, hfi⟩ : ∃ y, f i = y := ⟨_, rfl⟩
      rw [hx] at c1 hx15 hEi
      rw [hfi] at c2 hEi
      obtain ⟨v, hv⟩ : ∃ v, E i = v := ⟨_, rfl⟩
      rw [hv] at hEi
      have HV := Lib.hid hEi
      obtain ⟨lx, hlx⟩ : ∃ l, Dig.bytes v = l := ⟨_, rfl⟩
      have nx : lx.length = 8 := by rw [← hlx]; exact Dig.bytes_length _
      have cx := refBytes_any v
      rw [hlx] at cx
      have hle := Sgn.ends_length E i
      have hE : Sgn.ends E (i + 1) = Sgn.ends E i ++ lx := by rw [← hlx, ← hv]; rfl
      obtain ⟨l, hl⟩ : ∃ l, Sgn.ends E i = l := ⟨_, rfl⟩
      have hll : l.length ≤ 200 := by rw [← hl]; omega
      rw [hl] at hown hE ⊢
      obtain ⟨lm, hlm⟩ : ∃ lm, l ++ lx = lm := ⟨_, rfl⟩
      rw [hlm] at hE
      have HM := Lib.hid hE
      have HE := Lib.hid hlm
      have HO := Lib.hid hown
      have HX := Lib.hid nx
      have HLL := Lib.hid hll
      clear hlx nx hle hE hlm hl hown hll hv hEi hx hfi
      go_wp2_with fail
      refine wp_region_schedB (B := Z.heap.size) (fun X => X.cell? ⟨b, i, none⟩ = some (.int .i64 (x : Int)) ∧ X.cell? ⟨a, 1 + i, none⟩ = some (.int .u64 (num fi)) ∧ OwnsB Z.heap.size X y cy l ∧ Below Z.heap.size Z X) (.one [0, 1, 2, 3, 4, 5, 6, 7, 8] 9 (.one [] 10 (.one [] 11 (.done [12])))) (by kernel_rfl) (by kernel_rfl) (fun _ _ _ _ _ h => h) ⟨c1, c2, HO.out.turn ((Turns.refl (fun _ => False) wr).drew) (fun _ _ e => e), hBr.drew⟩ ?_
      clear c1 c2 HO hBr
      rintro X ⟨c1, c2, ho, hBr⟩
      have HO := Lib.hid ho
      clear ho
      rw [wpSchedB]
      simp only [pick, List.map_cons, List.map_nil, Array.getD_eq_getD_getElem?, List.getElem?_toArray, List.getElem?_cons_succ, List.getElem?_cons_zero, Option.getD_some]
      have k1 := plusB_cell (B := Z.heap.size) c1 hbz
      have k2 := plusB_cell (B := Z.heap.size) c2 haz
      repeat (first | go_big_quiet_step (fail) | quiet_step (fail))
      refine wpQuiet_nil ?_
      clear k1 k2
      refine heavyB_want (by rfl) (fun K' hK' => ?_)
      go_simp
      refine (refAdvance_any i x 15 fi _ hx15 (by omega)).mono ?_
      rintro e X1 ⟨rfl, hb⟩
      refine hK' _ _ (hb.mono hBr.size) ?_
      clear hK' K'
      rw [HV.out]
      have HO1 := Lib.hid (HO.out.later hb)
      replace hBr := thru hBr hb
      clear hb HO c1 c2
      try simp only [Act.put, List.setIfInBounds_toArray, List.set_cons_zero, List.set_cons_succ]
      rw [wpSchedB]
      simp only [pick, List.map_nil, Array.getD_eq_getD_getElem?, List.getElem?_toArray, List.getElem?_cons_succ, List.getElem?_cons_zero, Option.getD_some]
      refine wpQuiet_nil ?_
      refine heavyB_want (by rfl) (fun K' hK' => ?_)
      go_simp
      refine (cx _).mono ?_
      rintro e X2 ⟨b3, c3, rfl, y3, hb⟩
      refine hK' _ _ (hb.mono hBr.size) ?_
      clear hK' K'
      have HO2 := Lib.hid (HO1.out.later hb)
      have Y3 := Lib.hid y3
      replace hBr := thru hBr hb
      clear hb HO1 y3 cx
      try simp only [Act.put, List.setIfInBounds_toArray, List.set_cons_zero, List.set_cons_succ]
      rw [wpSchedB]
      simp only [pick, List.map_nil, Array.getD_eq_getD_getElem?, List.getElem?_toArray, List.getElem?_cons_succ, List.getElem?_cons_zero, Option.getD_some]
      refine wpQuiet_nil ?_
      refine heavyB_want (by rfl) (fun K' hK' => ?_)
      refine wp_app _ _ rfl HO2.out rfl (m := lx) rfl Y3.out.bts Y3.out.none_cap (by have := HX.out; have := HLL.out; omega) HE.out hBr.size (fun x' cap' w3 h3 h4 _ => hK' _ _ h4 ?_)
      clear hK' K'
      have hB3 := hBr.trans h4
      have H3 := Lib.hid h3
      clear h3 h4 HO2 Y3 hBr
      try simp only [Act.put, List.setIfInBounds_toArray, List.set_cons_zero, List.set_cons_succ]
      rw [wpSchedB]
      simp only [pick, List.map_cons, List.map_nil, Array.getD_eq_getD_getElem?, List.getElem?_toArray, List.getElem?_cons_succ, List.getElem?_cons_zero, Option.getD_some]
      repeat (first | go_big_quiet_step (fail) | quiet_step (fail))
      refine wpQuiet_nil ?_
      go_wp2_with fail
      refine ⟨⟨i + 1, x', cap', by omega, by go_num, by rw [HM.out], by rw [HM.out]; exact H3.out, hB3⟩, by simp [intOf]; omega⟩
    · obtain rfl : i = 18 := by omega
      rw [show ((18 : Nat) : Int) = 18 from rfl]
      have hle := Sgn.ends_length E 18
      obtain ⟨l, hl⟩ : ∃ l, Sgn.ends E 18 = l := ⟨_, rfl⟩
      rw [hl] at hown HVF hle ⊢
      have hlb : l.length ≤ 100000 := by omega
      have y3 := hown.bts
      have c0 : wr.cell? ⟨a, 0, none⟩ = some (.int .i64 (key : Int)) := later hBr (GG.out.at 0 (by omega)).1
      have c19 : Z.cell? ⟨a, 19, none⟩ = some (.slice x n c) := (GG.out.at 19 (by omega)).1
      clear hl hown hle
      go_wp2_with fail
      refine (refOf_any _ l _ _ hlb y3).mono ?_
      rintro e w4 ⟨rfl, rfl⟩
      obtain ⟨x0, hx0⟩ : ∃ x, Dig.ofL l = x := ⟨_, rfl⟩
      rw [hx0] at HVF ⊢
      clear y3 hlb hx0
      go_wp2_with fail
      clear c0
      go_loopw [12, 13, 14] (fun u12 u13 u14 wr => ∃ j : Nat, j ≤ n ∧ u14 = .int .i64 (j : Int) ∧ u13 = .int .i64 ((key / 2 ^ j : Nat) : Int) ∧ u12 = .int .u64 (num (Sgn.up key p x0 j)) ∧ Below Z.heap.size Z wr) (fun _ _ u14 _ => n - (intOf u14).toNat)
      case atStart => exact ⟨0, by omega, rfl, by rw [Nat.pow_zero, Nat.div_one], rfl, hBr⟩
      case round =>
        obtain ⟨j, hj, rfl, rfl, rfl, hBs⟩ := hrel
        by_cases hlt : j < n
        · have hjn : decide (j < n) = true := decide_eq_true hlt
          obtain ⟨b', o', rfl, k1⟩ := GX.out.cell j (by have := HN.out; omega)
          replace k1 := later hBs k1
          have d19 := later hBs c19
          have hup : Sgn.up key p x0 (j + 1) = if key / 2 ^ j % 2 = 0 then Dig.pair (Sgn.up key p x0 j) (p.getD j 0#64) else Dig.pair (p.getD j 0#64) (Sgn.up key p x0 j) := rfl
          have hm64 : key / 2 ^ j < 64 := Nat.lt_of_le_of_lt (Nat.div_le_self _ _) hk64
          have hq2 : key / 2 ^ (j + 1) = key / 2 ^ j / 2 := by rw [Nat.pow_succ, Nat.div_div_eq_div_mul]
          obtain ⟨m, hm⟩ : ∃ m, key / 2 ^ j = m := ⟨_, rfl⟩
          rw [hm] at hup hm64 hq2 ⊢
          obtain ⟨y, hy⟩ : ∃ y, p.getD j 0#64 = y := ⟨_, rfl⟩
          rw [hy] at hup k1
          obtain ⟨z, hz⟩ : ∃ y, Sgn.up key p x0 j = y := ⟨_, rfl⟩
          rw [hz] at hup ⊢
          obtain ⟨q2, hq2v⟩ : ∃ q, m / 2 = q := ⟨_, rfl⟩
          rw [hq2v] at hq2
          have hqd : (m : Int) / 2 = (q2 : Int) := by omega
          have hqdt : (m : Int).tdiv 2 = (q2 : Int) := by rw [Int.tdiv_eq_ediv_of_nonneg (by omega)]; omega
          obtain ⟨r, hr⟩ : ∃ r, m % 2 = r := ⟨_, rfl⟩
          rw [hr] at hup
          have hrd : (m : Int) % 2 = (r : Int) := by omega
          have hrdt : (m : Int).tmod 2 = (r : Int) := by rw [Int.tmod_eq_emod_of_nonneg (by omega)]; omega
          have HU := Lib.hid hup
          have HQ2 := Lib.hid hq2
          clear hm hy hz hr hup hq2 hq2v c19
          by_cases h0 : r = 0
          · subst h0
            go_wp2_with fail
            refine (refPair_any z y _).mono ?_
            rintro e W4 ⟨rfl, hb⟩
            replace hBs := thru hBs hb
            clear hb
            have HE := Lib.hid (show Sgn.up key p x0 (j + 1) = Dig.pair z y by rw [HU.out]; simp)
            go_wp2_with fail
            exact ⟨⟨j + 1, by omega, by go_num, by rw [HQ2.out], by rw [HE.out], hBs⟩, by simp [intOf]; omega⟩
          · have hr0 : ((r : Int) == 0) = false := by simp [h0]
            go_wp2_with fail
            refine (refPair_any y z _).mono ?_
            rintro e W4 ⟨rfl, hb⟩
            replace hBs := thru hBs hb
            clear hb
            have HE := Lib.hid (show Sgn.up key p x0 (j + 1) = Dig.pair y z by rw [HU.out, if_neg h0])
            go_wp2_with fail
            exact ⟨⟨j + 1, by omega, by go_num, by rw [HQ2.out], by rw [HE.out], hBs⟩, by simp [intOf]; omega⟩
        · obtain rfl : j = n := by omega
          have hnn : decide (j < j) = false := decide_eq_false hlt
          clear c19
          go_wp2_with fail
          go_ret
          exact ⟨by rw [HVF.out]; rfl, thru hB hBs⟩

end Go.Proofs.Ytjpicnfkmfjnoaa
