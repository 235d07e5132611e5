/- WALKS of the sign layer: Verify. -/
import Derived.Test.YtjpicnfkmfjnoaaSgnK
import Derived.Test.YtjpicnfkmfjnoaaRegionR
namespace Go.Proofs.Ytjpicnfkmfjnoaa
open Go.RowKit

theorem verify1_any (d : D64) (f : Nat → D64) (i b1 b2 : Nat) (w : World) (hi : i < 18) (h1 : Arr w b1 (digV d)) (h2 : Blk w b2 1 18 (wrdV f)) :
    Calls Try.prog 47 #[.int .i64 (i : Int), .pointer (some ⟨b1, 0, none⟩), .pointer (some ⟨b2, 0, none⟩)] w (NumOf (Sgn.adv (UInt8.ofNat i) (Sgn.dig d i) (15 - Sgn.dig d i) (f i)) w) := by
  have c1 := (h1 i hi).1
  unfold digV at c1
  have c2 : w.cell? ⟨b2, 1 + i, none⟩ = some (.int .u64 (num (f i))) := (h2 i hi).1
  have hx15 := Sgn.dig_le d i
  obtain ⟨z, hz⟩ : ∃ z, Sgn.adv (UInt8.ofNat i) (Sgn.dig d i) (15 - Sgn.dig d i) (f i) = z := ⟨_, rfl⟩
  rw [hz]
  obtain ⟨x, hx⟩ : ∃ x, Sgn.dig d i = x := ⟨_, rfl⟩
  obtain ⟨y, hy⟩ : ∃ y, f i = y := ⟨_, rfl⟩
  rw [hx] at c1 hx15 hz
  rw [hy] at c2 hz
  have HV := Lib.hid hz
  have hi18 : decide ((i : Int) < 18) = true := by simp; omega
  clear hz hx hy h1 h2
  have hB := Below.refl w.heap.size w
  go_enter Try.func47, Try.ntmps47
  go_wp2_with fail
  refine wp_region_sched (fun W => W.cell? ⟨b1, i, none⟩ = some (.int .i64 (x : Int)) ∧ W.cell? ⟨b2, 1 + i, none⟩ = some (.int .u64 (num y)) ∧ Below w.heap.size w W) (.one [0, 1, 2, 3, 4, 5, 6, 7] 8 (.done [9])) (by kernel_rfl) (by kernel_rfl) (fun _ _ _ _ _ h => h) ⟨(by go_simp), (by go_simp), hB.drew⟩ ?_
  clear hB c1 c2
  rintro W ⟨g1_0, g1_1, hB⟩
  rw [wpSched]
  simp only [pick, List.map_cons, List.map_nil, Array.getD_eq_getD_getElem?, List.getElem?_toArray, List.getElem?_cons_succ, List.getElem?_cons_zero, Option.getD_some]
  have kg1_0 := plusW_cell g1_0
  have kg1_1 := plusW_cell g1_1
  repeat (first | go_big_quiet_step (fail) | quiet_step (fail))
  refine wpQuiet_nil ?_
  clear kg1_0 kg1_1
  refine heavy_want (by rfl) (fun K' hK' => ?_)
  go_simp
  refine (advance_any i x 15 y _ hx15 (by omega)).mono ?_
  rintro e W1 ⟨rfl, hb⟩
  refine hK' _ _ hb ?_
  clear hK' K'
  rw [HV.out]
  have hq := thru (Below.refl _ W) hb
  clear hb
  have g2_0 := later hq g1_0
  have g2_1 := later hq g1_1
  replace hB := thru hB hq
  clear hq g1_0 g1_1
  try simp only [Act.put, List.setIfInBounds_toArray, List.set_cons_zero, List.set_cons_succ]
  rw [wpSched]
  simp only [pick, List.map_cons, List.map_nil, Array.getD_eq_getD_getElem?, List.getElem?_toArray, List.getElem?_cons_succ, List.getElem?_cons_zero, Option.getD_some]
  repeat (first | go_big_quiet_step (fail) | quiet_step (fail))
  refine wpQuiet_nil ?_
  go_wp2_with fail
  go_ret
  exact ⟨rfl, hB⟩
theorem low1 : ∀ m : Fin 64, bits .and .i64 (m.1 : Int) 1 = ((m.1 % 2 : Nat) : Int) := by decide +kernel
theorem verify_no (root : D64) (h : Int) (d : D64) (key : Int) (f : Nat → D64) (x : Option Addr) (n c : Nat) (w : World) (hn : vldS h key = false ∨ (n : Int) ≠ h) :
    Calls Try.prog 23 #[.int .u64 (num root), .int .i64 h, .int .u64 (num d), aggN 20 (sigV key f x n c)] w fun e w' => e = .returned (.bool false) ∧ Below w.heap.size w w' := by
  go_enter Try.func23, Try.ntmps23
  go_wp2_with (refine wpList_boxN rfl _ _ rfl rfl ?_; intro W g hB hz; refine Hid.out ?_)
  unfold Hid
  have c0 : W.cell? ⟨w.heap.size, 0, none⟩ = some (.int .i64 key) := (g.at 0 (by omega)).1
  have c19 : W.cell? ⟨w.heap.size, 19, none⟩ = some (.slice x n c) := (g.at 19 (by omega)).1
  clear g hz
  cases hv : vldS h key with
  | false =>
    clear hn
    go_wp2_with fail
    refine (valid_no h key hv _).mono ?_
    rintro e w1 ⟨rfl, hw⟩
    obtain rfl : W = w1 := hw.symm
    go_wp2_with fail
    go_ret
    exact ⟨rfl, hB⟩
  | true =>
    have hne : ((n : Int) == h) = false := by
      rcases hn with hn | hn
      · rw [hv] at hn; cases hn
      · simp [hn]
    have hv2 := valid_any h key
    rw [hv] at hv2
    clear hn hv
    go_wp2_with fail
    refine (hv2 _).mono ?_
    rintro e w1 ⟨rfl, hw⟩
    obtain rfl : W = w1 := hw.symm
    clear hv2
    go_wp2_with fail
    go_ret
    exact ⟨rfl, hB⟩
/-- The end of the way up. -/
def Sgn.vfy (d : D64) (key : Nat) (f : Nat → D64) (p : List D64) : D64 := Sgn.up key p (Sgn.pubE fun i => Sgn.adv (UInt8.ofNat i) (Sgn.dig d i) (15 - Sgn.dig d i) (f i)) p.length
set_option maxHeartbeats 2000000 in
theorem verify_yes (root d : D64) (key : Nat) (f : Nat → D64) (p : List D64) (x : Option Addr) (c : Nat) (w : World) (hp : Wts w x p) (h6 : p.length ≤ 6) (hk : key < 2 ^ p.length) :
    Calls Try.prog 23 #[.int .u64 (num root), .int .i64 (p.length : Int), .int .u64 (num d), aggN 20 (sigV (key : Int) f x p.length c)] w fun e w' => e = .returned (.bool (Sgn.vfy d key f p == root)) ∧ Below w.heap.size w w' := by
  have hki : (key : Int) < 2 ^ p.length := by
    have : ((key : Nat) : Int) < ((2 ^ p.length : Nat) : Int) := by exact_mod_cast hk
    simpa using this
  have hk64 : key < 64 := Nat.lt_of_lt_of_le hk (Nat.pow_le_pow_right (n := 2) (by decide) h6)
  have HV := valid_yes p.length (key : Int) h6 (by omega) hki
  have HVF : Hid (Sgn.vfy d key f p = Sgn.up key p (Sgn.pubE fun i => Sgn.adv (UInt8.ofNat i) (Sgn.dig d i) (15 - Sgn.dig d i) (f i)) p.length) := rfl
  obtain ⟨n, hn⟩ : ∃ n, p.length = n := ⟨_, rfl⟩
  have HN := Lib.hid hn
  rw [hn] at h6 HV HVF ⊢
  have hnn : ((n : Int) == (n : Int)) = true := by simp
  clear hk hki hn
  go_enter Try.func23, Try.ntmps23
  go_wp2_with (refine wpList_boxN rfl _ _ rfl rfl ?_; intro W g hB hz; refine Hid.out ?_)
  unfold Hid
  obtain ⟨a, ha⟩ : ∃ a, w.heap.size = a := ⟨_, rfl⟩
  rw [ha] at g hz ⊢
  have c0 : W.cell? ⟨a, 0, none⟩ = some (.int .i64 (key : Int)) := (g.at 0 (by omega)).1
  have c19 : W.cell? ⟨a, 19, none⟩ = some (.slice x n c) := (g.at 19 (by omega)).1
  have gc := g.chain
  have hp1 := hp.later (hB.mono (Nat.le_refl _))
  clear g hp hz ha
  go_wp2_with fail
  refine (HV _).mono ?_
  rintro e w1 ⟨rfl, hw⟩
  obtain rfl : W = w1 := hw.symm
  clear HV hw
  go_wp2_with fail
  refine (digits_any d _).mono ?_
  rintro e W1 ⟨rfl, hb⟩
  replace hB := thru hB hb
  replace c0 := later hb c0
  replace c19 := later hb c19
  replace gc := gc.later hb
  replace hp1 := hp1.later hb
  clear hb
  go_wp2_with (refine wpList_allocTo 9 rfl rfl _ rfl arrI_zero ?_; intro X1 a1 hb hz; refine Hid.out ?_)
  unfold Hid
  try simp only [Act.put, List.setIfInBounds_toArray, List.set_cons_zero, List.set_cons_succ]
  obtain ⟨b, hb1⟩ : ∃ a, W1.heap.size = a := ⟨_, rfl⟩
  have s1 : w.heap.size ≤ b := hb1 ▸ hB.size
  have s2 : a < b := hb1 ▸ World.block_lt_of_cell? _ _ c0
  have hx : ∀ y, x = some y → 0 < p.length → y.block < b := fun y hy h0 => hb1 ▸ hp1.lt h0 y hy
  replace hB := thru hB hb
  replace c0 := later hb c0
  replace c19 := later hb c19
  replace gc := gc.later hb
  replace hp1 := hp1.later hb
  rw [hb1] at a1 hz ⊢
  clear hb hb1
  go_wp2_with (refine wpList_storeB rfl rfl _ (.tmp 9) _ rfl (b := b) (q := 0) rfl (aggN_arr _).symm a1 (fun _ _ => rfl) arrI_size ?_; intro Y1 t1; refine Hid.out ?_)
  unfold Hid
  replace hB := t1.below _ _ (by omega) hB
  have a2 := t1.blk.arr
  have hab : a ≠ b := by omega
  replace c0 := (t1.cell ⟨a, 0, none⟩ (fun e _ => absurd e hab)).trans c0
  replace c19 := (t1.cell ⟨a, 19, none⟩ (fun e _ => absurd e hab)).trans c19
  replace gc := t1.other (.inl hab) gc
  have hp2 : Wts Y1 x p := by
    rcases hp1 with h | ⟨b', o', rfl, hc⟩
    · exact .inl h
    · refine .inr ⟨b', o', rfl, fun i hi => (t1.cell ⟨b', o' + i, none⟩ (fun e _ => ?_)).trans (hc i hi)⟩
      have h1 := hx _ rfl (by omega)
      have e' : b' = b := e
      have h2 : b' < b := h1
      omega
  clear t1 a1 hp1 hx hz s1 s2 hab
  have hmf : ∀ (fn : Fn) (first cap : Array Value) (w : World), (Instr.makeFunc fn first cap).run Try.prog w = .ok (.func fn first cap) w := fun _ _ _ _ => rfl
  go_wp2_with fail
  refine (values_any 47 #[.pointer (some ⟨b, 0, none⟩), .pointer (some ⟨a, 0, none⟩)] (fun i => Sgn.adv (UInt8.ofNat i) (Sgn.dig d i) (15 - Sgn.dig d i) (f i)) _ (enters_of Try.func47 (by kernel_rfl) rfl) (fun i W hi hb => verify1_any d f i b a W hi (a2.later hb) (gc.later hb))).mono ?_
  rintro e W2 ⟨rfl, hb⟩
  replace hB := thru hB hb
  replace c0 := later hb c0
  replace c19 := later hb c19
  replace hp2 := hp2.later hb
  clear hb a2 gc
  go_wp2_with fail
  refine (public_any _ _).mono ?_
  rintro e W3 ⟨rfl, hb⟩
  replace hB := thru hB hb
  replace c0 := later hb c0
  replace c19 := later hb c19
  replace hp2 := hp2.later hb
  clear hb hmf
  obtain ⟨x0, hx0⟩ : ∃ x, Sgn.pubE (fun i => Sgn.adv (UInt8.ofNat i) (Sgn.dig d i) (15 - Sgn.dig d i) (f i)) = x := ⟨_, rfl⟩
  rw [hx0] at HVF ⊢
  clear hx0
  go_wp2_with fail
  go_loopw [10, 33] (fun u10 u33 wr => ∃ j : Nat, j ≤ n ∧ u33 = .int .i64 (j : Int) ∧ u10 = .int .u64 (num (Sgn.up key p x0 j)) ∧ Below W3.heap.size W3 wr) (fun _ u33 _ => n - (intOf u33).toNat)
  case atStart => exact ⟨0, by omega, rfl, rfl, Below.refl _ _⟩
  case round =>
    obtain ⟨j, hj, rfl, rfl, hBr⟩ := hrel
    by_cases hlt : j < n
    · have hjn : decide ((j : Int) < (n : Int)) = true := by simp; omega
      obtain ⟨b', o', rfl, k1⟩ := hp2.cell j (by have := HN.out; omega)
      replace k1 := later hBr k1
      replace c0 := later hBr c0
      have hup : Sgn.up key p x0 (j + 1) = if key / 2 ^ j % 2 = 0 then Dig.pair (Sgn.up key p x0 j) (p.getD j 0#64) else Dig.pair (p.getD j 0#64) (Sgn.up key p x0 j) := rfl
      have hm64 : key / 2 ^ j < 64 := Nat.lt_of_le_of_lt (Nat.div_le_self _ _) hk64
      have hsh : (key : Int) / 2 ^ j = ((key / 2 ^ j : Nat) : Int) := by simp
      obtain ⟨m, hm⟩ : ∃ m, key / 2 ^ j = m := ⟨_, rfl⟩
      rw [hm] at hup hm64 hsh
      have hl1 : bits .and .i64 (m : Int) 1 = ((m % 2 : Nat) : Int) := low1 ⟨m, hm64⟩
      obtain ⟨y, hy⟩ : ∃ y, p.getD j 0#64 = y := ⟨_, rfl⟩
      rw [hy] at hup k1
      obtain ⟨z, hz⟩ : ∃ y, Sgn.up key p x0 j = y := ⟨_, rfl⟩
      rw [hz] at hup ⊢
      obtain ⟨r, hr⟩ : ∃ r, m % 2 = r := ⟨_, rfl⟩
      rw [hr] at hup hl1
      have hj63 : j < 64 := by omega
      have HU := Lib.hid hup
      clear hm hy hz hr hup hp2 c19 hm64
      by_cases h0 : r = 0
      · subst h0
        go_wp2_with fail
        refine (pair_any z y _).mono ?_
        rintro e W4 ⟨rfl, hb⟩
        replace hBr := thru hBr hb
        clear hb
        have HE := Lib.hid (show Sgn.up key p x0 (j + 1) = Dig.pair z y by rw [HU.out]; simp)
        go_wp2_with fail
        exact ⟨⟨j + 1, by omega, by go_num, by rw [HE.out], hBr⟩, by simp [intOf]; omega⟩
      · have hr0 : ((r : Int) == 0) = false := by simp [h0]
        go_wp2_with fail
        refine (pair_any y z _).mono ?_
        rintro e W4 ⟨rfl, hb⟩
        replace hBr := thru hBr hb
        clear hb
        have HE := Lib.hid (show Sgn.up key p x0 (j + 1) = Dig.pair y z by rw [HU.out, if_neg h0])
        go_wp2_with fail
        exact ⟨⟨j + 1, by omega, by go_num, by rw [HE.out], hBr⟩, by simp [intOf]; omega⟩
    · obtain rfl : j = n := by omega
      clear hp2 c0 c19
      go_wp2_with fail
      go_ret
      exact ⟨by rw [HVF.out]; rfl, thru hB hBr⟩

end Go.Proofs.Ytjpicnfkmfjnoaa
