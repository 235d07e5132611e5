/- The reference of layer 38: Valid, number, value, Content, Pack, equal, Genuine. -/
import Derived.Test.YtapefonhgkjgnaaGreatLdRs
import Derived.Test.YtapefonhgkjgnaaGreatLdRd
import Derived.Test.YtapefonhgkjgnaaGreatLdRb
import Derived.Test.YtapefonhgkjgnaaGreatLdG
set_option maxRecDepth 20000
namespace Go.Proofs.YtapefonhgkjgnaaGreat
open Go.RowKit

theorem rsenc_any (s : Ld.Sw) (a : SwA) (w : World) (hi : SwIn w s a) : Calls Tryz.prog 26 #[aggN 20 (sigV s.key s.ch a.xp s.path.length a.cp)] w fun e w' => ∃ y cy, e = .returned (.tuple #[.slice y (sgB s).length cy, .int .i64 (sgC s)]) ∧ OwnsB w.heap.size w' y cy (sgB s) ∧ Below w.heap.size w w' := by
  unfold sgB sgC
  by_cases hv : vldG (s.path.length : Int) s.key = true
  · rw [if_pos hv, if_pos hv]
    obtain ⟨h6, k0, k1⟩ := (Ld.vldG_iff _ _).1 hv
    have hk : s.key = (s.key.toNat : Int) := (Int.toNat_of_nonneg k0).symm
    have hkn : s.key.toNat < 2 ^ s.path.length := by
      have : ((s.key.toNat : Nat) : Int) < ((2 ^ s.path.length : Nat) : Int) := by rw [← hk]; simpa using k1
      exact_mod_cast this
    have h := refEncode_ok s.key.toNat s.ch s.path a.xp a.cp w hi.2.2 h6 hkn
    rw [← hk] at h
    exact h
  · rw [if_neg hv, if_neg hv]
    refine (refEncode_bad s.key s.ch a.xp s.path.length a.cp w (by simpa using hv)).mono ?_
    rintro e w' ⟨rfl, hb⟩
    exact ⟨none, 0, rfl, OwnsB.nil _ _, hb⟩
set_option maxHeartbeats 1000000 in
theorem rvsoft_any (s : Ld.Sw) (a : SwA) (w : World) (hi : SwIn w s a) : Calls Tryz.prog 7 #[aggN 23 (softV s a)] w fun e w' => e = .returned (.bool s.vld) ∧ Below w.heap.size w w' := by
  have hq : (⟨s.name.toArray⟩ : ByteArray).size = s.name.length := by show s.name.toArray.size = _; rw [List.size_toArray]
  obtain ⟨q, hqe⟩ : ∃ q : ByteArray, (⟨s.name.toArray⟩ : ByteArray) = q := ⟨_, rfl⟩
  have hvi := Ld.Sw.vld_iff s
  rw [hqe] at hq
  have hsc : sgC s = if vldG (s.path.length : Int) s.key = true then 0 else 2 := rfl
  have HV : Hid (s.vld = (decide (1 ≤ s.name.length) && (decide (s.name.length ≤ 24) && (decide (0 ≤ s.ver) && (decide (s.ver ≤ 1048576) && (decide (s.img.length ≤ 400) && decide (sgC s = 0))))))) := by
    show _ = _
    rw [hsc]
    unfold Ld.Sw.vld
    cases vldG (s.path.length : Int) s.key <;> rfl
  clear hsc hvi
  have HE := rsenc_any s a
  obtain ⟨k, hk⟩ : ∃ k, sgC s = k := ⟨_, rfl⟩
  rw [hk] at HE HV
  obtain ⟨l, hl⟩ : ∃ l, sgB s = l := ⟨_, rfl⟩
  rw [hl] at HE
  obtain ⟨v, hv⟩ : ∃ v, s.vld = v := ⟨_, rfl⟩
  rw [hv] at HV ⊢
  clear hk hl hv
  go_enter Tryz.func7, Tryz.ntmps7
  go_wp2_with (refine wpList_boxN rfl _ _ rfl rfl ?_; intro W g hB hz; refine Hid.out ?_)
  unfold Hid
  have c0 := g.name
  have c1 := g.ver
  have c2 := g.img
  have g3 := g.sig
  rw [hqe] at c0
  have hi1 := hi.later hB
  clear g hi hqe
  obtain ⟨m, hm⟩ : ∃ m, s.name.length = m := ⟨_, rfl⟩
  obtain ⟨n, hn⟩ : ∃ n, s.img.length = n := ⟨_, rfl⟩
  obtain ⟨r, hr⟩ : ∃ r, s.ver = r := ⟨_, rfl⟩
  rw [hm] at hq HV
  rw [hn] at c2 HV
  rw [hr] at c1 HV
  clear hm hn hr
  have HZ := Lib.hid hz
  clear hz
  go_wp2_with (refine wpList_loadN rfl _ _ rfl (b := w.heap.size) (q := 3) rfl (run_loadSg g3) ?_)
  refine (HE _ hi1).mono ?_
  rintro e w1 ⟨y, cy, rfl, _, hb1⟩
  replace c0 := later hb1 c0
  replace c1 := later hb1 c1
  replace c2 := later hb1 c2
  replace hB := thru hB hb1
  clear g3 hi1 HE hb1
  by_cases h0 : ¬ (1 ≤ m)
  · have n0_0 : decide (1 ≤ (m : Int)) = false := by simp; omega
    have n0_1 : decide ((m : Int) ≥ 1) = false := by simp; omega
    have n0_2 : decide (1 ≤ m) = false := by simp; omega
    obtain rfl : v = false := by rw [HV.out]; simp [h0]
    clear HV
    go_wp2_with fail
    go_ret
    exact ⟨rfl, hB⟩
  replace h0 := Decidable.not_not.mp h0
  have p0_0 : decide (1 ≤ (m : Int)) = true := by simp; omega
  have p0_1 : decide ((m : Int) ≥ 1) = true := by simp; omega
  have p0_2 : decide (1 ≤ m) = true := by simp; omega
  by_cases h1 : ¬ (m ≤ 24)
  · have n1_0 : decide ((m : Int) ≤ 24) = false := by simp; omega
    have n1_1 : decide (m ≤ 24) = false := by simp; omega
    obtain rfl : v = false := by rw [HV.out]; simp [h0, h1]
    clear HV
    go_wp2_with fail
    go_ret
    exact ⟨rfl, hB⟩
  replace h1 := Decidable.not_not.mp h1
  have p1_0 : decide ((m : Int) ≤ 24) = true := by simp; omega
  have p1_1 : decide (m ≤ 24) = true := by simp; omega
  by_cases h2 : ¬ (0 ≤ r)
  · have n2_0 : decide (0 ≤ r) = false := by simp; omega
    obtain rfl : v = false := by rw [HV.out]; simp [h0, h1, h2]
    clear HV
    go_wp2_with fail
    go_ret
    exact ⟨rfl, hB⟩
  replace h2 := Decidable.not_not.mp h2
  have p2_0 : decide (0 ≤ r) = true := by simp; omega
  by_cases h3 : ¬ (r ≤ 1048576)
  · have n3_0 : decide (r ≤ 1048576) = false := by simp; omega
    obtain rfl : v = false := by rw [HV.out]; simp [h0, h1, h2, h3]
    clear HV
    go_wp2_with fail
    go_ret
    exact ⟨rfl, hB⟩
  replace h3 := Decidable.not_not.mp h3
  have p3_0 : decide (r ≤ 1048576) = true := by simp; omega
  by_cases h4 : ¬ (n ≤ 400)
  · have n4_0 : decide ((n : Int) ≤ 400) = false := by simp; omega
    have n4_1 : decide (n ≤ 400) = false := by simp; omega
    obtain rfl : v = false := by rw [HV.out]; simp [h0, h1, h2, h3, h4]
    clear HV
    go_wp2_with fail
    go_ret
    exact ⟨rfl, hB⟩
  replace h4 := Decidable.not_not.mp h4
  have p4_0 : decide ((n : Int) ≤ 400) = true := by simp; omega
  have p4_1 : decide (n ≤ 400) = true := by simp; omega
  by_cases h5 : ¬ (k = 0)
  · have n5_0 : decide (k = 0) = false := by simp; omega
    have n5_1 : (k == 0) = false := by simp; omega
    obtain rfl : v = false := by rw [HV.out]; simp [h0, h1, h2, h3, h4, h5]
    clear HV
    go_wp2_with fail
    go_ret
    exact ⟨rfl, hB⟩
  replace h5 := Decidable.not_not.mp h5
  have p5_0 : decide (k = 0) = true := by simp; omega
  have p5_1 : (k == 0) = true := by simp; omega
  obtain rfl : v = true := by rw [HV.out]; simp [h0, h1, h2, h3, h4, h5]
  clear HV
  go_wp2_with fail
  go_ret
  exact ⟨rfl, hB⟩

def NuRel (v m : Nat) (W : World) (u0 u5 ui : Value) (wr : World) : Prop :=
  ∃ i y cy, i ≤ m ∧ u0 = .int .i64 ((v / 256 ^ i : Nat) : Int) ∧ u5 = .slice y (Ld.le v i).length cy ∧ ui = .int .i64 (i : Int) ∧ OwnsB W.heap.size wr y cy (Ld.le v i) ∧ Below W.heap.size W wr
theorem u8_mod (z : Nat) : IntKind.u8.wrap ((z % 256 : Nat) : Int) = ((UInt8.ofNat z).toNat : Int) := by
  rw [UInt8.toNat_ofNat']
  simp [IntKind.wrap, IntKind.bits, IntKind.signed]
theorem tm256 {z m : Nat} (h : z % 256 = m) : Int.tmod (z : Int) 256 = (m : Int) := by rw [Int.tmod_eq_emod_of_nonneg (by omega)]; omega
theorem td256 {z m : Nat} (h : z / 256 = m) : Int.tdiv (z : Int) 256 = (m : Int) := by rw [Int.tdiv_eq_ediv_of_nonneg (by omega)]; omega
theorem w256 {z m : Nat} (h : z % 256 = m) : wrap64 (m : Int) = (m : Int) := wrap64_id (by omega)
theorem wd256 {z m : Nat} (h : z / 256 = m) (h2 : z ≤ 4294967296) : wrap64 (m : Int) = (m : Int) := wrap64_id (by omega)
set_option maxHeartbeats 400000 in
theorem rnumber_any (v n : Nat) (w : World) (hn : n ≤ 4) (hv : v ≤ 4294967296) : Calls Tryz.prog 49 #[.int .i64 (v : Int), .int .i64 (n : Int)] w (OwnOf (Ld.le v n) w) := by
  go_enter Tryz.func49, Tryz.ntmps49
  go_wp2_with fail
  go_loopw [0, 5, 6] (fun u0 u5 u6 wr => NuRel v n w u0 u5 u6 wr) (fun _ _ u6 _ => n - (intOf u6).toNat)
  case atStart => exact ⟨0, none, 0, by omega, by simp, rfl, rfl, OwnsB.nil _ _, Below.refl _ _⟩
  case round =>
    obtain ⟨i, y, cy, hi, rfl, rfl, rfl, hown, hB⟩ := hrel
    by_cases hlt : i < n
    · have hki : decide ((i : Int) < (n : Int)) = true := by simp; omega
      have hll := Ld.le_len i v
      have hE := Ld.le_snoc i v
      have hdv : v / 256 ^ (i + 1) = v / 256 ^ i / 256 := by rw [Nat.pow_succ, Nat.div_div_eq_div_mul]
      have hle : v / 256 ^ i ≤ v := Nat.div_le_self _ _
      obtain ⟨l, hl⟩ : ∃ l, Ld.le v i = l := ⟨_, rfl⟩
      rw [hl] at hown hE hll ⊢
      obtain ⟨z, hz⟩ : ∃ z, v / 256 ^ i = z := ⟨_, rfl⟩
      rw [hz] at hE hdv hle ⊢
      have hsh := u8_mod z
      obtain ⟨u, hu⟩ : ∃ u, UInt8.ofNat z = u := ⟨_, rfl⟩
      rw [hu] at hsh hE
      obtain ⟨zm, hzm⟩ : ∃ q, z % 256 = q := ⟨_, rfl⟩
      obtain ⟨zd, hzd⟩ : ∃ q, z / 256 = q := ⟨_, rfl⟩
      have hzb : z ≤ 4294967296 := by omega
      rw [hzm] at hsh
      rw [hzd] at hdv
      obtain ⟨lm, hlm⟩ : ∃ lm, l ++ [u] = lm := ⟨_, rfl⟩
      rw [hlm] at hE
      have HLL := Lib.hid (show l.length ≤ 4 by omega)
      have HM := Lib.hid hE
      have HE := Lib.hid hlm
      have HO := Lib.hid hown
      have HDV := Lib.hid hdv
      have hA1 : l.length + ([u] : List UInt8).length ≤ 10000000 := by have := HLL.out; simp; omega
      have hA2 : ∀ ob, w.heap.size ≤ (wr.alloc ob).heap.size := fun ob => by simp; have := hB.size; omega
      have htm := tm256 hzm
      have htd := td256 hzd
      have hw1 := w256 hzm
      have hw2 := wd256 hzd hzb
      clear hl hz hu hE hlm hown hll hdv hzm hzd hle hzb
      go_wp2_with (at_builtin; refine wpList_app rfl _ _ rfl (B := w.heap.size) (l := l) (y := some ⟨wr.heap.size, 0, none⟩) (m := [u]) (HO.out.turn ((Turns.refl (fun _ => False) wr).alloc _) (fun _ _ h => h)) rfl rfl (bts_one wr u _ _) (fun h => by cases h) hA1 HE.out (hA2 _) ?_; intro x' cap' w' h1 h2 _; refine Hid.out ?_)
      unfold Hid
      have hB1 := hB.trans (((Below.refl w.heap.size wr).alloc hB.size _).trans h2)
      have H1 := Lib.hid h1
      clear h1 h2 hB HO hA1 hA2
      go_wp2_with fail
      have HW2 := Lib.hid hw2
      clear htm htd hw1 hw2 hsh
      exact ⟨⟨i + 1, x', cap', by omega, by rw [HDV.out]; exact congrArg (Value.int .i64) HW2.out, by rw [HM.out], by go_num, by rw [HM.out]; exact H1.out, hB1⟩, by simp [intOf]; omega⟩
    · obtain rfl : i = n := by omega
      go_wp2_with fail
      go_ret
      exact ⟨y, cy, rfl, hown, hB⟩

def RvRel (l : List UInt8) (u3 u4 : Value) : Prop := ∃ k, k ≤ l.length ∧ u3 = .int .i64 (Ld.nat (l.drop (l.length - k)) : Int) ∧ u4 = .int .i64 ((l.length : Int) - 1 - (k : Int))
theorem vm1 {y : Nat} (h : y < 16777216) : wrap64 (256 * (y : Int)) = 256 * (y : Int) := wrap64_id (by omega)
theorem vm2 {y v : Nat} (h : y < 16777216) (h2 : v < 2 ^ 8) : wrap64 (256 * (y : Int) + (v : Int)) = ((v + 256 * y : Nat) : Int) := by rw [wrap64_id (by omega)]; omega
theorem vm3 {v : Nat} (h2 : v < 2 ^ 8) : IntKind.i64.wrap (v : Int) = (v : Int) := by simp [IntKind.wrap, IntKind.bits, IntKind.signed]; omega
theorem vm5 (y v : Nat) : 256 * (y : Int) + (v : Int) = ((v + 256 * y : Nat) : Int) := by omega
theorem vm4 {i : Nat} (h : i ≤ 1000) : wrap64 ((i : Int) - 1) = (i : Int) - 1 := wrap64_id (by omega)
set_option maxHeartbeats 400000 in
theorem rvalue_any (x : Option Addr) (l : List UInt8) (c : Nat) (w : World) (hx : Bts w x l) (hl : l.length ≤ 4) : Calls Tryz.prog 34 #[.slice x l.length c] w fun e w' => e = .returned (.int .i64 (Ld.nat l : Int)) ∧ w' = w := by
  have HX := Lib.hid hx
  have HZ : Hid (Ld.nat (l.drop (l.length - l.length)) = Ld.nat l) := by show _ = _; rw [Nat.sub_self, List.drop_zero]
  obtain ⟨n, hn⟩ : ∃ n, l.length = n := ⟨_, rfl⟩
  have HN := Lib.hid hn
  rw [hn] at hl ⊢
  clear hn hx
  have hw0 := vm4 (i := n) (by omega)
  go_enter Tryz.func34, Tryz.ntmps34
  go_wp2_with fail
  go_loop [3, 4] (fun u3 u4 => RvRel l u3 u4) (fun _ u4 => (intOf u4 + 1).toNat)
  case atStart => exact ⟨0, Nat.zero_le _, by rw [Nat.sub_zero, List.drop_length]; rfl, by rw [HN.out]; simp⟩
  case round =>
    obtain ⟨k, hk, rfl, rfl⟩ := hrel
    have hk2 := hk
    rw [HN.out] at hk2 ⊢
    by_cases hlt : k < n
    · obtain ⟨i, hi⟩ : ∃ i, n - 1 - k = i := ⟨_, rfl⟩
      have hi2 : (n : Int) - 1 - (k : Int) = (i : Int) := by omega
      have hin : i < n := by omega
      rw [hi2]
      obtain ⟨g, o, rfl, hc⟩ := HX.out.at (by rw [HN.out]; omega)
      have hci := hc i (by rw [HN.out]; exact hin)
      obtain ⟨v, hv⟩ : ∃ v, l.getD i 0 = v := ⟨_, rfl⟩
      rw [hv] at hci
      have hvb := v.toNat_lt
      have hnat : Ld.nat (l.drop i) = v.toNat + 256 * Ld.nat (l.drop (i + 1)) := by
        rw [← List.getElem_cons_drop (show i < l.length by rw [HN.out]; exact hin)]
        have : l[i]'(by rw [HN.out]; exact hin) = v := by rw [← hv, List.getD_eq_getElem?_getD, List.getElem?_eq_getElem (by rw [HN.out]; exact hin)]; rfl
        rw [this]; rfl
      have hlt2 := Ld.nat_lt (l.drop (i + 1))
      have hlen : (l.drop (i + 1)).length ≤ 3 := by rw [List.length_drop, HN.out]; omega
      have hp : 256 ^ (l.drop (i + 1)).length ≤ 256 ^ 3 := Nat.pow_le_pow_right (by decide) hlen
      have e1 : n - k = i + 1 := by omega
      have e2 : n - (k + 1) = i := by omega
      have E2 : Hid (Ld.nat (l.drop (n - (k + 1))) = v.toNat + 256 * Ld.nat (l.drop (i + 1))) := by show _ = _; rw [e2]; exact hnat
      rw [e1]
      obtain ⟨y, hy⟩ : ∃ y, Ld.nat (l.drop (i + 1)) = y := ⟨_, rfl⟩
      rw [hy] at hlt2 E2 ⊢
      have hyb : y < 16777216 := by have : (256 : Nat) ^ 3 = 16777216 := by decide
                                    omega
      obtain ⟨vn, hvn⟩ : ∃ q, v.toNat = q := ⟨_, rfl⟩
      rw [hvn] at hci hvb E2
      have hge : decide ((i : Int) ≥ 0) = true := by simp
      have hge2 : decide ((0 : Int) ≤ (i : Int)) = true := by simp
      have hm1 := vm1 hyb
      have hm2 := vm2 (v := vn) hyb hvb
      have hwk := vm3 hvb
      have hm3 := vm4 (i := i) (by omega)
      clear hnat hlt2 hlen hp hy hvn hv e1 e2 HX HZ hc hw0
      go_wp2_with fail
      clear hm1 hm2 hwk hm3
      exact ⟨⟨k + 1, by rw [HN.out]; omega, by rw [HN.out, E2.out]; exact congrArg (Value.int .i64) (vm5 y vn), by rw [HN.out]; first | (simp; done) | (simp; omega)⟩, by first | (simp [intOf]; done) | (simp [intOf]; omega)⟩
    · obtain rfl : k = n := by omega
      have hq : (k : Int) - 1 - (k : Int) = -1 := by omega
      have HZ2 : Hid (Ld.nat (l.drop (k - k)) = Ld.nat l) := by show _ = _; rw [Nat.sub_self, List.drop_zero]
      rw [hq]
      go_wp2_with fail
      go_ret
      first | exact ⟨rfl, rfl⟩ | exact ⟨by rw [HZ2.out], rfl⟩
set_option maxHeartbeats 1000000 in
theorem requal_any (x y : Option Addr) (l m : List UInt8) (c d : Nat) (w : World) (hx : Bts w x l) (hy : Bts w y m) (hl0 : l.length ≤ 1000000) : Calls Tryz.prog 36 #[.slice x l.length c, .slice y m.length d] w fun e w' => e = .returned (.bool (l == m)) ∧ Below w.heap.size w w' := by
  by_cases hl : l.length = m.length
  · have q0 : ((l.length : Int) != (m.length : Int)) = false := by rw [bne_eq_false_iff_eq]; omega
    have HL := Lib.hid hl
    have hB := Below.refl w.heap.size w
    clear hl
    go_enter Tryz.func36, Tryz.ntmps36
    go_wp2_with fail
    go_loopw [5] (fun u5 wr => ∃ j : Nat, j ≤ l.length ∧ u5 = .int .i64 (j : Int) ∧ (∀ i, i < j → l.getD i 0 = m.getD i 0) ∧ Below w.heap.size w wr) (fun u5 _ => l.length - (intOf u5).toNat)
    case atStart => exact ⟨0, by omega, rfl, fun i hi => by omega, hB⟩
    case round =>
      clear hB
      obtain ⟨j, hj, rfl, hgood, hB⟩ := hrel
      by_cases hlt : j < l.length
      · have d1 : decide ((j : Int) < (l.length : Int)) = true := by simp; omega
        obtain ⟨a0, p0, rfl, ca⟩ := (hx.later hB).ix j hlt
        obtain ⟨a1, p1, rfl, cb⟩ := (hy.later hB).ix j (by have := HL.out; omega)
        obtain ⟨u, hu⟩ : ∃ u, l.getD j 0 = u := ⟨_, rfl⟩
        obtain ⟨v, hv⟩ : ∃ u, m.getD j 0 = u := ⟨_, rfl⟩
        rw [hu] at ca
        rw [hv] at cb
        have HU := Lib.hid hu
        have HV := Lib.hid hv
        have HG := Lib.hid hgood
        have jB : (j : Int) < (l.length : Int) := by omega
        have jC : (j : Int) < (m.length : Int) := by have := HL.out; omega
        have jC2 : j < m.length := by have := HL.out; omega
        clear hu hv hgood
        obtain ⟨q, hq⟩ : ∃ q, ((u.toNat : Int) != (v.toNat : Int)) = q := ⟨_, rfl⟩
        go_wp2_with fail
        refine wp_region_sched (fun W => W.cell? ⟨a0, p0 + j, none⟩ = some (.int .u8 (u.toNat : Int)) ∧ W.cell? ⟨a1, p1 + j, none⟩ = some (.int .u8 (v.toNat : Int)) ∧ Below w.heap.size w W) (.done [0, 1, 2, 3, 4, 5, 6, 7, 8]) (by kernel_rfl) (by kernel_rfl) (fun _ _ _ _ _ h => h) ⟨ca, cb, hB.drew⟩ ?_
        clear ca cb hB
        rintro W ⟨ca, cb, hB⟩
        rw [wpSched]
        simp only [pick, List.map_cons, List.map_nil, Array.getD_eq_getD_getElem?, List.getElem?_toArray, List.getElem?_cons_succ, List.getElem?_cons_zero, Option.getD_some]
        have kca := plusW_cell ca
        have kcb := plusW_cell cb
        repeat (first | go_big_quiet_step (fail) | quiet_step (fail))
        refine wpQuiet_nil ?_
        clear kca kcb
        have HQ := Lib.hid hq
        cases q
        · go_wp2_with fail
          have h2 : u = v := by have := HQ.out; rw [bne_eq_false_iff_eq] at this; exact UInt8.toNat_inj.1 (by omega)
          exact ⟨⟨j + 1, by omega, by go_num, fun i hi => by
            by_cases h : i = j
            · subst h; rw [HU.out, HV.out]; exact h2
            · exact HG.out i (by omega), hB⟩, by simp [intOf]; omega⟩
        · go_wp2_with fail
          go_ret
          exact ⟨by
            have : (l == m) = false := by
              rw [beq_eq_false_iff_ne]
              intro h
              have h1 := HU.out
              rw [h, HV.out] at h1
              have := HQ.out
              rw [h1] at this; simp at this
            rw [this]; rfl, hB⟩
      · obtain rfl : j = l.length := by omega
        have HF := Lib.hid (eq_of_getD8 l m HL.out hgood)
        clear hgood
        go_wp2_with fail
        go_ret
        exact ⟨by rw [HF.out]; rfl, hB⟩
  · have q0 : ((l.length : Int) != (m.length : Int)) = true := by rw [bne_iff_ne]; omega
    have HF : Hid ((l == m) = false) := by
      show _ = _
      rw [beq_eq_false_iff_ne]
      intro h
      exact hl (by rw [h])
    clear hl
    go_enter Tryz.func36, Tryz.ntmps36
    go_wp2_with fail
    go_ret
    exact ⟨by rw [HF.out]; rfl, Below.refl _ _⟩

end Go.Proofs.YtapefonhgkjgnaaGreat
