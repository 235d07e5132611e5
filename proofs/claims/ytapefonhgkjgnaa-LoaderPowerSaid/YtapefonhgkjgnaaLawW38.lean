/- THE LAW LoaderPower. -/
import Derived.Test.YtapefonhgkjgnaaLdU
import Derived.Test.YtapefonhgkjgnaaLdPw
set_option maxRecDepth 20000
namespace Go.Proofs.Ytapefonhgkjgnaa
open Go.RowKit

theorem bareW_vld (v : Int) (hv : 0 ≤ v ∧ v ≤ 1048576) (im : List UInt8) : (bare [110, 97, 118] v im).vld = decide (im.length ≤ 400) := by
  rw [Bool.eq_iff_iff, Ld.Sw.vld_iff, decide_eq_true_iff]
  unfold bare
  simp
  omega
/-- Where the rounds stand: the store and what runs. -/
def PwI (B b5 b9 : Nat) (rt : D64) (w : World) (sm : Bool) (i : Nat) (wr : World) : Prop :=
  ∃ x c rs ls tn sa, (wr.cell? ⟨b5, 0, none⟩ = some (.slice x 34 c) ∧ wr.frozen? ⟨b5, 0, none⟩ = false) ∧ StoIn 0 wr x rs ls ∧ Blk wr b9 0 23 (softV tn sa) ∧ SwIn wr tn sa ∧ SwNew (b9 + 1) sa ∧ Below B w wr ∧
    ((sm = false ∧ Ld.Idle ls) ∨ (sm = true ∧ (tn.name = [110, 97, 118] ∧ tn.path.length ≤ 100) ∧ ∃ a r, Ld.Run ls rt 1 a r tn ∧ r.number ≤ i))

theorem wrT {v : Int} (h : 0 ≤ v) (h2 : v ≤ 65535) : IntKind.i64.wrap v = v := by simp [IntKind.wrap, IntKind.bits, IntKind.signed]; omega
theorem wrT6 {v : Int} (h : 0 ≤ v) (h2 : v ≤ 65535) : wrap64 v = v := wrap64_id (by omega)
theorem tm109 {s v : Nat} (h : s % 109 = v) : Int.tmod (s : Int) 109 = (v : Int) := by rw [Int.tmod_eq_emod_of_nonneg (by omega)]; omega
theorem wrI {v : Nat} (h : v < 256) : IntKind.i64.wrap (v : Int) = (v : Int) := by simp [IntKind.wrap, IntKind.bits, IntKind.signed]; omega
theorem wr6 {v : Nat} (h : v < 256) : wrap64 (v : Int) = (v : Int) := wrap64_id (by omega)
theorem wpList_stopD {P : Program} {ops : Array Oper} {rest : List Oper} {o : Oper} {a : Act} {w : World} {Q : Exit → Act → World → Prop} (d : Nat) (_ho : o.dst = some d) (h : Stop (wpList P ops Q (o :: rest) a w)) : wpList P ops Q (o :: rest) a w := h.out

set_option maxHeartbeats 8000000 in
theorem power_law (seed : D64) (xt : Option Addr) (ts : List TryV) (ct : Nat) (w : World) (hts : Trs w xt ts) (hct : ts.length ≤ ct) (hnt : xt = none → ct = 0) :
    Calls Try.prog 5 #[.int .u64 (num seed), .slice xt ts.length ct] w (YesOf w) := by
  have hB := Below.refl w.heap.size w
  have HT := Lib.hid hts
  have HROOT : ∀ W, Calls Try.prog 15 #[.int .u64 (num seed), .int .i64 1] W fun e w' => e = .returned (.tuple #[.int .u64 (num (Sgn.node seed 1 0)), .int .i64 0]) ∧ Below W.heap.size W w' := fun W => root_ok seed 1 (by omega) W
  have HSN : ∀ (q : Nat) (ver : Int) (xi : Option Addr) (im : List UInt8) (ci : Nat) W, q < 2 → 0 ≤ ver → ver ≤ 65535 → Bts W xi im → (xi = none → ci = 0) → Calls Try.prog 16 #[.int .u64 (num seed), .int .i64 1, .int .i64 (q : Int), .string ⟨#[110, 97, 118]⟩, .int .i64 ver, .slice xi im.length ci] W (SigOf (sgnS seed 1 q [110, 97, 118] ver im) (decide (im.length ≤ 400)) xi ci W) := fun q ver xi im ci W hq h0 h1 h hn => by
    have := signed_any seed 1 q [110, 97, 118] ver im xi ci W (by omega) (by omega) h hn
    rw [bareW_vld ver (by omega)] at this
    exact this
  have HV : ∀ (q : Nat) (ver : Int) (im : List UInt8), q < 2 → 0 ≤ ver → ver ≤ 65535 → im.length ≤ 400 → (sgnS seed 1 q [110, 97, 118] ver im).vld = true ∧ Ld.genu (sgnS seed 1 q [110, 97, 118] ver im) (Sgn.node seed 1 0) 1 = true := fun q ver im hq h0 h1 h => by
    have hv : (bare [110, 97, 118] ver im).vld = true := by rw [bareW_vld ver (by omega)]; exact decide_eq_true h
    exact ⟨(sgn_vld (by omega) (by omega) _ _ _).trans hv, sgn_genu (seed := seed) (h := 1) (q := q) (by omega) (by omega) [110, 97, 118] ver im hv⟩
  have HF : ∀ (q : Nat) (ver : Int) (im : List UInt8), (sgnS seed 1 q [110, 97, 118] ver im).N ∧ (sgnS seed 1 q [110, 97, 118] ver im).path.length ≤ 100 ∧ (sgnS seed 1 q [110, 97, 118] ver im).img = im ∧ (sgnS seed 1 q [110, 97, 118] ver im).ver = ver ∧ (sgnS seed 1 q [110, 97, 118] ver im).name = [110, 97, 118] := fun q ver im => ⟨sgn_N seed 1 q [110, 97, 118] ver im, by unfold sgnS; rw [Sgn.path_length]; omega, rfl, rfl, rfl⟩
  obtain ⟨rt, hrt⟩ : ∃ r, Sgn.node seed 1 0 = r := ⟨_, rfl⟩
  rw [hrt] at HROOT HV
  have HSNH := Lib.hid HSN
  have HVH := Lib.hid HV
  have HFH := Lib.hid HF
  clear hrt HSN HV HF hts
  obtain ⟨nt, hlt⟩ : ∃ n, ts.length = n := ⟨_, rfl⟩
  have HLT := Lib.hid hlt
  rw [hlt] at hct ⊢
  clear hlt
  have HST0 := Lib.hid Ld.idle_new
  have HE0' : ∃ l, List.replicate 34 erasedL = l := ⟨_, rfl⟩
  obtain ⟨E0, hE0⟩ := HE0'
  rw [hE0] at HST0
  have HE0 := Lib.hid hE0
  clear hE0
  obtain ⟨m, hm⟩ : ∃ n, min nt 5 = n := ⟨_, rfl⟩
  have hmm : m ≤ nt ∧ m ≤ 5 := by omega
  have hmin : ∀ (ts : Array TypeId) (t : TypeId) (W : World), (Builtin.min_ ts t #[.int .i64 (nt : Int), .int .i64 5]).run Try.prog W = .ok (.int .i64 (m : Int)) W := fun ts t W => by
    by_cases h : nt ≤ 5
    · obtain rfl : m = nt := by omega
      simp [Builtin.min_, Builtin.min2]
      try omega
    · obtain rfl : m = 5 := by omega
      simp [Builtin.min_, Builtin.min2]
      try omega
  have HMIN := Lib.hid hmin
  clear hm hmin
  go_enter Try.func5, Try.ntmps5
  go_wp2_with fail
  refine (new34 _).mono ?_
  rintro e wN ⟨x1, c1_, rs1, rfl, hs, hb⟩
  replace hB := hB.trans (hb.mono hB.size)
  clear hb
  rw [HE0.out] at hs
  replace hs := hs.weaken (Nat.zero_le _)
  have Z0 := Lib.hid hB.size
  go_wp2_with fail
  have hb := al (Below.refl _ wN) (.cells #[.slice x1 34 c1_] 33)
  have c5 : (wN.alloc (.cells #[.slice x1 34 c1_] 33)).cell? ⟨wN.heap.size, 0, none⟩ = some (.slice x1 34 c1_) := cell_new wN _ _ _ 0
  have f5 := frozen_new wN #[.slice x1 34 c1_] 33 0
  have z5 : wN.heap.size < (wN.alloc (.cells #[.slice x1 34 c1_] 33)).heap.size := by simp
  obtain ⟨b5, e_b5⟩ : ∃ b, wN.heap.size = b := ⟨_, rfl⟩
  obtain ⟨V1, hV⟩ : ∃ V, wN.alloc (.cells #[.slice x1 34 c1_] 33) = V := ⟨_, rfl⟩
  rw [hV] at hb z5 c5 f5 ⊢
  try rw [e_b5] at z5 c5 f5 ⊢
  clear hV
  replace hs := hs.later hb
  replace hB := hB.trans (hb.mono hB.size)
  clear hb
  have w5 : w.heap.size ≤ b5 := by rw [← e_b5]; exact Z0.out
  clear e_b5 Z0
  refine (HROOT _).mono ?_
  rintro e w2 ⟨rfl, hb⟩
  replace f5 := (hb.frozen (p := ⟨b5, 0, none⟩) z5).trans f5
  replace z5 := Nat.lt_of_lt_of_le z5 hb.size
  replace hs := hs.later hb
  replace c5 := later hb c5
  replace hB := hB.trans (hb.mono hB.size)
  clear hb
  have M5 := Lib.hid z5
  go_wp2_with (refine wpList_allocTo 9 rfl rfl _ rfl soft_zero ?_; intro Xn0 a_b9 hb0 hz0; refine Hid.out ?_)
  unfold Hid
  try simp only [Act.put, List.setIfInBounds_toArray, List.set_cons_zero, List.set_cons_succ]
  obtain ⟨b9, e_b9⟩ : ∃ a, w2.heap.size = a := ⟨_, rfl⟩
  have s_b9 : w2.heap.size ≤ b9 := by omega
  have hb := hb0
  rw [e_b9] at a_b9 hz0 ⊢
  clear hb0
  have hz : b9 < Xn0.heap.size := by omega
  clear e_b9 hz0
  go_wp2_with (refine wpList_storeB rfl rfl _ (.tmp 9) _ rfl (b := b9) (q := 0) rfl (n := 23) (v := softV zSw zA) rfl a_b9 (fun j _ => soft_one _ _ _) soft_size ?_; intro Yn0 t1; refine Hid.out ?_)
  unfold Hid
  replace hb := t1.below _ _ (by omega) hb
  replace a_b9 := t1.blk
  rw [← t1.size] at hz
  clear t1
  replace hs := hs.later hb
  replace c5 := later hb c5
  replace f5 := (hb.frozen (p := ⟨b5, 0, none⟩) z5).trans f5
  replace z5 := Nat.lt_of_lt_of_le z5 hb.size
  replace hB := hB.trans (hb.mono hB.size)
  clear hb hz
  have m9 : b5 < b9 := by have := M5.out; omega
  clear M5 s_b9
  have hI : PwI w.heap.size b5 b9 rt w false 0 Yn0 := ⟨x1, c1_, rs1, E0, zSw, zA, ⟨c5, f5⟩, hs, a_b9, zSw_in _, zA_new _, hB, .inl ⟨rfl, HST0.out⟩⟩
  clear c5 f5 hs a_b9 z5 HST0 HE0
  have hmin := HMIN.out
  have k0 : (0 : Int) ≤ (m : Int) := by omega
  have k1 : (m : Int) ≤ (ct : Int) := by omega
  have k2 : (m : Int) ≤ (nt : Int) := by omega
  have k3 : m ≤ ct := by omega
  have k4 : (nt : Int) ≤ (ct : Int) := by omega
  by_cases h0 : m = 0
  · clear hI
    subst h0
    cases xt with
    | none =>
      obtain rfl := hnt rfl
      obtain rfl : nt = 0 := by omega
      go_wp2_with fail
      refine wp_loop_rounds 1 ?_
      rw [rounds_succ]
      go_wp2_with fail
      refine (awake_any _).mono ?_
      rintro e wX ⟨rfl, hb⟩
      have hBX := hB.trans (hb.mono hB.size)
      clear hb
      go_wp2_with fail
      go_ret
      exact ⟨rfl, hBX⟩
    | some a =>
      go_wp2_with fail
      refine wp_loop_rounds 1 ?_
      rw [rounds_succ]
      go_wp2_with fail
      refine (awake_any _).mono ?_
      rintro e wX ⟨rfl, hb⟩
      have hBX := hB.trans (hb.mono hB.size)
      clear hb
      go_wp2_with fail
      go_ret
      exact ⟨rfl, hBX⟩
  obtain ⟨g, o, rfl, hc⟩ : ∃ g o, xt = some ⟨g, o, none⟩ ∧ ∀ i, i < ts.length → TryAt w g (o + i * 4) (ts.getD i try0) := by
    rcases HT.out.1 with h | ⟨g, o, h1, h2⟩
    · have := HLT.out; rw [h] at this; simp at this; omega
    · exact ⟨g, o, h1, h2⟩
  have HC := Lib.hid hc
  clear hc hnt h0 hB
  go_wp2_with fail
  clear hmin k0 k1 k2 k3 k4
  go_loopw [10, 43] (fun u10 u43 wr => ∃ (i : Nat) (sm : Bool), i ≤ m ∧ u43 = .int .i64 (i : Int) ∧ u10 = .bool sm ∧ PwI w.heap.size b5 b9 rt w sm i wr) (fun _ u43 _ => m - (intOf u43).toNat)
  case atStart => exact ⟨0, false, by omega, rfl, rfl, hI⟩
  case round =>
    clear hI
    obtain ⟨i, sm, hi, rfl, rfl, hI⟩ := hrel
    by_cases hlt : i < m
    · have hki : decide ((i : Int) < (m : Int)) = true := by simp; omega
      obtain ⟨x, c, rs, ls, tn, sa, ⟨c5, f5⟩, hs, a_b9, i9, n9, hB, hst⟩ := hI
      obtain ⟨d0, d1, d2, d3⟩ := HC.out i (by rw [HLT.out]; omega)
      have htk := HT.out.2 (ts.getD i try0) (by rw [List.getD_eq_getElem?_getD, List.getElem?_eq_getElem (by rw [HLT.out]; omega)]; exact List.getElem_mem _)
      obtain ⟨tr, htr⟩ : ∃ t, ts.getD i try0 = t := ⟨_, rfl⟩
      rw [htr] at d0 d1 d2 d3 htk
      clear htr
      obtain ⟨tv, tx, tc, im, top, tst⟩ := tr
      obtain ⟨tb, tnn, tv0, tv1⟩ := htk
      dsimp only at d0 d1 d2 d3 tb tnn tv0 tv1
      have d0r := later hB d0
      have d1r := later hB d1
      have d2r := later hB d2
      have d3r := later hB d3
      clear d0 d1 d2 d3
      obtain ⟨q, hq⟩ : ∃ n, i % 2 = n := ⟨_, rfl⟩
      have hq2 : q < 2 := by omega
      have htm : Int.tmod (i : Int) 2 = (q : Int) := by rw [Int.tmod_eq_emod_of_nonneg (by omega)]; omega
      have TB := Lib.hid tb
      have HVX := Lib.hid (fun h => HVH.out q tv im hq2 tv0 tv1 h)
      have HFX := Lib.hid (HFH.out q tv im)
      have HSG := Lib.hid (fun W (h : Bts W tx im) => HSNH.out q tv tx im tc W hq2 tv0 tv1 h tnn)
      obtain ⟨sN, hsN⟩ : ∃ s, sgnS seed 1 q [110, 97, 118] tv im = s := ⟨_, rfl⟩
      rw [hsN] at HVX HFX HSG
      obtain ⟨li, hli⟩ : ∃ n, im.length = n := ⟨_, rfl⟩
      rw [hli] at HVX HSG d1r
      clear hsN hli hq tb tnn
      have z5 : b5 < wr.heap.size := World.block_lt_of_cell? _ _ c5
      have z9 : b9 < wr.heap.size := by have := World.block_lt_of_cell? _ _ (a_b9.at 0 (by omega)).1; exact this
      have HIL := Lib.hid hi
      have hwv : IntKind.i64.wrap tv = tv := wrT tv0 tv1
      have hw64 : wrap64 tv = tv := wrT6 tv0 tv1
      clear hi tv0 tv1
      go_wp2_with (refine wpList_stopL 43 (.tmp 52) rfl ?_)
      refine ⟨?_⟩
      have hb := al (Below.refl _ wr) (.cells #[.int .u16 tv, .slice tx li tc, .int .u8 (top.toNat : Int), .int .u8 (tst.toNat : Int)] 61)
      have p0 : (wr.alloc (.cells #[.int .u16 tv, .slice tx li tc, .int .u8 (top.toNat : Int), .int .u8 (tst.toNat : Int)] 61)).cell? ⟨wr.heap.size, 0, none⟩ = some (.int .u16 tv) := cell_new wr _ _ _ 0
      have p1 : (wr.alloc (.cells #[.int .u16 tv, .slice tx li tc, .int .u8 (top.toNat : Int), .int .u8 (tst.toNat : Int)] 61)).cell? ⟨wr.heap.size, 1, none⟩ = some (.slice tx li tc) := cell_new wr _ _ _ 1
      have p2 : (wr.alloc (.cells #[.int .u16 tv, .slice tx li tc, .int .u8 (top.toNat : Int), .int .u8 (tst.toNat : Int)] 61)).cell? ⟨wr.heap.size, 2, none⟩ = some (.int .u8 (top.toNat : Int)) := cell_new wr _ _ _ 2
      have p3 : (wr.alloc (.cells #[.int .u16 tv, .slice tx li tc, .int .u8 (top.toNat : Int), .int .u8 (tst.toNat : Int)] 61)).cell? ⟨wr.heap.size, 3, none⟩ = some (.int .u8 (tst.toNat : Int)) := cell_new wr _ _ _ 3
      have z12 : wr.heap.size < (wr.alloc (.cells #[.int .u16 tv, .slice tx li tc, .int .u8 (top.toNat : Int), .int .u8 (tst.toNat : Int)] 61)).heap.size := by simp
      obtain ⟨b12, e12⟩ : ∃ b, wr.heap.size = b := ⟨_, rfl⟩
      obtain ⟨V12, hV⟩ : ∃ V, wr.alloc (.cells #[.int .u16 tv, .slice tx li tc, .int .u8 (top.toNat : Int), .int .u8 (tst.toNat : Int)] 61) = V := ⟨_, rfl⟩
      rw [hV] at hb p0 p1 p2 p3 z12 ⊢
      try rw [e12] at p0 p1 p2 p3 z12 ⊢
      have m12 : b9 < b12 := by omega
      clear hV e12 d0r d1r d2r d3r
      replace f5 := (hb.frozen (p := ⟨b5, 0, none⟩) z5).trans f5
      replace z5 := Nat.lt_of_lt_of_le z5 hb.size
      replace z9 := Nat.lt_of_lt_of_le z9 hb.size
      replace c5 := later hb c5
      replace hs := hs.later hb
      replace a_b9 := a_b9.later hb
      replace i9 := i9.later hb
      replace hB := hB.trans (hb.mono hB.size)
      clear hb
      go_wp2_with fail
      refine (HSG.out _ (TB.out.later hB)).mono ?_
      rintro e wS ⟨xpN, cpN, rfl, iN, nN, hb⟩
      have NN : Hid (∀ p, xpN = some p → b12 < p.block) := fun p e => by have := nN p e; omega
      clear nN
      replace f5 := (hb.frozen (p := ⟨b5, 0, none⟩) z5).trans f5
      replace z5 := Nat.lt_of_lt_of_le z5 hb.size
      replace z9 := Nat.lt_of_lt_of_le z9 hb.size
      replace z12 := Nat.lt_of_lt_of_le z12 hb.size
      replace c5 := later hb c5
      replace hs := hs.later hb
      replace a_b9 := a_b9.later hb
      replace i9 := i9.later hb
      replace p0 := later hb p0
      replace p1 := later hb p1
      replace p2 := later hb p2
      replace p3 := later hb p3
      replace hB := hB.trans (hb.mono hB.size)
      clear hb
      have M12 := Lib.hid z12
      go_wp2_with (refine wpList_allocTo 13 rfl rfl _ rfl soft_zero ?_; intro Xs0 a_b13 hb0 hz0; refine Hid.out ?_)
      unfold Hid
      try simp only [Act.put, List.setIfInBounds_toArray, List.set_cons_zero, List.set_cons_succ]
      obtain ⟨b13, e_b13⟩ : ∃ a, wS.heap.size = a := ⟨_, rfl⟩
      have s_b13 : wS.heap.size ≤ b13 := by omega
      have hb := hb0
      rw [e_b13] at a_b13 hz0 ⊢
      clear hb0
      have hz : b13 < Xs0.heap.size := by omega
      clear e_b13 hz0
      go_wp2_with (refine wpList_storeB rfl rfl _ (.tmp 13) _ rfl (b := b13) (q := 0) rfl (n := 23) (v := softV sN ⟨tx, tc, xpN, cpN⟩) rfl a_b13 (fun j _ => soft_one _ _ _) soft_size ?_; intro Ys0 t1; refine Hid.out ?_)
      unfold Hid
      replace hb := t1.below _ _ (by omega) hb
      replace a_b13 := t1.blk
      rw [← t1.size] at hz
      clear t1
      replace c5 := later hb c5
      replace hs := hs.later hb
      replace a_b9 := a_b9.later hb
      replace i9 := i9.later hb
      replace p0 := later hb p0
      replace p1 := later hb p1
      replace p2 := later hb p2
      replace p3 := later hb p3
      replace iN := iN.later hb
      replace f5 := (hb.frozen (p := ⟨b5, 0, none⟩) z5).trans f5
      replace z5 := Nat.lt_of_lt_of_le z5 hb.size
      replace z9 := Nat.lt_of_lt_of_le z9 hb.size
      replace z12 := Nat.lt_of_lt_of_le z12 hb.size
      replace hB := hB.trans (hb.mono hB.size)
      clear hb hz
      have m13 : b12 < b13 := by have := M12.out; omega
      clear M12 s_b13
      by_cases hA : ¬ li ≤ 400
      · have g1 : decide (li ≤ 400) = false := by simp; omega
        rw [g1]
        have g2 : decide ((li : Int) > 400) = true := by simp; omega
        have g3 : decide ((400 : Int) < (li : Int)) = true := by simp; omega
        have g4 : decide (400 < li) = true := by simp; omega
        clear hst c5 hs a_b9 i9 p0 p2 p3 iN a_b13
        go_wp2_with fail
        refine (awake_any _).mono ?_
        rintro e wX ⟨rfl, hb⟩
        have hBX := hB.trans (hb.mono hB.size)
        clear hb
        go_wp2_with fail
        go_ret
        exact ⟨rfl, hBX⟩
      rw [Decidable.not_not] at hA
      have g1 : decide (li ≤ 400) = true := by simp; omega
      rw [g1]
      obtain ⟨hvN, hgN⟩ := HVX.out hA
      obtain ⟨hNN, hpN, hiN, heN, hnN⟩ := HFX.out
      have KhvN := Lib.hid hvN
      have KhgN := Lib.hid hgN
      have KhNN := Lib.hid hNN
      have KhpN := Lib.hid hpN
      have KhiN := Lib.hid hiN
      have KhnN := Lib.hid hnN
      clear g1 hA HVX HFX htm hwv hw64 heN hvN hgN hNN hpN hiN hnN
      rcases hst with ⟨rfl, hst⟩ | ⟨rfl, hnm, a, r, hrun, hrl⟩
      · have HST := Lib.hid hst
        clear hst
        go_wp2_with (refine wpList_loadN rfl _ (.tmp 13) rfl (b := b13) (q := 0) rfl (run_loadSw a_b13) ?_)
        refine (ins_r _ _ _ hs HST.out.st iN (Ld.ins_idle HST.out KhvN.out KhgN.out).1).mono ?_
        rintro e wI ⟨y1, kc1, os1, rfl, o1, hl1, hm1, hb⟩
        replace f5 := (hb.frozen (p := ⟨b5, 0, none⟩) z5).trans f5
        replace z5 := Nat.lt_of_lt_of_le z5 hb.size
        replace z9 := Nat.lt_of_lt_of_le z9 hb.size
        replace z12 := Nat.lt_of_lt_of_le z12 hb.size
        replace c5 := later hb c5
        replace hs := hs.later hb
        replace a_b9 := a_b9.later hb
        replace i9 := i9.later hb
        replace p0 := later hb p0
        replace p1 := later hb p1
        replace p2 := later hb p2
        replace p3 := later hb p3
        replace iN := iN.later hb
        replace a_b13 := a_b13.later hb
        replace hB := hB.trans (hb.mono hB.size)
        clear hb
        obtain ⟨nn, hnn⟩ : ∃ n, Ld.ckN (Ld.form sN) = n := ⟨_, rfl⟩
        have hn16 := (Ld.ckN_form sN KhvN.out).2.1
        have hn1 := (Ld.ckN_form sN KhvN.out).1
        have HRU := Ld.run_first HST.out KhNN.out KhvN.out KhgN.out hm1
        have HCU := fun n k h1 h2 => Ld.cut_first HST.out KhNN.out KhvN.out KhgN.out hm1 n k h1 h2
        have hrn : 1 ≤ i + 1 := by omega
        rw [hnn] at hl1 hn16 hn1 HRU HCU ⊢
        have HL1 := Lib.hid hl1
        clear hnn hm1 hl1
        have htb := top.toNat_lt
        have hsb := tst.toNat_lt
        obtain ⟨ov, hov⟩ : ∃ n : Nat, top.toNat = n := ⟨_, rfl⟩
        obtain ⟨sw_, hsw⟩ : ∃ n : Nat, tst.toNat = n := ⟨_, rfl⟩
        rw [hov] at p2 htb
        rw [hsw] at p3 hsb
        clear hov hsw
        obtain ⟨sv, hsv⟩ : ∃ n, sw_ % 109 = n := ⟨_, rfl⟩
        have hsv8 : sv ≤ 108 := by omega
        have e2 : decide ((nn : Int) + 1 < 2) = false := by simp; omega
        have e3 : decide ((nn + 1 : Nat) < 2) = false := by simp; omega
        by_cases hd : nn + 1 ≤ ov
        · have e4 : decide ((ov : Int) ≥ (nn : Int) + 1) = true := by simp; omega
          have e5 : decide ((nn : Int) + 1 ≤ (ov : Int)) = true := by simp; omega
          have e6 : decide (nn + 1 ≤ ov) = true := by simp; omega
          have e7 : decide (nn < ov) = true := by simp; omega
          obtain ⟨hO, hvo⟩ := HRU
          have HO := Lib.hid hO
          have HVO := Lib.hid hvo
          clear HCU hO hvo
          have htm9 : Int.tmod (sw_ : Int) 109 = (sv : Int) := tm109 hsv
          have hwo : IntKind.i64.wrap (ov : Int) = (ov : Int) := wrI htb
          have hws : IntKind.i64.wrap (sw_ : Int) = (sw_ : Int) := wrI hsb
          have hwo6 : wrap64 (ov : Int) = (ov : Int) := wr6 htb
          have hws6 : wrap64 (sw_ : Int) = (sw_ : Int) := wr6 hsb
          clear hsv htb hsb
          go_wp2_with fail
          clear e2 e3 e4 e5 e6 e7 htm9 hwo hws hwo6 hws6
          have Z12M := Lib.hid z12
          refine (run34 _ (nn + 1) _ hs HST.out.st o1 HL1.out (by omega) HVO.out).mono ?_
          rintro e wR ⟨x2, c2, rs2, rfl, hs2, hb⟩
          replace f5 := (hb.frozen (p := ⟨b5, 0, none⟩) z5).trans f5
          replace z5 := Nat.lt_of_lt_of_le z5 hb.size
          replace z9 := Nat.lt_of_lt_of_le z9 hb.size
          replace z12 := Nat.lt_of_lt_of_le z12 hb.size
          replace c5 := later hb c5
          replace hs := hs.later hb
          replace a_b9 := a_b9.later hb
          replace i9 := i9.later hb
          replace p0 := later hb p0
          replace p1 := later hb p1
          replace p2 := later hb p2
          replace p3 := later hb p3
          replace iN := iN.later hb
          replace a_b13 := a_b13.later hb
          replace o1 := o1.later hb
          replace hB := hB.trans (hb.mono hB.size)
          clear hb
          replace hs2 := hs2.weaken (B' := b12 + 1) (by have := Z12M.out; omega)
          clear Z12M
          clear hs o1 HL1 HVO
          go_wp2_with (refine wpList_stopL 33 (.tmp 5) rfl ?_)
          refine ⟨?_⟩
          have tn5 : Turns (fun b => b = b5) wR (wR.setCell ⟨b5, 0, none⟩ (.slice x2 34 c2)) := (Turns.refl (fun b => b = b5) wR).setCell (p := ⟨b5, 0, none⟩) (fun _ => rfl) _
          replace c5 : (wR.setCell ⟨b5, 0, none⟩ (.slice x2 34 c2)).cell? ⟨b5, 0, none⟩ = some (.slice x2 34 c2) := World.cell?_setCell_same' _ _ _ (by rw [c5]; rfl)
          replace f5 : (wR.setCell ⟨b5, 0, none⟩ (.slice x2 34 c2)).frozen? ⟨b5, 0, none⟩ = false := (World.frozen?_setCell _ _ _ _).trans f5
          replace hs2 := hs2.turn tn5 (fun b e => by omega)
          replace hB := hB.setCell (p := ⟨b5, 0, none⟩) w5 (.slice x2 34 c2)
          replace z5 := Nat.lt_of_lt_of_le z5 tn5.size
          replace z9 := Nat.lt_of_lt_of_le z9 tn5.size
          replace z12 := Nat.lt_of_lt_of_le z12 tn5.size
          replace a_b9 := a_b9.turn tn5 (by omega)
          replace a_b13 := a_b13.turn tn5 (by omega)
          replace i9 := i9.turn tn5 (fun p e k => by have := n9.1 p e; omega) (fun p e k => by have := n9.2 p e; omega)
          replace iN : SwIn (wR.setCell ⟨b5, 0, none⟩ (.slice x2 34 c2)) sN ⟨tx, tc, xpN, cpN⟩ := ⟨by rw [KhiN.out]; exact TB.out.later hB, iN.2.1, iN.2.2.turn tn5 (fun p e k => by have := NN.out p e; omega)⟩
          obtain ⟨V5, hV⟩ : ∃ V, (wR.setCell ⟨b5, 0, none⟩ (.slice x2 34 c2)) = V := ⟨_, rfl⟩
          rw [hV] at c5 f5 hs2 hB z5 z9 z12 a_b9 a_b13 i9 iN ⊢
          clear hV tn5 p0 p1 p2 p3
          go_wp2_with fail
          have Z9M := Lib.hid z9
          refine (rn_r _ _ hs2 HO.out).mono ?_
          rintro e wQ ⟨saQ, rfl, iQ, nQ, hb⟩
          replace f5 := (hb.frozen (p := ⟨b5, 0, none⟩) z5).trans f5
          replace z5 := Nat.lt_of_lt_of_le z5 hb.size
          replace z9 := Nat.lt_of_lt_of_le z9 hb.size
          replace z12 := Nat.lt_of_lt_of_le z12 hb.size
          replace c5 := later hb c5
          replace hs2 := hs2.later hb
          replace a_b9 := a_b9.later hb
          replace a_b13 := a_b13.later hb
          replace i9 := i9.later hb
          replace iN := iN.later hb
          replace hB := hB.trans (hb.mono hB.size)
          clear hb
          replace nQ : SwNew (b9 + 1) saQ := ⟨fun p e => by have := nQ.1 p e; have := Z9M.out; omega, fun p e => by have := nQ.2 p e; have := Z9M.out; omega⟩
          have M9 := Lib.hid z9
          go_wp2_with (refine wpList_allocTo 18 rfl rfl _ rfl soft_zero ?_; intro Xq0 a_b18 hb0 hz0; refine Hid.out ?_)
          unfold Hid
          try simp only [Act.put, List.setIfInBounds_toArray, List.set_cons_zero, List.set_cons_succ]
          obtain ⟨b18, e_b18⟩ : ∃ a, wQ.heap.size = a := ⟨_, rfl⟩
          have s_b18 : wQ.heap.size ≤ b18 := by omega
          have hb := hb0
          rw [e_b18] at a_b18 hz0 ⊢
          clear hb0
          have hz : b18 < Xq0.heap.size := by omega
          clear e_b18 hz0
          go_wp2_with (refine wpList_storeB rfl rfl _ (.tmp 18) _ rfl (b := b18) (q := 0) rfl (n := 23) (v := softV sN saQ) rfl a_b18 (fun j _ => soft_one _ _ _) soft_size ?_; intro Yq0 t1; refine Hid.out ?_)
          unfold Hid
          replace hb := t1.below _ _ (by omega) hb
          replace a_b18 := t1.blk
          rw [← t1.size] at hz
          clear t1
          replace c5 := later hb c5
          replace hs2 := hs2.later hb
          replace a_b9 := a_b9.later hb
          replace a_b13 := a_b13.later hb
          replace i9 := i9.later hb
          replace iN := iN.later hb
          replace iQ := iQ.later hb
          replace f5 := (hb.frozen (p := ⟨b5, 0, none⟩) z5).trans f5
          replace z5 := Nat.lt_of_lt_of_le z5 hb.size
          replace z9 := Nat.lt_of_lt_of_le z9 hb.size
          replace z12 := Nat.lt_of_lt_of_le z12 hb.size
          replace hB := hB.trans (hb.mono hB.size)
          clear hb hz
          have m18 : b9 < b18 := by have := M9.out; omega
          clear M9 s_b18
          go_wp2_with (first | (refine wpList_loadN rfl _ (.tmp 18) rfl (b := b18) (q := 0) rfl (run_loadSw a_b18) ?_) | (refine wpList_loadN rfl _ (.tmp 13) rfl (b := b13) (q := 0) rfl (run_loadSw a_b13) ?_))
          refine (same_soft sN _ _ _ iQ iN KhpN.out).mono ?_
          rintro e wT ⟨rfl, hb⟩
          replace f5 := (hb.frozen (p := ⟨b5, 0, none⟩) z5).trans f5
          replace z5 := Nat.lt_of_lt_of_le z5 hb.size
          replace z9 := Nat.lt_of_lt_of_le z9 hb.size
          replace z12 := Nat.lt_of_lt_of_le z12 hb.size
          replace c5 := later hb c5
          replace hs2 := hs2.later hb
          replace a_b9 := a_b9.later hb
          replace a_b13 := a_b13.later hb
          replace i9 := i9.later hb
          replace iN := iN.later hb
          replace iQ := iQ.later hb
          replace a_b18 := a_b18.later hb
          replace hB := hB.trans (hb.mono hB.size)
          clear hb
          clear i9 iN a_b13
          go_wp2_with (first | (refine wpList_loadN rfl _ (.tmp 18) rfl (b := b18) (q := 0) rfl (run_loadSw a_b18) ?_) | (refine wpList_storeB rfl rfl _ (.tmp 9) _ rfl (b := b9) (q := 0) rfl (n := 23) (v := softV sN saQ) rfl a_b9 (fun j _ => soft_one _ _ _) soft_size ?_; intro Y9 t9; refine Hid.out ?_))
          unfold Hid
          have tn9 := t9.turns (fun b => b = b9) _ (fun _ => rfl) (Turns.refl _ _)
          replace hB := t9.below _ _ (by omega) hB
          replace c5 := tn9.cell (p := ⟨b5, 0, none⟩) (show ¬ b5 = b9 by omega) c5
          replace f5 := (t9.frozen ⟨b5, 0, none⟩).trans f5
          replace hs2 := hs2.turn tn9 (fun b e => by omega)
          replace iQ := iQ.turn tn9 (fun p e k => by have := nQ.1 p e; omega) (fun p e k => by have := nQ.2 p e; omega)
          replace a_b9 := t9.blk
          clear t9 tn9 a_b18
          go_wp2_with fail
          have hI : PwI w.heap.size b5 b9 rt w true (i + 1) Y9 := ⟨x2, c2, rs2, _, sN, saQ, ⟨c5, f5⟩, hs2.weaken (Nat.zero_le _), a_b9, iQ, nQ, hB, .inr ⟨rfl, ⟨KhnN.out, KhpN.out⟩, _, _, HO.out, hrn⟩⟩
          exact ⟨⟨i + 1, true, by omega, by go_num, rfl, hI⟩, by simp [intOf]; omega⟩
        · have e4 : decide ((ov : Int) ≥ (nn : Int) + 1) = false := by simp; omega
          have e5 : decide ((nn : Int) + 1 ≤ (ov : Int)) = false := by simp; omega
          have e6 : decide (nn + 1 ≤ ov) = false := by simp; omega
          have e7 : decide (nn < ov) = false := by simp; omega
          obtain ⟨hCO, hvo⟩ := HCU ov sv (by rw [HL1.out]; omega) hsv8
          have HCO := Lib.hid hCO
          have HVO := Lib.hid hvo
          clear HCU HRU hCO hvo
          have htm9 : Int.tmod (sw_ : Int) 109 = (sv : Int) := tm109 hsv
          have hwo : IntKind.i64.wrap (ov : Int) = (ov : Int) := wrI htb
          have hws : IntKind.i64.wrap (sw_ : Int) = (sw_ : Int) := wrI hsb
          have hwo6 : wrap64 (ov : Int) = (ov : Int) := wr6 htb
          have hws6 : wrap64 (sw_ : Int) = (sw_ : Int) := wr6 hsb
          clear hsv htb hsb
          go_wp2_with fail
          clear e2 e3 e4 e5 e6 e7 htm9 hwo hws hwo6 hws6
          rcases HCO.out with hO | hO
          · have HO := Lib.hid hO
            clear hO HCO
            have Z12M := Lib.hid z12
            refine (cut34 _ (nn + 1) ov sv _ hs HST.out.st o1 HL1.out (by omega) HVO.out).mono ?_
            rintro e wR ⟨x2, c2, rs2, rfl, hs2, hb⟩
            replace f5 := (hb.frozen (p := ⟨b5, 0, none⟩) z5).trans f5
            replace z5 := Nat.lt_of_lt_of_le z5 hb.size
            replace z9 := Nat.lt_of_lt_of_le z9 hb.size
            replace z12 := Nat.lt_of_lt_of_le z12 hb.size
            replace c5 := later hb c5
            replace hs := hs.later hb
            replace a_b9 := a_b9.later hb
            replace i9 := i9.later hb
            replace p0 := later hb p0
            replace p1 := later hb p1
            replace p2 := later hb p2
            replace p3 := later hb p3
            replace iN := iN.later hb
            replace a_b13 := a_b13.later hb
            replace o1 := o1.later hb
            replace hB := hB.trans (hb.mono hB.size)
            clear hb
            replace hs2 := hs2.weaken (B' := b12 + 1) (by have := Z12M.out; omega)
            clear Z12M
            clear hs o1 HL1 HVO
            go_wp2_with (refine wpList_stopL 33 (.tmp 5) rfl ?_)
            refine ⟨?_⟩
            have tn5 : Turns (fun b => b = b5) wR (wR.setCell ⟨b5, 0, none⟩ (.slice x2 34 c2)) := (Turns.refl (fun b => b = b5) wR).setCell (p := ⟨b5, 0, none⟩) (fun _ => rfl) _
            replace c5 : (wR.setCell ⟨b5, 0, none⟩ (.slice x2 34 c2)).cell? ⟨b5, 0, none⟩ = some (.slice x2 34 c2) := World.cell?_setCell_same' _ _ _ (by rw [c5]; rfl)
            replace f5 : (wR.setCell ⟨b5, 0, none⟩ (.slice x2 34 c2)).frozen? ⟨b5, 0, none⟩ = false := (World.frozen?_setCell _ _ _ _).trans f5
            replace hs2 := hs2.turn tn5 (fun b e => by omega)
            replace hB := hB.setCell (p := ⟨b5, 0, none⟩) w5 (.slice x2 34 c2)
            replace z5 := Nat.lt_of_lt_of_le z5 tn5.size
            replace z9 := Nat.lt_of_lt_of_le z9 tn5.size
            replace z12 := Nat.lt_of_lt_of_le z12 tn5.size
            replace a_b9 := a_b9.turn tn5 (by omega)
            replace a_b13 := a_b13.turn tn5 (by omega)
            replace i9 := i9.turn tn5 (fun p e k => by have := n9.1 p e; omega) (fun p e k => by have := n9.2 p e; omega)
            replace iN : SwIn (wR.setCell ⟨b5, 0, none⟩ (.slice x2 34 c2)) sN ⟨tx, tc, xpN, cpN⟩ := ⟨by rw [KhiN.out]; exact TB.out.later hB, iN.2.1, iN.2.2.turn tn5 (fun p e k => by have := NN.out p e; omega)⟩
            obtain ⟨V5, hV⟩ : ∃ V, (wR.setCell ⟨b5, 0, none⟩ (.slice x2 34 c2)) = V := ⟨_, rfl⟩
            rw [hV] at c5 f5 hs2 hB z5 z9 z12 a_b9 a_b13 i9 iN ⊢
            clear hV tn5 p0 p1 p2 p3
            go_wp2_with fail
            have Z9M := Lib.hid z9
            refine (rn_i _ _ hs2 HO.out).mono ?_
            rintro e wQ ⟨saQ, rfl, iQ, nQ, hb⟩
            replace f5 := (hb.frozen (p := ⟨b5, 0, none⟩) z5).trans f5
            replace z5 := Nat.lt_of_lt_of_le z5 hb.size
            replace z9 := Nat.lt_of_lt_of_le z9 hb.size
            replace z12 := Nat.lt_of_lt_of_le z12 hb.size
            replace c5 := later hb c5
            replace hs2 := hs2.later hb
            replace a_b9 := a_b9.later hb
            replace a_b13 := a_b13.later hb
            replace i9 := i9.later hb
            replace iN := iN.later hb
            replace hB := hB.trans (hb.mono hB.size)
            clear hb
            replace nQ : SwNew (b9 + 1) saQ := ⟨fun p e => by have := nQ.1 p e; have := Z9M.out; omega, fun p e => by have := nQ.2 p e; have := Z9M.out; omega⟩
            have M9 := Lib.hid z9
            go_wp2_with (refine wpList_allocTo 18 rfl rfl _ rfl soft_zero ?_; intro Xq0 a_b18 hb0 hz0; refine Hid.out ?_)
            unfold Hid
            try simp only [Act.put, List.setIfInBounds_toArray, List.set_cons_zero, List.set_cons_succ]
            obtain ⟨b18, e_b18⟩ : ∃ a, wQ.heap.size = a := ⟨_, rfl⟩
            have s_b18 : wQ.heap.size ≤ b18 := by omega
            have hb := hb0
            rw [e_b18] at a_b18 hz0 ⊢
            clear hb0
            have hz : b18 < Xq0.heap.size := by omega
            clear e_b18 hz0
            go_wp2_with (refine wpList_storeB rfl rfl _ (.tmp 18) _ rfl (b := b18) (q := 0) rfl (n := 23) (v := softV zSw saQ) rfl a_b18 (fun j _ => soft_one _ _ _) soft_size ?_; intro Yq0 t1; refine Hid.out ?_)
            unfold Hid
            replace hb := t1.below _ _ (by omega) hb
            replace a_b18 := t1.blk
            rw [← t1.size] at hz
            clear t1
            replace c5 := later hb c5
            replace hs2 := hs2.later hb
            replace a_b9 := a_b9.later hb
            replace a_b13 := a_b13.later hb
            replace i9 := i9.later hb
            replace iN := iN.later hb
            replace iQ := iQ.later hb
            replace f5 := (hb.frozen (p := ⟨b5, 0, none⟩) z5).trans f5
            replace z5 := Nat.lt_of_lt_of_le z5 hb.size
            replace z9 := Nat.lt_of_lt_of_le z9 hb.size
            replace z12 := Nat.lt_of_lt_of_le z12 hb.size
            replace hB := hB.trans (hb.mono hB.size)
            clear hb hz
            have m18 : b9 < b18 := by have := M9.out; omega
            clear M9 s_b18
            clear iQ nQ a_b18 iN a_b13
            go_wp2_with fail
            have hI : PwI w.heap.size b5 b9 rt w false (i + 1) Yq0 := ⟨x2, c2, rs2, _, tn, sa, ⟨c5, f5⟩, hs2.weaken (Nat.zero_le _), a_b9, i9, n9, hB,   .inl ⟨rfl, HO.out⟩⟩
            exact ⟨⟨i + 1, false, by omega, by go_num, rfl, hI⟩, by simp [intOf]; omega⟩
          · have HO := Lib.hid hO
            clear hO HCO
            have Z12M := Lib.hid z12
            refine (cut34 _ (nn + 1) ov sv _ hs HST.out.st o1 HL1.out (by omega) HVO.out).mono ?_
            rintro e wR ⟨x2, c2, rs2, rfl, hs2, hb⟩
            replace f5 := (hb.frozen (p := ⟨b5, 0, none⟩) z5).trans f5
            replace z5 := Nat.lt_of_lt_of_le z5 hb.size
            replace z9 := Nat.lt_of_lt_of_le z9 hb.size
            replace z12 := Nat.lt_of_lt_of_le z12 hb.size
            replace c5 := later hb c5
            replace hs := hs.later hb
            replace a_b9 := a_b9.later hb
            replace i9 := i9.later hb
            replace p0 := later hb p0
            replace p1 := later hb p1
            replace p2 := later hb p2
            replace p3 := later hb p3
            replace iN := iN.later hb
            replace a_b13 := a_b13.later hb
            replace o1 := o1.later hb
            replace hB := hB.trans (hb.mono hB.size)
            clear hb
            replace hs2 := hs2.weaken (B' := b12 + 1) (by have := Z12M.out; omega)
            clear Z12M
            clear hs o1 HL1 HVO
            go_wp2_with (refine wpList_stopL 33 (.tmp 5) rfl ?_)
            refine ⟨?_⟩
            have tn5 : Turns (fun b => b = b5) wR (wR.setCell ⟨b5, 0, none⟩ (.slice x2 34 c2)) := (Turns.refl (fun b => b = b5) wR).setCell (p := ⟨b5, 0, none⟩) (fun _ => rfl) _
            replace c5 : (wR.setCell ⟨b5, 0, none⟩ (.slice x2 34 c2)).cell? ⟨b5, 0, none⟩ = some (.slice x2 34 c2) := World.cell?_setCell_same' _ _ _ (by rw [c5]; rfl)
            replace f5 : (wR.setCell ⟨b5, 0, none⟩ (.slice x2 34 c2)).frozen? ⟨b5, 0, none⟩ = false := (World.frozen?_setCell _ _ _ _).trans f5
            replace hs2 := hs2.turn tn5 (fun b e => by omega)
            replace hB := hB.setCell (p := ⟨b5, 0, none⟩) w5 (.slice x2 34 c2)
            replace z5 := Nat.lt_of_lt_of_le z5 tn5.size
            replace z9 := Nat.lt_of_lt_of_le z9 tn5.size
            replace z12 := Nat.lt_of_lt_of_le z12 tn5.size
            replace a_b9 := a_b9.turn tn5 (by omega)
            replace a_b13 := a_b13.turn tn5 (by omega)
            replace i9 := i9.turn tn5 (fun p e k => by have := n9.1 p e; omega) (fun p e k => by have := n9.2 p e; omega)
            replace iN : SwIn (wR.setCell ⟨b5, 0, none⟩ (.slice x2 34 c2)) sN ⟨tx, tc, xpN, cpN⟩ := ⟨by rw [KhiN.out]; exact TB.out.later hB, iN.2.1, iN.2.2.turn tn5 (fun p e k => by have := NN.out p e; omega)⟩
            obtain ⟨V5, hV⟩ : ∃ V, (wR.setCell ⟨b5, 0, none⟩ (.slice x2 34 c2)) = V := ⟨_, rfl⟩
            rw [hV] at c5 f5 hs2 hB z5 z9 z12 a_b9 a_b13 i9 iN ⊢
            clear hV tn5 p0 p1 p2 p3
            go_wp2_with fail
            have Z9M := Lib.hid z9
            refine (rn_r _ _ hs2 HO.out).mono ?_
            rintro e wQ ⟨saQ, rfl, iQ, nQ, hb⟩
            replace f5 := (hb.frozen (p := ⟨b5, 0, none⟩) z5).trans f5
            replace z5 := Nat.lt_of_lt_of_le z5 hb.size
            replace z9 := Nat.lt_of_lt_of_le z9 hb.size
            replace z12 := Nat.lt_of_lt_of_le z12 hb.size
            replace c5 := later hb c5
            replace hs2 := hs2.later hb
            replace a_b9 := a_b9.later hb
            replace a_b13 := a_b13.later hb
            replace i9 := i9.later hb
            replace iN := iN.later hb
            replace hB := hB.trans (hb.mono hB.size)
            clear hb
            replace nQ : SwNew (b9 + 1) saQ := ⟨fun p e => by have := nQ.1 p e; have := Z9M.out; omega, fun p e => by have := nQ.2 p e; have := Z9M.out; omega⟩
            have M9 := Lib.hid z9
            go_wp2_with (refine wpList_allocTo 18 rfl rfl _ rfl soft_zero ?_; intro Xq0 a_b18 hb0 hz0; refine Hid.out ?_)
            unfold Hid
            try simp only [Act.put, List.setIfInBounds_toArray, List.set_cons_zero, List.set_cons_succ]
            obtain ⟨b18, e_b18⟩ : ∃ a, wQ.heap.size = a := ⟨_, rfl⟩
            have s_b18 : wQ.heap.size ≤ b18 := by omega
            have hb := hb0
            rw [e_b18] at a_b18 hz0 ⊢
            clear hb0
            have hz : b18 < Xq0.heap.size := by omega
            clear e_b18 hz0
            go_wp2_with (refine wpList_storeB rfl rfl _ (.tmp 18) _ rfl (b := b18) (q := 0) rfl (n := 23) (v := softV sN saQ) rfl a_b18 (fun j _ => soft_one _ _ _) soft_size ?_; intro Yq0 t1; refine Hid.out ?_)
            unfold Hid
            replace hb := t1.below _ _ (by omega) hb
            replace a_b18 := t1.blk
            rw [← t1.size] at hz
            clear t1
            replace c5 := later hb c5
            replace hs2 := hs2.later hb
            replace a_b9 := a_b9.later hb
            replace a_b13 := a_b13.later hb
            replace i9 := i9.later hb
            replace iN := iN.later hb
            replace iQ := iQ.later hb
            replace f5 := (hb.frozen (p := ⟨b5, 0, none⟩) z5).trans f5
            replace z5 := Nat.lt_of_lt_of_le z5 hb.size
            replace z9 := Nat.lt_of_lt_of_le z9 hb.size
            replace z12 := Nat.lt_of_lt_of_le z12 hb.size
            replace hB := hB.trans (hb.mono hB.size)
            clear hb hz
            have m18 : b9 < b18 := by have := M9.out; omega
            clear M9 s_b18
            go_wp2_with (first | (refine wpList_loadN rfl _ (.tmp 18) rfl (b := b18) (q := 0) rfl (run_loadSw a_b18) ?_) | (refine wpList_loadN rfl _ (.tmp 13) rfl (b := b13) (q := 0) rfl (run_loadSw a_b13) ?_))
            refine (same_soft sN _ _ _ iQ iN KhpN.out).mono ?_
            rintro e wT ⟨rfl, hb⟩
            replace f5 := (hb.frozen (p := ⟨b5, 0, none⟩) z5).trans f5
            replace z5 := Nat.lt_of_lt_of_le z5 hb.size
            replace z9 := Nat.lt_of_lt_of_le z9 hb.size
            replace z12 := Nat.lt_of_lt_of_le z12 hb.size
            replace c5 := later hb c5
            replace hs2 := hs2.later hb
            replace a_b9 := a_b9.later hb
            replace a_b13 := a_b13.later hb
            replace i9 := i9.later hb
            replace iN := iN.later hb
            replace iQ := iQ.later hb
            replace a_b18 := a_b18.later hb
            replace hB := hB.trans (hb.mono hB.size)
            clear hb
            clear i9 iN a_b13
            go_wp2_with (first | (refine wpList_loadN rfl _ (.tmp 18) rfl (b := b18) (q := 0) rfl (run_loadSw a_b18) ?_) | (refine wpList_storeB rfl rfl _ (.tmp 9) _ rfl (b := b9) (q := 0) rfl (n := 23) (v := softV sN saQ) rfl a_b9 (fun j _ => soft_one _ _ _) soft_size ?_; intro Y9 t9; refine Hid.out ?_))
            unfold Hid
            have tn9 := t9.turns (fun b => b = b9) _ (fun _ => rfl) (Turns.refl _ _)
            replace hB := t9.below _ _ (by omega) hB
            replace c5 := tn9.cell (p := ⟨b5, 0, none⟩) (show ¬ b5 = b9 by omega) c5
            replace f5 := (t9.frozen ⟨b5, 0, none⟩).trans f5
            replace hs2 := hs2.turn tn9 (fun b e => by omega)
            replace iQ := iQ.turn tn9 (fun p e k => by have := nQ.1 p e; omega) (fun p e k => by have := nQ.2 p e; omega)
            replace a_b9 := t9.blk
            clear t9 tn9 a_b18
            go_wp2_with fail
            have hI : PwI w.heap.size b5 b9 rt w true (i + 1) Y9 := ⟨x2, c2, rs2, _, sN, saQ, ⟨c5, f5⟩, hs2.weaken (Nat.zero_le _), a_b9, iQ, nQ, hB, .inr ⟨rfl, ⟨KhnN.out, KhpN.out⟩, _, _, HO.out, hrn⟩⟩
            exact ⟨⟨i + 1, true, by omega, by go_num, rfl, hI⟩, by simp [intOf]; omega⟩
      · have HST := Lib.hid hrun
        have HNM := Lib.hid hnm
        clear hrun hnm
        have v9 := a_b9.ver
        have v13 := a_b13.ver
        obtain ⟨nv, hnv⟩ : ∃ v, sN.ver = v := ⟨_, rfl⟩
        obtain ⟨ov9, hov9⟩ : ∃ v, tn.ver = v := ⟨_, rfl⟩
        have HNV := Lib.hid hnv
        have HOV := Lib.hid hov9
        rw [hnv] at v13
        rw [hov9] at v9
        clear hnv hov9
        by_cases hle : nv ≤ ov9
        · have e1 : decide (nv ≤ ov9) = true := decide_eq_true hle
          go_wp2_with (refine wpList_loadN rfl _ (.tmp 13) rfl (b := b13) (q := 0) rfl (run_loadSw a_b13) ?_)
          refine (ins_e34 _ _ _ hs HST.out.st iN (Ld.ins_old HST.out KhvN.out KhgN.out (by rw [HNV.out, HOV.out]; exact hle)) (by decide)).mono ?_
          rintro e wI ⟨y1, kc1, rfl, hb⟩
          replace f5 := (hb.frozen (p := ⟨b5, 0, none⟩) z5).trans f5
          replace z5 := Nat.lt_of_lt_of_le z5 hb.size
          replace z9 := Nat.lt_of_lt_of_le z9 hb.size
          replace z12 := Nat.lt_of_lt_of_le z12 hb.size
          replace c5 := later hb c5
          replace hs := hs.later hb
          replace a_b9 := a_b9.later hb
          replace i9 := i9.later hb
          replace p0 := later hb p0
          replace p1 := later hb p1
          replace p2 := later hb p2
          replace p3 := later hb p3
          replace iN := iN.later hb
          replace a_b13 := a_b13.later hb
          replace v9 := later hb v9
          replace v13 := later hb v13
          replace hB := hB.trans (hb.mono hB.size)
          clear hb
          go_wp2_with fail
          have hI : PwI w.heap.size b5 b9 rt w true (i + 1) wI := ⟨x, c, rs, ls, tn, sa, ⟨c5, f5⟩, hs, a_b9, i9, n9, hB, .inr ⟨rfl, HNM.out, a, r, HST.out, by omega⟩⟩
          exact ⟨⟨i + 1, true, by omega, by go_num, rfl, hI⟩, by simp [intOf]; omega⟩
        have e1 : decide (nv ≤ ov9) = false := by simp; omega
        have hlv : tn.ver < sN.ver := by rw [HNV.out, HOV.out]; omega
        have hvr : tn.ver ≠ sN.ver := by omega
        go_wp2_with (refine wpList_loadN rfl _ (.tmp 13) rfl (b := b13) (q := 0) rfl (run_loadSw a_b13) ?_)
        refine (ins_r _ _ _ hs HST.out.st iN (Ld.ins_run HST.out KhvN.out KhgN.out hlv (by have := HIL.out; omega)).1).mono ?_
        rintro e wI ⟨y1, kc1, os1, rfl, o1, hl1, hm1, hb⟩
        replace f5 := (hb.frozen (p := ⟨b5, 0, none⟩) z5).trans f5
        replace z5 := Nat.lt_of_lt_of_le z5 hb.size
        replace z9 := Nat.lt_of_lt_of_le z9 hb.size
        replace z12 := Nat.lt_of_lt_of_le z12 hb.size
        replace c5 := later hb c5
        replace hs := hs.later hb
        replace a_b9 := a_b9.later hb
        replace i9 := i9.later hb
        replace p0 := later hb p0
        replace p1 := later hb p1
        replace p2 := later hb p2
        replace p3 := later hb p3
        replace iN := iN.later hb
        replace a_b13 := a_b13.later hb
        replace v9 := later hb v9
        replace v13 := later hb v13
        replace hB := hB.trans (hb.mono hB.size)
        clear hb
        have hi := HIL.out
        obtain ⟨nn, hnn⟩ : ∃ n, Ld.ckN (Ld.form sN) = n := ⟨_, rfl⟩
        have hn16 := (Ld.ckN_form sN KhvN.out).2.1
        have hn1 := (Ld.ckN_form sN KhvN.out).1
        have HRU := Ld.run_next HST.out KhNN.out KhvN.out KhgN.out hlv (by omega) hm1
        have HCU := fun n k h1 h2 => Ld.cut_next HST.out KhNN.out KhvN.out KhgN.out hlv (by omega) hm1 n k h1 h2
        have hrn : r.number + 1 ≤ i + 1 := by omega
        rw [hnn] at hl1 hn16 hn1 HRU HCU ⊢
        have HL1 := Lib.hid hl1
        clear hnn hm1 hl1
        have htb := top.toNat_lt
        have hsb := tst.toNat_lt
        obtain ⟨ov, hov⟩ : ∃ n : Nat, top.toNat = n := ⟨_, rfl⟩
        obtain ⟨sw_, hsw⟩ : ∃ n : Nat, tst.toNat = n := ⟨_, rfl⟩
        rw [hov] at p2 htb
        rw [hsw] at p3 hsb
        clear hov hsw
        obtain ⟨sv, hsv⟩ : ∃ n, sw_ % 109 = n := ⟨_, rfl⟩
        have hsv8 : sv ≤ 108 := by omega
        have e2 : decide ((nn : Int) + 1 < 2) = false := by simp; omega
        have e3 : decide ((nn + 1 : Nat) < 2) = false := by simp; omega
        by_cases hd : nn + 1 ≤ ov
        · have e4 : decide ((ov : Int) ≥ (nn : Int) + 1) = true := by simp; omega
          have e5 : decide ((nn : Int) + 1 ≤ (ov : Int)) = true := by simp; omega
          have e6 : decide (nn + 1 ≤ ov) = true := by simp; omega
          have e7 : decide (nn < ov) = true := by simp; omega
          obtain ⟨hO, hvo⟩ := HRU
          have HO := Lib.hid hO
          have HVO := Lib.hid hvo
          clear HCU hO hvo
          have htm9 : Int.tmod (sw_ : Int) 109 = (sv : Int) := tm109 hsv
          have hwo : IntKind.i64.wrap (ov : Int) = (ov : Int) := wrI htb
          have hws : IntKind.i64.wrap (sw_ : Int) = (sw_ : Int) := wrI hsb
          have hwo6 : wrap64 (ov : Int) = (ov : Int) := wr6 htb
          have hws6 : wrap64 (sw_ : Int) = (sw_ : Int) := wr6 hsb
          clear hsv htb hsb
          go_wp2_with fail
          clear e2 e3 e4 e5 e6 e7 htm9 hwo hws hwo6 hws6
          have Z12M := Lib.hid z12
          refine (run34 _ (nn + 1) _ hs HST.out.st o1 HL1.out (by omega) HVO.out).mono ?_
          rintro e wR ⟨x2, c2, rs2, rfl, hs2, hb⟩
          replace f5 := (hb.frozen (p := ⟨b5, 0, none⟩) z5).trans f5
          replace z5 := Nat.lt_of_lt_of_le z5 hb.size
          replace z9 := Nat.lt_of_lt_of_le z9 hb.size
          replace z12 := Nat.lt_of_lt_of_le z12 hb.size
          replace c5 := later hb c5
          replace hs := hs.later hb
          replace a_b9 := a_b9.later hb
          replace i9 := i9.later hb
          replace p0 := later hb p0
          replace p1 := later hb p1
          replace p2 := later hb p2
          replace p3 := later hb p3
          replace iN := iN.later hb
          replace a_b13 := a_b13.later hb
          replace v9 := later hb v9
          replace v13 := later hb v13
          replace o1 := o1.later hb
          replace hB := hB.trans (hb.mono hB.size)
          clear hb
          replace hs2 := hs2.weaken (B' := b12 + 1) (by have := Z12M.out; omega)
          clear Z12M
          clear hs o1 HL1 HVO
          go_wp2_with (refine wpList_stopL 33 (.tmp 5) rfl ?_)
          refine ⟨?_⟩
          have tn5 : Turns (fun b => b = b5) wR (wR.setCell ⟨b5, 0, none⟩ (.slice x2 34 c2)) := (Turns.refl (fun b => b = b5) wR).setCell (p := ⟨b5, 0, none⟩) (fun _ => rfl) _
          replace c5 : (wR.setCell ⟨b5, 0, none⟩ (.slice x2 34 c2)).cell? ⟨b5, 0, none⟩ = some (.slice x2 34 c2) := World.cell?_setCell_same' _ _ _ (by rw [c5]; rfl)
          replace f5 : (wR.setCell ⟨b5, 0, none⟩ (.slice x2 34 c2)).frozen? ⟨b5, 0, none⟩ = false := (World.frozen?_setCell _ _ _ _).trans f5
          replace hs2 := hs2.turn tn5 (fun b e => by omega)
          replace hB := hB.setCell (p := ⟨b5, 0, none⟩) w5 (.slice x2 34 c2)
          replace z5 := Nat.lt_of_lt_of_le z5 tn5.size
          replace z9 := Nat.lt_of_lt_of_le z9 tn5.size
          replace z12 := Nat.lt_of_lt_of_le z12 tn5.size
          replace a_b9 := a_b9.turn tn5 (by omega)
          replace a_b13 := a_b13.turn tn5 (by omega)
          replace i9 := i9.turn tn5 (fun p e k => by have := n9.1 p e; omega) (fun p e k => by have := n9.2 p e; omega)
          replace iN : SwIn (wR.setCell ⟨b5, 0, none⟩ (.slice x2 34 c2)) sN ⟨tx, tc, xpN, cpN⟩ := ⟨by rw [KhiN.out]; exact TB.out.later hB, iN.2.1, iN.2.2.turn tn5 (fun p e k => by have := NN.out p e; omega)⟩
          obtain ⟨V5, hV⟩ : ∃ V, (wR.setCell ⟨b5, 0, none⟩ (.slice x2 34 c2)) = V := ⟨_, rfl⟩
          rw [hV] at c5 f5 hs2 hB z5 z9 z12 a_b9 a_b13 i9 iN ⊢
          clear hV tn5 p0 p1 p2 p3
          go_wp2_with fail
          have Z9M := Lib.hid z9
          refine (rn_r _ _ hs2 HO.out).mono ?_
          rintro e wQ ⟨saQ, rfl, iQ, nQ, hb⟩
          replace f5 := (hb.frozen (p := ⟨b5, 0, none⟩) z5).trans f5
          replace z5 := Nat.lt_of_lt_of_le z5 hb.size
          replace z9 := Nat.lt_of_lt_of_le z9 hb.size
          replace z12 := Nat.lt_of_lt_of_le z12 hb.size
          replace c5 := later hb c5
          replace hs2 := hs2.later hb
          replace a_b9 := a_b9.later hb
          replace a_b13 := a_b13.later hb
          replace i9 := i9.later hb
          replace iN := iN.later hb
          replace hB := hB.trans (hb.mono hB.size)
          clear hb
          replace nQ : SwNew (b9 + 1) saQ := ⟨fun p e => by have := nQ.1 p e; have := Z9M.out; omega, fun p e => by have := nQ.2 p e; have := Z9M.out; omega⟩
          have M9 := Lib.hid z9
          go_wp2_with (refine wpList_allocTo 18 rfl rfl _ rfl soft_zero ?_; intro Xq0 a_b18 hb0 hz0; refine Hid.out ?_)
          unfold Hid
          try simp only [Act.put, List.setIfInBounds_toArray, List.set_cons_zero, List.set_cons_succ]
          obtain ⟨b18, e_b18⟩ : ∃ a, wQ.heap.size = a := ⟨_, rfl⟩
          have s_b18 : wQ.heap.size ≤ b18 := by omega
          have hb := hb0
          rw [e_b18] at a_b18 hz0 ⊢
          clear hb0
          have hz : b18 < Xq0.heap.size := by omega
          clear e_b18 hz0
          go_wp2_with (refine wpList_storeB rfl rfl _ (.tmp 18) _ rfl (b := b18) (q := 0) rfl (n := 23) (v := softV sN saQ) rfl a_b18 (fun j _ => soft_one _ _ _) soft_size ?_; intro Yq0 t1; refine Hid.out ?_)
          unfold Hid
          replace hb := t1.below _ _ (by omega) hb
          replace a_b18 := t1.blk
          rw [← t1.size] at hz
          clear t1
          replace c5 := later hb c5
          replace hs2 := hs2.later hb
          replace a_b9 := a_b9.later hb
          replace a_b13 := a_b13.later hb
          replace i9 := i9.later hb
          replace iN := iN.later hb
          replace iQ := iQ.later hb
          replace f5 := (hb.frozen (p := ⟨b5, 0, none⟩) z5).trans f5
          replace z5 := Nat.lt_of_lt_of_le z5 hb.size
          replace z9 := Nat.lt_of_lt_of_le z9 hb.size
          replace z12 := Nat.lt_of_lt_of_le z12 hb.size
          replace hB := hB.trans (hb.mono hB.size)
          clear hb hz
          have m18 : b9 < b18 := by have := M9.out; omega
          clear M9 s_b18
          go_wp2_with (first | (refine wpList_loadN rfl _ (.tmp 18) rfl (b := b18) (q := 0) rfl (run_loadSw a_b18) ?_) | (refine wpList_loadN rfl _ (.tmp 13) rfl (b := b13) (q := 0) rfl (run_loadSw a_b13) ?_))
          refine (same_soft sN _ _ _ iQ iN KhpN.out).mono ?_
          rintro e wT ⟨rfl, hb⟩
          replace f5 := (hb.frozen (p := ⟨b5, 0, none⟩) z5).trans f5
          replace z5 := Nat.lt_of_lt_of_le z5 hb.size
          replace z9 := Nat.lt_of_lt_of_le z9 hb.size
          replace z12 := Nat.lt_of_lt_of_le z12 hb.size
          replace c5 := later hb c5
          replace hs2 := hs2.later hb
          replace a_b9 := a_b9.later hb
          replace a_b13 := a_b13.later hb
          replace i9 := i9.later hb
          replace iN := iN.later hb
          replace iQ := iQ.later hb
          replace a_b18 := a_b18.later hb
          replace hB := hB.trans (hb.mono hB.size)
          clear hb
          clear i9 iN a_b13
          go_wp2_with (first | (refine wpList_loadN rfl _ (.tmp 18) rfl (b := b18) (q := 0) rfl (run_loadSw a_b18) ?_) | (refine wpList_storeB rfl rfl _ (.tmp 9) _ rfl (b := b9) (q := 0) rfl (n := 23) (v := softV sN saQ) rfl a_b9 (fun j _ => soft_one _ _ _) soft_size ?_; intro Y9 t9; refine Hid.out ?_))
          unfold Hid
          have tn9 := t9.turns (fun b => b = b9) _ (fun _ => rfl) (Turns.refl _ _)
          replace hB := t9.below _ _ (by omega) hB
          replace c5 := tn9.cell (p := ⟨b5, 0, none⟩) (show ¬ b5 = b9 by omega) c5
          replace f5 := (t9.frozen ⟨b5, 0, none⟩).trans f5
          replace hs2 := hs2.turn tn9 (fun b e => by omega)
          replace iQ := iQ.turn tn9 (fun p e k => by have := nQ.1 p e; omega) (fun p e k => by have := nQ.2 p e; omega)
          replace a_b9 := t9.blk
          clear t9 tn9 a_b18
          go_wp2_with fail
          have hI : PwI w.heap.size b5 b9 rt w true (i + 1) Y9 := ⟨x2, c2, rs2, _, sN, saQ, ⟨c5, f5⟩, hs2.weaken (Nat.zero_le _), a_b9, iQ, nQ, hB, .inr ⟨rfl, ⟨KhnN.out, KhpN.out⟩, _, _, HO.out, hrn⟩⟩
          exact ⟨⟨i + 1, true, by omega, by go_num, rfl, hI⟩, by simp [intOf]; omega⟩
        · have e4 : decide ((ov : Int) ≥ (nn : Int) + 1) = false := by simp; omega
          have e5 : decide ((nn : Int) + 1 ≤ (ov : Int)) = false := by simp; omega
          have e6 : decide (nn + 1 ≤ ov) = false := by simp; omega
          have e7 : decide (nn < ov) = false := by simp; omega
          obtain ⟨hCO, hvo⟩ := HCU ov sv (by rw [HL1.out]; omega) hsv8
          have HCO := Lib.hid hCO
          have HVO := Lib.hid hvo
          clear HCU HRU hCO hvo
          have htm9 : Int.tmod (sw_ : Int) 109 = (sv : Int) := tm109 hsv
          have hwo : IntKind.i64.wrap (ov : Int) = (ov : Int) := wrI htb
          have hws : IntKind.i64.wrap (sw_ : Int) = (sw_ : Int) := wrI hsb
          have hwo6 : wrap64 (ov : Int) = (ov : Int) := wr6 htb
          have hws6 : wrap64 (sw_ : Int) = (sw_ : Int) := wr6 hsb
          clear hsv htb hsb
          go_wp2_with fail
          clear e2 e3 e4 e5 e6 e7 htm9 hwo hws hwo6 hws6
          rcases HCO.out with hO | hO
          · have HO := Lib.hid hO
            clear hO HCO
            have Z12M := Lib.hid z12
            refine (cut34 _ (nn + 1) ov sv _ hs HST.out.st o1 HL1.out (by omega) HVO.out).mono ?_
            rintro e wR ⟨x2, c2, rs2, rfl, hs2, hb⟩
            replace f5 := (hb.frozen (p := ⟨b5, 0, none⟩) z5).trans f5
            replace z5 := Nat.lt_of_lt_of_le z5 hb.size
            replace z9 := Nat.lt_of_lt_of_le z9 hb.size
            replace z12 := Nat.lt_of_lt_of_le z12 hb.size
            replace c5 := later hb c5
            replace hs := hs.later hb
            replace a_b9 := a_b9.later hb
            replace i9 := i9.later hb
            replace p0 := later hb p0
            replace p1 := later hb p1
            replace p2 := later hb p2
            replace p3 := later hb p3
            replace iN := iN.later hb
            replace a_b13 := a_b13.later hb
            replace v9 := later hb v9
            replace v13 := later hb v13
            replace o1 := o1.later hb
            replace hB := hB.trans (hb.mono hB.size)
            clear hb
            replace hs2 := hs2.weaken (B' := b12 + 1) (by have := Z12M.out; omega)
            clear Z12M
            clear hs o1 HL1 HVO
            go_wp2_with (refine wpList_stopL 33 (.tmp 5) rfl ?_)
            refine ⟨?_⟩
            have tn5 : Turns (fun b => b = b5) wR (wR.setCell ⟨b5, 0, none⟩ (.slice x2 34 c2)) := (Turns.refl (fun b => b = b5) wR).setCell (p := ⟨b5, 0, none⟩) (fun _ => rfl) _
            replace c5 : (wR.setCell ⟨b5, 0, none⟩ (.slice x2 34 c2)).cell? ⟨b5, 0, none⟩ = some (.slice x2 34 c2) := World.cell?_setCell_same' _ _ _ (by rw [c5]; rfl)
            replace f5 : (wR.setCell ⟨b5, 0, none⟩ (.slice x2 34 c2)).frozen? ⟨b5, 0, none⟩ = false := (World.frozen?_setCell _ _ _ _).trans f5
            replace hs2 := hs2.turn tn5 (fun b e => by omega)
            replace hB := hB.setCell (p := ⟨b5, 0, none⟩) w5 (.slice x2 34 c2)
            replace z5 := Nat.lt_of_lt_of_le z5 tn5.size
            replace z9 := Nat.lt_of_lt_of_le z9 tn5.size
            replace z12 := Nat.lt_of_lt_of_le z12 tn5.size
            replace a_b9 := a_b9.turn tn5 (by omega)
            replace a_b13 := a_b13.turn tn5 (by omega)
            replace i9 := i9.turn tn5 (fun p e k => by have := n9.1 p e; omega) (fun p e k => by have := n9.2 p e; omega)
            replace iN : SwIn (wR.setCell ⟨b5, 0, none⟩ (.slice x2 34 c2)) sN ⟨tx, tc, xpN, cpN⟩ := ⟨by rw [KhiN.out]; exact TB.out.later hB, iN.2.1, iN.2.2.turn tn5 (fun p e k => by have := NN.out p e; omega)⟩
            obtain ⟨V5, hV⟩ : ∃ V, (wR.setCell ⟨b5, 0, none⟩ (.slice x2 34 c2)) = V := ⟨_, rfl⟩
            rw [hV] at c5 f5 hs2 hB z5 z9 z12 a_b9 a_b13 i9 iN ⊢
            clear hV tn5 p0 p1 p2 p3
            go_wp2_with fail
            have Z9M := Lib.hid z9
            refine (rn_r _ _ hs2 HO.out).mono ?_
            rintro e wQ ⟨saQ, rfl, iQ, nQ, hb⟩
            replace f5 := (hb.frozen (p := ⟨b5, 0, none⟩) z5).trans f5
            replace z5 := Nat.lt_of_lt_of_le z5 hb.size
            replace z9 := Nat.lt_of_lt_of_le z9 hb.size
            replace z12 := Nat.lt_of_lt_of_le z12 hb.size
            replace c5 := later hb c5
            replace hs2 := hs2.later hb
            replace a_b9 := a_b9.later hb
            replace a_b13 := a_b13.later hb
            replace i9 := i9.later hb
            replace iN := iN.later hb
            replace hB := hB.trans (hb.mono hB.size)
            clear hb
            replace nQ : SwNew (b9 + 1) saQ := ⟨fun p e => by have := nQ.1 p e; have := Z9M.out; omega, fun p e => by have := nQ.2 p e; have := Z9M.out; omega⟩
            have M9 := Lib.hid z9
            go_wp2_with (refine wpList_allocTo 18 rfl rfl _ rfl soft_zero ?_; intro Xq0 a_b18 hb0 hz0; refine Hid.out ?_)
            unfold Hid
            try simp only [Act.put, List.setIfInBounds_toArray, List.set_cons_zero, List.set_cons_succ]
            obtain ⟨b18, e_b18⟩ : ∃ a, wQ.heap.size = a := ⟨_, rfl⟩
            have s_b18 : wQ.heap.size ≤ b18 := by omega
            have hb := hb0
            rw [e_b18] at a_b18 hz0 ⊢
            clear hb0
            have hz : b18 < Xq0.heap.size := by omega
            clear e_b18 hz0
            go_wp2_with (refine wpList_storeB rfl rfl _ (.tmp 18) _ rfl (b := b18) (q := 0) rfl (n := 23) (v := softV tn saQ) rfl a_b18 (fun j _ => soft_one _ _ _) soft_size ?_; intro Yq0 t1; refine Hid.out ?_)
            unfold Hid
            replace hb := t1.below _ _ (by omega) hb
            replace a_b18 := t1.blk
            rw [← t1.size] at hz
            clear t1
            replace c5 := later hb c5
            replace hs2 := hs2.later hb
            replace a_b9 := a_b9.later hb
            replace a_b13 := a_b13.later hb
            replace i9 := i9.later hb
            replace iN := iN.later hb
            replace iQ := iQ.later hb
            replace f5 := (hb.frozen (p := ⟨b5, 0, none⟩) z5).trans f5
            replace z5 := Nat.lt_of_lt_of_le z5 hb.size
            replace z9 := Nat.lt_of_lt_of_le z9 hb.size
            replace z12 := Nat.lt_of_lt_of_le z12 hb.size
            replace hB := hB.trans (hb.mono hB.size)
            clear hb hz
            have m18 : b9 < b18 := by have := M9.out; omega
            clear M9 s_b18
            go_wp2_with (first | (refine wpList_loadN rfl _ (.tmp 18) rfl (b := b18) (q := 0) rfl (run_loadSw a_b18) ?_) | (refine wpList_loadN rfl _ (.tmp 13) rfl (b := b13) (q := 0) rfl (run_loadSw a_b13) ?_))
            refine (same_ver tn sN _ _ _ (HNM.out.1.trans KhnN.out.symm) hvr).mono ?_
            rintro e wT ⟨rfl, hb⟩
            replace f5 := (hb.frozen (p := ⟨b5, 0, none⟩) z5).trans f5
            replace z5 := Nat.lt_of_lt_of_le z5 hb.size
            replace z9 := Nat.lt_of_lt_of_le z9 hb.size
            replace z12 := Nat.lt_of_lt_of_le z12 hb.size
            replace c5 := later hb c5
            replace hs2 := hs2.later hb
            replace a_b9 := a_b9.later hb
            replace a_b13 := a_b13.later hb
            replace i9 := i9.later hb
            replace iN := iN.later hb
            replace iQ := iQ.later hb
            replace a_b18 := a_b18.later hb
            replace hB := hB.trans (hb.mono hB.size)
            clear hb
            go_wp2_with (first | (refine wpList_loadN_w rfl _ (.tmp 18) rfl (b := b18) (q := 0) rfl (run_loadSw a_b18) ?_) | (refine wpList_loadN_w rfl _ (.tmp 9) rfl (b := b9) (q := 0) rfl (run_loadSw a_b9) ?_))
            refine (same_soft tn _ _ _ iQ i9 HNM.out.2).mono ?_
            rintro e wU ⟨rfl, hb⟩
            replace f5 := (hb.frozen (p := ⟨b5, 0, none⟩) z5).trans f5
            replace z5 := Nat.lt_of_lt_of_le z5 hb.size
            replace z9 := Nat.lt_of_lt_of_le z9 hb.size
            replace z12 := Nat.lt_of_lt_of_le z12 hb.size
            replace c5 := later hb c5
            replace hs2 := hs2.later hb
            replace a_b9 := a_b9.later hb
            replace a_b13 := a_b13.later hb
            replace i9 := i9.later hb
            replace iN := iN.later hb
            replace iQ := iQ.later hb
            replace a_b18 := a_b18.later hb
            replace hB := hB.trans (hb.mono hB.size)
            clear hb
            clear i9 iN a_b13
            go_wp2_with (first | (refine wpList_loadN rfl _ (.tmp 18) rfl (b := b18) (q := 0) rfl (run_loadSw a_b18) ?_) | (refine wpList_storeB rfl rfl _ (.tmp 9) _ rfl (b := b9) (q := 0) rfl (n := 23) (v := softV tn saQ) rfl a_b9 (fun j _ => soft_one _ _ _) soft_size ?_; intro Y9 t9; refine Hid.out ?_))
            unfold Hid
            have tn9 := t9.turns (fun b => b = b9) _ (fun _ => rfl) (Turns.refl _ _)
            replace hB := t9.below _ _ (by omega) hB
            replace c5 := tn9.cell (p := ⟨b5, 0, none⟩) (show ¬ b5 = b9 by omega) c5
            replace f5 := (t9.frozen ⟨b5, 0, none⟩).trans f5
            replace hs2 := hs2.turn tn9 (fun b e => by omega)
            replace iQ := iQ.turn tn9 (fun p e k => by have := nQ.1 p e; omega) (fun p e k => by have := nQ.2 p e; omega)
            replace a_b9 := t9.blk
            clear t9 tn9 a_b18
            go_wp2_with fail
            have hI : PwI w.heap.size b5 b9 rt w true (i + 1) Y9 := ⟨x2, c2, rs2, _, tn, saQ, ⟨c5, f5⟩, hs2.weaken (Nat.zero_le _), a_b9, iQ, nQ, hB, .inr ⟨rfl, HNM.out, _, _, HO.out, (by omega)⟩⟩
            exact ⟨⟨i + 1, true, by omega, by go_num, rfl, hI⟩, by simp [intOf]; omega⟩
          · have HO := Lib.hid hO
            clear hO HCO
            have Z12M := Lib.hid z12
            refine (cut34 _ (nn + 1) ov sv _ hs HST.out.st o1 HL1.out (by omega) HVO.out).mono ?_
            rintro e wR ⟨x2, c2, rs2, rfl, hs2, hb⟩
            replace f5 := (hb.frozen (p := ⟨b5, 0, none⟩) z5).trans f5
            replace z5 := Nat.lt_of_lt_of_le z5 hb.size
            replace z9 := Nat.lt_of_lt_of_le z9 hb.size
            replace z12 := Nat.lt_of_lt_of_le z12 hb.size
            replace c5 := later hb c5
            replace hs := hs.later hb
            replace a_b9 := a_b9.later hb
            replace i9 := i9.later hb
            replace p0 := later hb p0
            replace p1 := later hb p1
            replace p2 := later hb p2
            replace p3 := later hb p3
            replace iN := iN.later hb
            replace a_b13 := a_b13.later hb
            replace v9 := later hb v9
            replace v13 := later hb v13
            replace o1 := o1.later hb
            replace hB := hB.trans (hb.mono hB.size)
            clear hb
            replace hs2 := hs2.weaken (B' := b12 + 1) (by have := Z12M.out; omega)
            clear Z12M
            clear hs o1 HL1 HVO
            go_wp2_with (refine wpList_stopL 33 (.tmp 5) rfl ?_)
            refine ⟨?_⟩
            have tn5 : Turns (fun b => b = b5) wR (wR.setCell ⟨b5, 0, none⟩ (.slice x2 34 c2)) := (Turns.refl (fun b => b = b5) wR).setCell (p := ⟨b5, 0, none⟩) (fun _ => rfl) _
            replace c5 : (wR.setCell ⟨b5, 0, none⟩ (.slice x2 34 c2)).cell? ⟨b5, 0, none⟩ = some (.slice x2 34 c2) := World.cell?_setCell_same' _ _ _ (by rw [c5]; rfl)
            replace f5 : (wR.setCell ⟨b5, 0, none⟩ (.slice x2 34 c2)).frozen? ⟨b5, 0, none⟩ = false := (World.frozen?_setCell _ _ _ _).trans f5
            replace hs2 := hs2.turn tn5 (fun b e => by omega)
            replace hB := hB.setCell (p := ⟨b5, 0, none⟩) w5 (.slice x2 34 c2)
            replace z5 := Nat.lt_of_lt_of_le z5 tn5.size
            replace z9 := Nat.lt_of_lt_of_le z9 tn5.size
            replace z12 := Nat.lt_of_lt_of_le z12 tn5.size
            replace a_b9 := a_b9.turn tn5 (by omega)
            replace a_b13 := a_b13.turn tn5 (by omega)
            replace i9 := i9.turn tn5 (fun p e k => by have := n9.1 p e; omega) (fun p e k => by have := n9.2 p e; omega)
            replace iN : SwIn (wR.setCell ⟨b5, 0, none⟩ (.slice x2 34 c2)) sN ⟨tx, tc, xpN, cpN⟩ := ⟨by rw [KhiN.out]; exact TB.out.later hB, iN.2.1, iN.2.2.turn tn5 (fun p e k => by have := NN.out p e; omega)⟩
            obtain ⟨V5, hV⟩ : ∃ V, (wR.setCell ⟨b5, 0, none⟩ (.slice x2 34 c2)) = V := ⟨_, rfl⟩
            rw [hV] at c5 f5 hs2 hB z5 z9 z12 a_b9 a_b13 i9 iN ⊢
            clear hV tn5 p0 p1 p2 p3
            go_wp2_with fail
            have Z9M := Lib.hid z9
            refine (rn_r _ _ hs2 HO.out).mono ?_
            rintro e wQ ⟨saQ, rfl, iQ, nQ, hb⟩
            replace f5 := (hb.frozen (p := ⟨b5, 0, none⟩) z5).trans f5
            replace z5 := Nat.lt_of_lt_of_le z5 hb.size
            replace z9 := Nat.lt_of_lt_of_le z9 hb.size
            replace z12 := Nat.lt_of_lt_of_le z12 hb.size
            replace c5 := later hb c5
            replace hs2 := hs2.later hb
            replace a_b9 := a_b9.later hb
            replace a_b13 := a_b13.later hb
            replace i9 := i9.later hb
            replace iN := iN.later hb
            replace hB := hB.trans (hb.mono hB.size)
            clear hb
            replace nQ : SwNew (b9 + 1) saQ := ⟨fun p e => by have := nQ.1 p e; have := Z9M.out; omega, fun p e => by have := nQ.2 p e; have := Z9M.out; omega⟩
            have M9 := Lib.hid z9
            go_wp2_with (refine wpList_allocTo 18 rfl rfl _ rfl soft_zero ?_; intro Xq0 a_b18 hb0 hz0; refine Hid.out ?_)
            unfold Hid
            try simp only [Act.put, List.setIfInBounds_toArray, List.set_cons_zero, List.set_cons_succ]
            obtain ⟨b18, e_b18⟩ : ∃ a, wQ.heap.size = a := ⟨_, rfl⟩
            have s_b18 : wQ.heap.size ≤ b18 := by omega
            have hb := hb0
            rw [e_b18] at a_b18 hz0 ⊢
            clear hb0
            have hz : b18 < Xq0.heap.size := by omega
            clear e_b18 hz0
            go_wp2_with (refine wpList_storeB rfl rfl _ (.tmp 18) _ rfl (b := b18) (q := 0) rfl (n := 23) (v := softV sN saQ) rfl a_b18 (fun j _ => soft_one _ _ _) soft_size ?_; intro Yq0 t1; refine Hid.out ?_)
            unfold Hid
            replace hb := t1.below _ _ (by omega) hb
            replace a_b18 := t1.blk
            rw [← t1.size] at hz
            clear t1
            replace c5 := later hb c5
            replace hs2 := hs2.later hb
            replace a_b9 := a_b9.later hb
            replace a_b13 := a_b13.later hb
            replace i9 := i9.later hb
            replace iN := iN.later hb
            replace iQ := iQ.later hb
            replace f5 := (hb.frozen (p := ⟨b5, 0, none⟩) z5).trans f5
            replace z5 := Nat.lt_of_lt_of_le z5 hb.size
            replace z9 := Nat.lt_of_lt_of_le z9 hb.size
            replace z12 := Nat.lt_of_lt_of_le z12 hb.size
            replace hB := hB.trans (hb.mono hB.size)
            clear hb hz
            have m18 : b9 < b18 := by have := M9.out; omega
            clear M9 s_b18
            go_wp2_with (first | (refine wpList_loadN rfl _ (.tmp 18) rfl (b := b18) (q := 0) rfl (run_loadSw a_b18) ?_) | (refine wpList_loadN rfl _ (.tmp 13) rfl (b := b13) (q := 0) rfl (run_loadSw a_b13) ?_))
            refine (same_soft sN _ _ _ iQ iN KhpN.out).mono ?_
            rintro e wT ⟨rfl, hb⟩
            replace f5 := (hb.frozen (p := ⟨b5, 0, none⟩) z5).trans f5
            replace z5 := Nat.lt_of_lt_of_le z5 hb.size
            replace z9 := Nat.lt_of_lt_of_le z9 hb.size
            replace z12 := Nat.lt_of_lt_of_le z12 hb.size
            replace c5 := later hb c5
            replace hs2 := hs2.later hb
            replace a_b9 := a_b9.later hb
            replace a_b13 := a_b13.later hb
            replace i9 := i9.later hb
            replace iN := iN.later hb
            replace iQ := iQ.later hb
            replace a_b18 := a_b18.later hb
            replace hB := hB.trans (hb.mono hB.size)
            clear hb
            clear i9 iN a_b13
            go_wp2_with (first | (refine wpList_loadN rfl _ (.tmp 18) rfl (b := b18) (q := 0) rfl (run_loadSw a_b18) ?_) | (refine wpList_storeB rfl rfl _ (.tmp 9) _ rfl (b := b9) (q := 0) rfl (n := 23) (v := softV sN saQ) rfl a_b9 (fun j _ => soft_one _ _ _) soft_size ?_; intro Y9 t9; refine Hid.out ?_))
            unfold Hid
            have tn9 := t9.turns (fun b => b = b9) _ (fun _ => rfl) (Turns.refl _ _)
            replace hB := t9.below _ _ (by omega) hB
            replace c5 := tn9.cell (p := ⟨b5, 0, none⟩) (show ¬ b5 = b9 by omega) c5
            replace f5 := (t9.frozen ⟨b5, 0, none⟩).trans f5
            replace hs2 := hs2.turn tn9 (fun b e => by omega)
            replace iQ := iQ.turn tn9 (fun p e k => by have := nQ.1 p e; omega) (fun p e k => by have := nQ.2 p e; omega)
            replace a_b9 := t9.blk
            clear t9 tn9 a_b18
            go_wp2_with fail
            have hI : PwI w.heap.size b5 b9 rt w true (i + 1) Y9 := ⟨x2, c2, rs2, _, sN, saQ, ⟨c5, f5⟩, hs2.weaken (Nat.zero_le _), a_b9, iQ, nQ, hB, .inr ⟨rfl, ⟨KhnN.out, KhpN.out⟩, _, _, HO.out, hrn⟩⟩
            exact ⟨⟨i + 1, true, by omega, by go_num, rfl, hI⟩, by simp [intOf]; omega⟩
    · obtain rfl : i = m := by omega
      have hki : decide ((i : Int) < (i : Int)) = false := by simp
      obtain ⟨x, c, rs, ls, tn, sa, _, _, _, _, _, hB, _⟩ := hI
      clear HC HT
      go_wp2_with fail
      refine (awake_any _).mono ?_
      rintro e wX ⟨rfl, hb⟩
      have hBX := hB.trans (hb.mono hB.size)
      clear hb
      go_wp2_with fail
      go_ret
      exact ⟨rfl, hBX⟩

end Go.Proofs.Ytapefonhgkjgnaa
