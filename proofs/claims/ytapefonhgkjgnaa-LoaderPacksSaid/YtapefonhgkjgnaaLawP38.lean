/- THE LAW LoaderPacks. -/
import Derived.Test.YtapefonhgkjgnaaLdFw
import Derived.Test.YtapefonhgkjgnaaLdZp
import Derived.Test.YtapefonhgkjgnaaLdY
set_option maxRecDepth 20000
namespace Go.Proofs.Ytapefonhgkjgnaa
open Go.RowKit

theorem wpList_stopD {P : Program} {ops : Array Oper} {rest : List Oper} {o : Oper} {a : Act} {w : World} {Q : Exit → Act → World → Prop} (d : Nat) (_ho : o.dst = some d) (h : Stop (wpList P ops Q (o :: rest) a w)) : wpList P ops Q (o :: rest) a w := h.out
theorem wrJ {lf kk j : Nat} (h : lf = j + kk) (h2 : lf ≤ 625) : wrap64 ((lf : Int) - (kk : Int)) = (j : Int) := by rw [wrap64_id (by omega)]; omega
theorem tm20 {s v : Nat} (h : s % 20 = v) : Int.tmod (s : Int) 20 = (v : Int) := by rw [Int.tmod_eq_emod_of_nonneg (by omega)]; omega
theorem wrK {m kk : Nat} (h : m + 1 = kk) (h2 : m < 20) : wrap64 (1 + (m : Int)) = (kk : Int) := by rw [wrap64_id (by omega)]; omega
theorem wrI8 {v : Nat} (h : v < 20) : IntKind.i64.wrap (v : Int) = (v : Int) := by simp [IntKind.wrap, IntKind.bits, IntKind.signed]; omega
theorem wrU8 {v : Nat} (h : v < 20) : IntKind.u8.wrap (v : Int) = (v : Int) := by simp [IntKind.wrap, IntKind.bits, IntKind.signed]; omega
theorem few0_any (s : Ld.Sw) (a : SwA) (w : World) : Calls Try.prog 8 #[.agg #[.slice none 0 0], aggN 23 (softV s a)] w fun e w' => e = .returned (.bool (fewS s)) ∧ Below w.heap.size w w' := by
  have := few_any none [] 0 s a w ⟨.inl rfl, fun r hr => by cases hr⟩ (by simp)
  rw [fewB_nil] at this
  exact this
theorem unpack_yes (s : Ld.Sw) (x : Option Addr) (d : List UInt8) (c : Nat) (w : World) (hx : Bts w x d) (hn : x = none → c = 0) (hc : d.length ≤ c ∧ c ≤ 9223372036854775807) (hxb : ∀ a, x = some a → a.block < w.heap.size) (h : Ld.unp d = some s) :
    Calls Try.prog 10 #[.slice x d.length c] w fun e w' => ∃ a, e = .returned (.tuple #[aggN 23 (softV s a), .int .i64 0]) ∧ SwIn w' s a ∧ Below w.heap.size w w' := by
  obtain ⟨h1, h2⟩ := Ld.unp_some h
  refine (unpack_any x d c w hx hn hc hxb).mono ?_
  rintro e w' ⟨a, rfl, i, _, hb⟩
  have e1 : unS d = s := by unfold unS; rw [if_pos h1, h2]
  have e2 : unC d = 0 := if_pos h1
  rw [e1] at i ⊢
  rw [e2]
  exact ⟨a, rfl, i, hb⟩
theorem unpack_no (x : Option Addr) (d : List UInt8) (c : Nat) (w : World) (hx : Bts w x d) (hn : x = none → c = 0) (hc : d.length ≤ c ∧ c ≤ 9223372036854775807) (hxb : ∀ a, x = some a → a.block < w.heap.size) (h : Ld.unp d = none) :
    Calls Try.prog 10 #[.slice x d.length c] w fun e w' => ∃ a, e = .returned (.tuple #[aggN 23 (softV zSw a), .int .i64 380]) ∧ SwIn w' zSw a ∧ Below w.heap.size w w' := by
  have h1 : ¬ Ld.okU d = true := fun e => by unfold Ld.unp at h; rw [if_pos e] at h; cases h
  refine (unpack_any x d c w hx hn hc hxb).mono ?_
  rintro e w' ⟨a, rfl, i, _, hb⟩
  have e1 : unS d = zSw := if_neg h1
  have e2 : unC d = 380 := if_neg h1
  rw [e1] at i ⊢
  rw [e2]
  exact ⟨a, rfl, i, hb⟩
theorem pack_yes (s : Ld.Sw) (a : SwA) (w : World) (hi : SwIn w s a) (hv : s.vld = true) : Calls Try.prog 11 #[aggN 23 (softV s a)] w fun e w' => ∃ y cy, e = .returned (.tuple #[.slice y (Ld.form s).length cy, .int .i64 0]) ∧ OwnsB w.heap.size w' y cy (Ld.form s) ∧ Below w.heap.size w w' := by
  refine (pack_any s a w hi).mono ?_
  rintro e w' ⟨y, cy, rfl, ho, hb⟩
  have e1 : pkV s = Ld.form s := if_pos hv
  have e2 : dgC s = 0 := if_pos hv
  rw [e1] at ho ⊢
  rw [e2]
  exact ⟨y, cy, rfl, ho, hb⟩
theorem pack_no (s : Ld.Sw) (a : SwA) (w : World) (hi : SwIn w s a) (hv : s.vld = false) : Calls Try.prog 11 #[aggN 23 (softV s a)] w fun e w' => ∃ y cy, e = .returned (.tuple #[.slice y 0 cy, .int .i64 2]) ∧ Below w.heap.size w w' := by
  refine (pack_any s a w hi).mono ?_
  rintro e w' ⟨y, cy, rfl, ho, hb⟩
  have hv' : ¬ s.vld = true := by rw [hv]; decide
  have e1 : pkV s = [] := if_neg hv'
  have e2 : dgC s = 2 := if_neg hv'
  rw [e1, e2]
  exact ⟨y, cy, rfl, hb⟩

set_option maxHeartbeats 4000000 in
theorem packs_law (s : Ld.Sw) (a : SwA) (xd : Option Addr) (d : List UInt8) (cd : Nat) (nn : UInt8) (w : World) (hi : SwIn w s a) (hN : s.N) (hd : Bts w xd d) (hnd : xd = none → cd = 0) (hcd : d.length ≤ cd ∧ cd ≤ 9223372036854775807) (hxd : ∀ p, xd = some p → p.block < w.heap.size) :
    Calls Try.prog 3 #[aggN 23 (softV s a), .slice xd d.length cd, .int .u8 (nn.toNat : Int)] w (YesOf w) := by
  have HFORM := Lib.hid (Ld.form_max s)
  have HFU := Lib.hid (Ld.form_unp s hN)
  have HCUT := Lib.hid (Ld.unp_cut s)
  have HMORE := Lib.hid (Ld.unp_more s)
  have HFEW := Lib.hid (fewS_iff s).1
  have HU1 : ∀ (t : Ld.Sw), Ld.unp d = some t → ∀ W, Bts W xd d → w.heap.size ≤ W.heap.size → Calls Try.prog 10 #[.slice xd d.length cd] W fun e w' => ∃ a, e = .returned (.tuple #[aggN 23 (softV t a), .int .i64 0]) ∧ SwIn w' t a ∧ Below W.heap.size W w' := fun t ht W h1 h2 => unpack_yes t xd d cd W h1 hnd hcd (fun p e => Nat.lt_of_lt_of_le (hxd p e) h2) ht
  have HU0 : Ld.unp d = none → ∀ W, Bts W xd d → w.heap.size ≤ W.heap.size → Calls Try.prog 10 #[.slice xd d.length cd] W fun e w' => ∃ a, e = .returned (.tuple #[aggN 23 (softV zSw a), .int .i64 380]) ∧ SwIn w' zSw a ∧ Below W.heap.size W w' := fun ht W h1 h2 => unpack_no xd d cd W h1 hnd hcd (fun p e => Nat.lt_of_lt_of_le (hxd p e) h2) ht
  have HPK : ∀ (t : Ld.Sw) (a : SwA), Ld.unp d = some t → ∀ W, SwIn W t a → Calls Try.prog 11 #[aggN 23 (softV t a)] W fun e w' => ∃ y cy, e = .returned (.tuple #[.slice y d.length cy, .int .i64 0]) ∧ Bts w' y d ∧ Below W.heap.size W w' := fun t a ht W h1 => by
    obtain ⟨e1, e2⟩ := Ld.unp_form ht
    refine (pack_yes t a W h1 e2).mono ?_
    rintro e w' ⟨y, cy, rfl, ho, hb⟩
    rw [e1] at ho ⊢
    exact ⟨y, cy, rfl, ho.bts, hb⟩
  have HCV : Hid (∀ W y cy, Bts W y d → (convert 22 9 (.slice y d.length cy)).run Try.prog W = .ok (.string ⟨d.toArray⟩) W) := fun W y cy h => run_conv (P := Try.prog) Try.underlying22 Try.underlying5 str_under h cy
  obtain ⟨qd, hqd⟩ : ∃ q : ByteArray, (⟨d.toArray⟩ : ByteArray) = q := ⟨_, rfl⟩
  have hqq : (qd == qd) = true := by rw [← hqd, str_eq]; exact beq_self_eq_true _
  rw [hqd] at HCV
  obtain ⟨ld, hld⟩ : ∃ n, d.length = n := ⟨_, rfl⟩
  rw [hld] at HU1 HU0 HPK HCV ⊢
  have d0 := hd
  have i0 := hi
  have HU1H := Lib.hid HU1
  have HU0H := Lib.hid HU0
  have HPKH := Lib.hid HPK
  have HQQ := Lib.hid hqq
  clear hld hqd hd hi hnd hcd hxd hN HU1 HU0 HPK hqq
  go_enter Try.func3, Try.ntmps3
  go_wp2_with (refine wpList_boxN rfl _ _ rfl rfl ?_; intro W a_b3 hB hz; refine Hid.out ?_)
  unfold Hid
  obtain ⟨b3, e3⟩ : ∃ b, w.heap.size = b := ⟨_, rfl⟩
  replace d0 := d0.later hB
  replace i0 := i0.later hB
  have HE3 := Lib.hid e3
  rw [e3] at a_b3 ⊢
  clear hz e3
  go_wp2_with (refine wpList_loadN rfl _ (.tmp 3) rfl (b := b3) (q := 0) rfl (run_loadSw a_b3) ?_)
  refine (few0_any s a _).mono ?_
  rintro e w1 ⟨rfl, hb⟩
  replace i0 := i0.later hb
  replace a_b3 := a_b3.later hb
  replace d0 := d0.later hb
  replace hB := hB.trans (hb.mono hB.size)
  clear hb
  obtain ⟨fq, hfq⟩ : ∃ b, fewS s = b := ⟨_, rfl⟩
  rw [hfq]
  cases fq with
  | false =>
    clear i0 a_b3 d0 hfq
    go_wp2_with fail
    refine (awake_any _).mono ?_
    rintro e wX ⟨rfl, hb⟩
    have hBX := hB.trans (hb.mono hB.size)
    clear hb
    go_wp2_with fail
    go_ret
    exact ⟨rfl, hBX⟩
  | true =>
    have hfew := HFEW.out hfq
    have HP10 := Lib.hid hfew.2.2
    clear hfew hfq HFEW
    by_cases hl : 1000 < ld
    · have d1 : decide ((1000 : Int) < (ld : Int)) = true := by simp; omega
      have d2 : decide ((ld : Int) > 1000) = true := by simp; omega
      have d3 : decide (1000 < ld) = true := by simp; omega
      clear i0 a_b3 d0
      go_wp2_with fail
      refine (awake_any _).mono ?_
      rintro e wX ⟨rfl, hb⟩
      have hBX := hB.trans (hb.mono hB.size)
      clear hb
      go_wp2_with fail
      go_ret
      exact ⟨rfl, hBX⟩
    have d1 : decide ((1000 : Int) < (ld : Int)) = false := by simp; omega
    have d2 : decide ((ld : Int) > 1000) = false := by simp; omega
    have d3 : decide (1000 < ld) = false := by simp; omega
    go_wp2_with fail
    cases hu : Ld.unp d with
    | none =>
      refine (HU0H.out hu _ d0 (by have := hB.size; omega)).mono ?_
      rintro e w2 ⟨sa7, rfl, i7, hb⟩
      replace i0 := i0.later hb
      replace a_b3 := a_b3.later hb
      replace d0 := d0.later hb
      replace hB := hB.trans (hb.mono hB.size)
      clear hb
      go_wp2_with (refine wpList_allocTo 7 rfl rfl _ rfl soft_zero ?_; intro Xz0 a_b7 hb0 hz0; refine Hid.out ?_)
      unfold Hid
      try simp only [Act.put, List.setIfInBounds_toArray, List.set_cons_zero, List.set_cons_succ]
      obtain ⟨b7, e_b7⟩ : ∃ a, w2.heap.size = a := ⟨_, rfl⟩
      have s_b7 : w2.heap.size ≤ b7 := by omega
      have hb := hb0
      rw [e_b7] at a_b7 hz0 ⊢
      clear hb0
      have hz : b7 < Xz0.heap.size := by omega
      clear e_b7 hz0
      go_wp2_with (refine wpList_storeB rfl rfl _ (.tmp 7) _ rfl (b := b7) (q := 0) rfl (n := 23) (v := softV zSw sa7) rfl a_b7 (fun j _ => soft_one _ _ _) soft_size ?_; intro Yz0 t1; refine Hid.out ?_)
      unfold Hid
      replace hb := t1.below _ _ (by omega) hb
      replace a_b7 := t1.blk
      rw [← t1.size] at hz
      clear t1
      replace i0 := i0.later hb
      replace a_b3 := a_b3.later hb
      replace d0 := d0.later hb
      replace i7 := i7.later hb
      replace hB := hB.trans (hb.mono hB.size)
      clear hb hz
      clear a_b7 i7
      cases hv : s.vld with
      | false =>
        go_wp2_with (refine wpList_loadN rfl _ (.tmp 3) rfl (b := b3) (q := 0) rfl (run_loadSw a_b3) ?_)
        refine (pack_no s a _ i0 hv).mono ?_
        rintro e w11 ⟨y11, c11, rfl, hb⟩
        replace i0 := i0.later hb
        replace a_b3 := a_b3.later hb
        replace d0 := d0.later hb
        replace hB := hB.trans (hb.mono hB.size)
        clear hb
        go_wp2_with (refine wpList_loadN_w rfl _ (.tmp 3) rfl (b := b3) (q := 0) rfl (run_loadSw a_b3) ?_)
        refine (vsoft_any s a _ i0).mono ?_
        rintro e w12 ⟨rfl, hb⟩
        replace i0 := i0.later hb
        replace a_b3 := a_b3.later hb
        replace d0 := d0.later hb
        replace hB := hB.trans (hb.mono hB.size)
        clear hb
        rw [hv]
        clear i0 a_b3 d0
        go_wp2_with fail
        refine (awake_any _).mono ?_
        rintro e wX ⟨rfl, hb⟩
        have hBX := hB.trans (hb.mono hB.size)
        clear hb
        go_wp2_with fail
        go_ret
        exact ⟨rfl, hBX⟩
      | true =>
        go_wp2_with (refine wpList_loadN rfl _ (.tmp 3) rfl (b := b3) (q := 0) rfl (run_loadSw a_b3) ?_)
        refine (pack_yes s a _ i0 hv).mono ?_
        rintro e w11 ⟨y11, c11, rfl, o11, hb⟩
        replace i0 := i0.later hb
        replace a_b3 := a_b3.later hb
        replace d0 := d0.later hb
        replace hB := hB.trans (hb.mono hB.size)
        clear hb
        clear d0
        obtain ⟨f1, f2⟩ := HFORM.out hv
        have HF0 := Lib.hid (HFU.out hv)
        have HC0 := Lib.hid (HCUT.out hv)
        have HM0 := Lib.hid (HMORE.out hv)
        obtain ⟨fm, hfm⟩ : ∃ l, Ld.form s = l := ⟨_, rfl⟩
        rw [hfm] at f1 f2 o11 HF0 HC0 HM0 ⊢
        have hcap := o11.le_cap
        have hnc := o11.none_cap
        clear hfm HFORM HFU HCUT HMORE HU1H HU0H HPKH
        obtain ⟨lf, hlf⟩ : ∃ n, fm.length = n := ⟨_, rfl⟩
        have HLF := Lib.hid hlf
        have HCAP := Lib.hid hcap
        have HL7 := Lib.hid (show lf ≤ 625 by rw [← hlf]; exact f2)
        have L0 := Lib.hid (show [] ++ fm = fm from rfl)
        have hxb := fun (p : Addr) (e : y11 = some p) => (o11.low p.block (by subst e; rfl)).2
        have HXB := Lib.hid hxb
        have HNC := Lib.hid hnc
        have HU4 : ∀ W, Bts W y11 fm → w11.heap.size ≤ W.heap.size → Calls Try.prog 10 #[.slice y11 fm.length c11] W fun e w' => ∃ a, e = .returned (.tuple #[aggN 23 (softV s a), .int .i64 0]) ∧ SwIn w' s a ∧ Below W.heap.size W w' := fun W h1 h2 => unpack_yes s y11 fm c11 W h1 HNC.out HCAP.out (fun p e => Nat.lt_of_lt_of_le (HXB.out p e) h2) HF0.out
        rw [hlf] at HU4 f1 f2 hcap ⊢
        clear hlf hnc hxb
        go_wp2_with fail
        refine (HU4 _ o11.bts (Nat.le_refl _)).mono ?_
        rintro e w12 ⟨sa13, rfl, i13, hb⟩
        have HZ0 := Lib.hid hb.size
        replace i0 := i0.later hb
        replace a_b3 := a_b3.later hb
        replace o11 := o11.later hb
        replace hB := hB.trans (hb.mono hB.size)
        clear hb
        clear HU4
        have hz11 := HZ0.out
        go_wp2_with (refine wpList_allocTo 13 rfl rfl _ rfl soft_zero ?_; intro Xa0 a_b13 hb0 hz0; refine Hid.out ?_)
        unfold Hid
        try simp only [Act.put, List.setIfInBounds_toArray, List.set_cons_zero, List.set_cons_succ]
        obtain ⟨b13, e_b13⟩ : ∃ a, w12.heap.size = a := ⟨_, rfl⟩
        have s_b13 : w12.heap.size ≤ b13 := by omega
        have hb := hb0
        rw [e_b13] at a_b13 hz0 ⊢
        clear hb0
        have hz : b13 < Xa0.heap.size := by omega
        clear e_b13 hz0
        go_wp2_with (refine wpList_storeB rfl rfl _ (.tmp 13) _ rfl (b := b13) (q := 0) rfl (n := 23) (v := softV s sa13) rfl a_b13 (fun j _ => soft_one _ _ _) soft_size ?_; intro Ya0 t1; refine Hid.out ?_)
        unfold Hid
        replace hb := t1.below _ _ (by omega) hb
        replace a_b13 := t1.blk
        rw [← t1.size] at hz
        clear t1
        replace i0 := i0.later hb
        replace a_b3 := a_b3.later hb
        replace o11 := o11.later hb
        replace i13 := i13.later hb
        replace hz11 := Nat.le_trans hz11 hb.size
        replace hB := hB.trans (hb.mono hB.size)
        clear hb hz
        have HZ11 := Lib.hid hz11
        clear hz11
        obtain ⟨nv, hnv⟩ : ∃ n : Nat, nn.toNat = n := ⟨_, rfl⟩
        rw [hnv]
        clear hnv
        obtain ⟨m, hm⟩ : ∃ n, nv % 20 = n := ⟨_, rfl⟩
        obtain ⟨kk, hkk⟩ : ∃ n, m + 1 = n := ⟨_, rfl⟩
        obtain ⟨j, hj⟩ : ∃ n, lf - kk = n := ⟨_, rfl⟩
        have hk20 : 1 ≤ kk ∧ kk ≤ 20 ∧ m < 20 := by omega
        have HJ := Lib.hid (show lf = j + kk ∧ 1 ≤ kk ∧ kk ≤ 20 by omega)
        have hlk : decide ((lf : Int) < (kk : Int)) = false := by simp; omega
        have hlk2 : decide (lf < kk) = false := by simp; omega
        have HSUB := Lib.hid (wrJ (lf := lf) (kk := kk) (j := j) (by omega) (by omega))
        have k0 : (0 : Int) ≤ (j : Int) := by omega
        have k1 : (j : Int) ≤ (c11 : Int) := by have := HCAP.out; have := HLF.out; omega
        have htm : Int.tmod (nv : Int) 20 = (m : Int) := tm20 hm
        have hw1 : wrap64 (1 + (m : Int)) = (kk : Int) := wrK hkk hk20.2.2
        have hwm : IntKind.i64.wrap (m : Int) = (m : Int) := wrI8 hk20.2.2
        have hwm8 : IntKind.u8.wrap (m : Int) = (m : Int) := wrU8 hk20.2.2
        clear hm hj hkk hk20 f1 f2 hcap
        have HWK := Lib.hid hw1
        have hsub := HSUB.out
        go_wp2_with fail
        clear htm hw1 hwm hwm8 hlk hlk2
        have HUC : ∀ W, Bts W y11 fm → w11.heap.size ≤ W.heap.size → Calls Try.prog 10 #[.slice y11 j c11] W fun e w' => ∃ a, e = .returned (.tuple #[aggN 23 (softV zSw a), .int .i64 380]) ∧ SwIn w' zSw a ∧ Below W.heap.size W w' := fun W h1 h2 => by
          obtain ⟨j1, j2, j3⟩ := HJ.out
          have hl := HLF.out
          have hz := HC0.out kk j2 j3
          rw [hl, show lf - kk = j by omega] at hz
          have hlen : (fm.take j).length = j := by rw [List.length_take]; omega
          have := unpack_no y11 (fm.take j) c11 W (h1.take j) HNC.out ⟨by rw [hlen]; have := HCAP.out; omega, HCAP.out.2⟩ (fun p e => Nat.lt_of_lt_of_le (HXB.out p e) h2) hz
          rw [hlen] at this
          exact this
        have HWW := Lib.hid hsub
        clear hsub k0 k1 HWW
        have z11 := HZ11.out
        refine (HUC _ o11.bts z11).mono ?_
        rintro e w14 ⟨sa16, rfl, i16, hb⟩
        replace i0 := i0.later hb
        replace a_b3 := a_b3.later hb
        replace o11 := o11.later hb
        replace i13 := i13.later hb
        replace a_b13 := a_b13.later hb
        replace hB := hB.trans (hb.mono hB.size)
        clear hb
        clear HUC i16 z11
        go_wp2_with (refine wpList_allocTo 16 rfl rfl _ rfl soft_zero ?_; intro Xb0 a_b16 hb0 hz0; refine Hid.out ?_)
        unfold Hid
        try simp only [Act.put, List.setIfInBounds_toArray, List.set_cons_zero, List.set_cons_succ]
        obtain ⟨b16, e_b16⟩ : ∃ a, w14.heap.size = a := ⟨_, rfl⟩
        have s_b16 : w14.heap.size ≤ b16 := by omega
        have hb := hb0
        rw [e_b16] at a_b16 hz0 ⊢
        clear hb0
        have hz : b16 < Xb0.heap.size := by omega
        clear e_b16 hz0
        go_wp2_with (refine wpList_storeB rfl rfl _ (.tmp 16) _ rfl (b := b16) (q := 0) rfl (n := 23) (v := softV zSw sa16) rfl a_b16 (fun j _ => soft_one _ _ _) soft_size ?_; intro Yb0 t1; refine Hid.out ?_)
        unfold Hid
        replace hb := t1.below _ _ (by omega) hb
        replace a_b16 := t1.blk
        rw [← t1.size] at hz
        clear t1
        replace i0 := i0.later hb
        replace a_b3 := a_b3.later hb
        replace o11 := o11.later hb
        replace i13 := i13.later hb
        replace a_b13 := a_b13.later hb
        replace hB := hB.trans (hb.mono hB.size)
        clear hb hz
        clear a_b16
        go_wp2_with (at_builtin; (refine wpList_app rfl _ _ rfl (l := []) (B := Yb0.heap.size) (OwnsB.made' _ (Yb0.heap.size) _ (Nat.le_refl _) rfl) rfl (m := fm) (show Value.slice y11 lf c11 = Value.slice y11 fm.length c11 by rw [HLF.out]) (o11.bts.later (al (Below.refl _ _) _)) HNC.out (by have := HLF.out; have := HL7.out; simp; omega) L0.out (by simp) ?_); intro x3 k3 w15 o15 hb15 _; refine Hid.out ?_)
        unfold Hid
        have hbA := (al (Below.refl _ Yb0) (.cells #[] 5)).trans hb15
        have HBA := Lib.hid hbA
        have HB15 := Lib.hid hbA.size
        clear hb15 hbA
        rw [HLF.out]
        obtain ⟨g3, rfl⟩ := o15.some_of (by have := HLF.out; have := HJ.out; omega)
        have O15 := Lib.hid o15
        clear o15
        have hb15x := HB15.out
        have hbx : fm.length + kk ≤ 100000 := by have := HLF.out; have := HL7.out; have := HJ.out; omega
        go_wp2_with (at_builtin; refine Hid.out ?_)
        unfold Hid
        refine wpList_app_zerosP (g := g3) (cap := k3) rfl (.tmp 94) (.tmp 95) rfl (l := fm) O15.out (by first | rfl | (rw [HLF.out]; rfl)) kk HJ.out.2.1 (by first | rfl | exact congrArg (Value.int .i64) HWK.out) hbx hb15x ?_
        intro x5 k5 w16 d16 hb16 n16
        try simp only [Act.put, List.setIfInBounds_toArray, List.set_cons_zero, List.set_cons_succ]
        rw [HLF.out]
        clear hbx
        have HUM : Calls Try.prog 10 #[.slice x5 (lf + kk) k5] w16 fun e w' => ∃ a, e = .returned (.tuple #[aggN 23 (softV zSw a), .int .i64 380]) ∧ SwIn w' zSw a ∧ Below w16.heap.size w16 w' := by
          have hz := HM0.out (List.replicate kk 0) (by have := HJ.out; simp; omega)
          have hlen : (fm ++ List.replicate kk 0).length = lf + kk := by rw [List.length_append, List.length_replicate, HLF.out]
          have := unpack_no x5 (fm ++ List.replicate kk 0) k5 w16 d16 n16.1 ⟨by rw [hlen, ← HLF.out]; exact n16.2.1.1, n16.2.1.2⟩ n16.2.2 hz
          rw [hlen] at this
          exact this
        have HUMH := Lib.hid HUM
        clear HUM n16 d16 O15 o11
        have hb := HBA.out.trans hb16
        clear hb16 hb15x
        replace i0 := i0.later hb
        replace a_b3 := a_b3.later hb
        replace i13 := i13.later hb
        replace a_b13 := a_b13.later hb
        replace hB := hB.trans (hb.mono hB.size)
        clear hb
        go_wp2_with fail
        refine (HUMH.out).mono ?_
        rintro e w17 ⟨sa18, rfl, i18, hb⟩
        replace i0 := i0.later hb
        replace a_b3 := a_b3.later hb
        replace i13 := i13.later hb
        replace a_b13 := a_b13.later hb
        replace hB := hB.trans (hb.mono hB.size)
        clear hb
        clear HUMH i18
        go_wp2_with (refine wpList_allocTo 18 rfl rfl _ rfl soft_zero ?_; intro Xd0 a_b18 hb0 hz0; refine Hid.out ?_)
        unfold Hid
        try simp only [Act.put, List.setIfInBounds_toArray, List.set_cons_zero, List.set_cons_succ]
        obtain ⟨b18, e_b18⟩ : ∃ a, w17.heap.size = a := ⟨_, rfl⟩
        have s_b18 : w17.heap.size ≤ b18 := by omega
        have hb := hb0
        rw [e_b18] at a_b18 hz0 ⊢
        clear hb0
        have hz : b18 < Xd0.heap.size := by omega
        clear e_b18 hz0
        go_wp2_with (refine wpList_storeB rfl rfl _ (.tmp 18) _ rfl (b := b18) (q := 0) rfl (n := 23) (v := softV zSw sa18) rfl a_b18 (fun j _ => soft_one _ _ _) soft_size ?_; intro Yd0 t1; refine Hid.out ?_)
        unfold Hid
        replace hb := t1.below _ _ (by omega) hb
        replace a_b18 := t1.blk
        rw [← t1.size] at hz
        clear t1
        replace i0 := i0.later hb
        replace a_b3 := a_b3.later hb
        replace i13 := i13.later hb
        replace a_b13 := a_b13.later hb
        replace hB := hB.trans (hb.mono hB.size)
        clear hb hz
        clear a_b18
        have g1 : decide ((lf : Int) ≤ 768) = true := by have := HL7.out; simp; omega
        have g2 : decide (lf ≤ 768) = true := by have := HL7.out; simp; omega
        go_wp2_with (first | (refine wpList_loadN_w rfl _ (.tmp 13) rfl (b := b13) (q := 0) rfl (run_loadSw a_b13) ?_) | (refine wpList_loadN_w rfl _ (.tmp 3) rfl (b := b3) (q := 0) rfl (run_loadSw a_b3) ?_))
        refine (same_soft s _ _ _ i13 i0 (by have := HP10.out; omega)).mono ?_
        rintro e w18 ⟨rfl, hb⟩
        replace i0 := i0.later hb
        replace a_b3 := a_b3.later hb
        replace i13 := i13.later hb
        replace a_b13 := a_b13.later hb
        replace hB := hB.trans (hb.mono hB.size)
        clear hb
        clear i13 i0 a_b13 a_b3
        go_wp2_with fail
        refine (awake_any _).mono ?_
        rintro e wX ⟨rfl, hb⟩
        have hBX := hB.trans (hb.mono hB.size)
        clear hb
        go_wp2_with fail
        go_ret
        exact ⟨rfl, hBX⟩
    | some t =>
      refine (HU1H.out t hu _ d0 (by have := hB.size; omega)).mono ?_
      rintro e w2 ⟨sa7, rfl, i7, hb⟩
      replace i0 := i0.later hb
      replace a_b3 := a_b3.later hb
      replace d0 := d0.later hb
      replace hB := hB.trans (hb.mono hB.size)
      clear hb
      go_wp2_with (refine wpList_allocTo 7 rfl rfl _ rfl soft_zero ?_; intro Xz0 a_b7 hb0 hz0; refine Hid.out ?_)
      unfold Hid
      try simp only [Act.put, List.setIfInBounds_toArray, List.set_cons_zero, List.set_cons_succ]
      obtain ⟨b7, e_b7⟩ : ∃ a, w2.heap.size = a := ⟨_, rfl⟩
      have s_b7 : w2.heap.size ≤ b7 := by omega
      have hb := hb0
      rw [e_b7] at a_b7 hz0 ⊢
      clear hb0
      have hz : b7 < Xz0.heap.size := by omega
      clear e_b7 hz0
      go_wp2_with (refine wpList_storeB rfl rfl _ (.tmp 7) _ rfl (b := b7) (q := 0) rfl (n := 23) (v := softV t sa7) rfl a_b7 (fun j _ => soft_one _ _ _) soft_size ?_; intro Yz0 t1; refine Hid.out ?_)
      unfold Hid
      replace hb := t1.below _ _ (by omega) hb
      replace a_b7 := t1.blk
      rw [← t1.size] at hz
      clear t1
      replace i0 := i0.later hb
      replace a_b3 := a_b3.later hb
      replace d0 := d0.later hb
      replace i7 := i7.later hb
      replace hB := hB.trans (hb.mono hB.size)
      clear hb hz
      go_wp2_with (refine wpList_loadN rfl _ (.tmp 7) rfl (b := b7) (q := 0) rfl (run_loadSw a_b7) ?_)
      refine (HPKH.out t sa7 hu _ i7).mono ?_
      rintro e w3 ⟨y9, c9, rfl, d9, hb⟩
      replace i0 := i0.later hb
      replace a_b3 := a_b3.later hb
      replace d0 := d0.later hb
      replace i7 := i7.later hb
      replace a_b7 := a_b7.later hb
      replace hB := hB.trans (hb.mono hB.size)
      clear hb
      clear i7 a_b7
      have v9 := HCV.out _ y9 c9 d9
      have v0 := HCV.out _ xd cd d0
      have hqq := HQQ.out
      clear hu
      cases hv : s.vld with
      | false =>
        go_wp2_with (refine wpList_loadN rfl _ (.tmp 3) rfl (b := b3) (q := 0) rfl (run_loadSw a_b3) ?_)
        refine (pack_no s a _ i0 hv).mono ?_
        rintro e w11 ⟨y11, c11, rfl, hb⟩
        replace i0 := i0.later hb
        replace a_b3 := a_b3.later hb
        replace d0 := d0.later hb
        replace hB := hB.trans (hb.mono hB.size)
        clear hb
        go_wp2_with (refine wpList_loadN_w rfl _ (.tmp 3) rfl (b := b3) (q := 0) rfl (run_loadSw a_b3) ?_)
        refine (vsoft_any s a _ i0).mono ?_
        rintro e w12 ⟨rfl, hb⟩
        replace i0 := i0.later hb
        replace a_b3 := a_b3.later hb
        replace d0 := d0.later hb
        replace hB := hB.trans (hb.mono hB.size)
        clear hb
        rw [hv]
        clear i0 a_b3 d0
        go_wp2_with fail
        refine (awake_any _).mono ?_
        rintro e wX ⟨rfl, hb⟩
        have hBX := hB.trans (hb.mono hB.size)
        clear hb
        go_wp2_with fail
        go_ret
        exact ⟨rfl, hBX⟩
      | true =>
        go_wp2_with (refine wpList_loadN rfl _ (.tmp 3) rfl (b := b3) (q := 0) rfl (run_loadSw a_b3) ?_)
        refine (pack_yes s a _ i0 hv).mono ?_
        rintro e w11 ⟨y11, c11, rfl, o11, hb⟩
        replace i0 := i0.later hb
        replace a_b3 := a_b3.later hb
        replace d0 := d0.later hb
        replace hB := hB.trans (hb.mono hB.size)
        clear hb
        clear d0
        obtain ⟨f1, f2⟩ := HFORM.out hv
        have HF0 := Lib.hid (HFU.out hv)
        have HC0 := Lib.hid (HCUT.out hv)
        have HM0 := Lib.hid (HMORE.out hv)
        obtain ⟨fm, hfm⟩ : ∃ l, Ld.form s = l := ⟨_, rfl⟩
        rw [hfm] at f1 f2 o11 HF0 HC0 HM0 ⊢
        have hcap := o11.le_cap
        have hnc := o11.none_cap
        clear hfm HFORM HFU HCUT HMORE HU1H HU0H HPKH
        obtain ⟨lf, hlf⟩ : ∃ n, fm.length = n := ⟨_, rfl⟩
        have HLF := Lib.hid hlf
        have HCAP := Lib.hid hcap
        have HL7 := Lib.hid (show lf ≤ 625 by rw [← hlf]; exact f2)
        have L0 := Lib.hid (show [] ++ fm = fm from rfl)
        have hxb := fun (p : Addr) (e : y11 = some p) => (o11.low p.block (by subst e; rfl)).2
        have HXB := Lib.hid hxb
        have HNC := Lib.hid hnc
        have HU4 : ∀ W, Bts W y11 fm → w11.heap.size ≤ W.heap.size → Calls Try.prog 10 #[.slice y11 fm.length c11] W fun e w' => ∃ a, e = .returned (.tuple #[aggN 23 (softV s a), .int .i64 0]) ∧ SwIn w' s a ∧ Below W.heap.size W w' := fun W h1 h2 => unpack_yes s y11 fm c11 W h1 HNC.out HCAP.out (fun p e => Nat.lt_of_lt_of_le (HXB.out p e) h2) HF0.out
        rw [hlf] at HU4 f1 f2 hcap ⊢
        clear hlf hnc hxb
        go_wp2_with fail
        refine (HU4 _ o11.bts (Nat.le_refl _)).mono ?_
        rintro e w12 ⟨sa13, rfl, i13, hb⟩
        have HZ0 := Lib.hid hb.size
        replace i0 := i0.later hb
        replace a_b3 := a_b3.later hb
        replace o11 := o11.later hb
        replace hB := hB.trans (hb.mono hB.size)
        clear hb
        clear HU4
        have hz11 := HZ0.out
        go_wp2_with (refine wpList_allocTo 13 rfl rfl _ rfl soft_zero ?_; intro Xa0 a_b13 hb0 hz0; refine Hid.out ?_)
        unfold Hid
        try simp only [Act.put, List.setIfInBounds_toArray, List.set_cons_zero, List.set_cons_succ]
        obtain ⟨b13, e_b13⟩ : ∃ a, w12.heap.size = a := ⟨_, rfl⟩
        have s_b13 : w12.heap.size ≤ b13 := by omega
        have hb := hb0
        rw [e_b13] at a_b13 hz0 ⊢
        clear hb0
        have hz : b13 < Xa0.heap.size := by omega
        clear e_b13 hz0
        go_wp2_with (refine wpList_storeB rfl rfl _ (.tmp 13) _ rfl (b := b13) (q := 0) rfl (n := 23) (v := softV s sa13) rfl a_b13 (fun j _ => soft_one _ _ _) soft_size ?_; intro Ya0 t1; refine Hid.out ?_)
        unfold Hid
        replace hb := t1.below _ _ (by omega) hb
        replace a_b13 := t1.blk
        rw [← t1.size] at hz
        clear t1
        replace i0 := i0.later hb
        replace a_b3 := a_b3.later hb
        replace o11 := o11.later hb
        replace i13 := i13.later hb
        replace hz11 := Nat.le_trans hz11 hb.size
        replace hB := hB.trans (hb.mono hB.size)
        clear hb hz
        have HZ11 := Lib.hid hz11
        clear hz11
        obtain ⟨nv, hnv⟩ : ∃ n : Nat, nn.toNat = n := ⟨_, rfl⟩
        rw [hnv]
        clear hnv
        obtain ⟨m, hm⟩ : ∃ n, nv % 20 = n := ⟨_, rfl⟩
        obtain ⟨kk, hkk⟩ : ∃ n, m + 1 = n := ⟨_, rfl⟩
        obtain ⟨j, hj⟩ : ∃ n, lf - kk = n := ⟨_, rfl⟩
        have hk20 : 1 ≤ kk ∧ kk ≤ 20 ∧ m < 20 := by omega
        have HJ := Lib.hid (show lf = j + kk ∧ 1 ≤ kk ∧ kk ≤ 20 by omega)
        have hlk : decide ((lf : Int) < (kk : Int)) = false := by simp; omega
        have hlk2 : decide (lf < kk) = false := by simp; omega
        have HSUB := Lib.hid (wrJ (lf := lf) (kk := kk) (j := j) (by omega) (by omega))
        have k0 : (0 : Int) ≤ (j : Int) := by omega
        have k1 : (j : Int) ≤ (c11 : Int) := by have := HCAP.out; have := HLF.out; omega
        have htm : Int.tmod (nv : Int) 20 = (m : Int) := tm20 hm
        have hw1 : wrap64 (1 + (m : Int)) = (kk : Int) := wrK hkk hk20.2.2
        have hwm : IntKind.i64.wrap (m : Int) = (m : Int) := wrI8 hk20.2.2
        have hwm8 : IntKind.u8.wrap (m : Int) = (m : Int) := wrU8 hk20.2.2
        clear hm hj hkk hk20 f1 f2 hcap
        have HWK := Lib.hid hw1
        have hsub := HSUB.out
        go_wp2_with fail
        clear htm hw1 hwm hwm8 hlk hlk2
        have HUC : ∀ W, Bts W y11 fm → w11.heap.size ≤ W.heap.size → Calls Try.prog 10 #[.slice y11 j c11] W fun e w' => ∃ a, e = .returned (.tuple #[aggN 23 (softV zSw a), .int .i64 380]) ∧ SwIn w' zSw a ∧ Below W.heap.size W w' := fun W h1 h2 => by
          obtain ⟨j1, j2, j3⟩ := HJ.out
          have hl := HLF.out
          have hz := HC0.out kk j2 j3
          rw [hl, show lf - kk = j by omega] at hz
          have hlen : (fm.take j).length = j := by rw [List.length_take]; omega
          have := unpack_no y11 (fm.take j) c11 W (h1.take j) HNC.out ⟨by rw [hlen]; have := HCAP.out; omega, HCAP.out.2⟩ (fun p e => Nat.lt_of_lt_of_le (HXB.out p e) h2) hz
          rw [hlen] at this
          exact this
        have HWW := Lib.hid hsub
        clear hsub k0 k1 HWW
        have z11 := HZ11.out
        refine (HUC _ o11.bts z11).mono ?_
        rintro e w14 ⟨sa16, rfl, i16, hb⟩
        replace i0 := i0.later hb
        replace a_b3 := a_b3.later hb
        replace o11 := o11.later hb
        replace i13 := i13.later hb
        replace a_b13 := a_b13.later hb
        replace hB := hB.trans (hb.mono hB.size)
        clear hb
        clear HUC i16 z11
        go_wp2_with (refine wpList_allocTo 16 rfl rfl _ rfl soft_zero ?_; intro Xb0 a_b16 hb0 hz0; refine Hid.out ?_)
        unfold Hid
        try simp only [Act.put, List.setIfInBounds_toArray, List.set_cons_zero, List.set_cons_succ]
        obtain ⟨b16, e_b16⟩ : ∃ a, w14.heap.size = a := ⟨_, rfl⟩
        have s_b16 : w14.heap.size ≤ b16 := by omega
        have hb := hb0
        rw [e_b16] at a_b16 hz0 ⊢
        clear hb0
        have hz : b16 < Xb0.heap.size := by omega
        clear e_b16 hz0
        go_wp2_with (refine wpList_storeB rfl rfl _ (.tmp 16) _ rfl (b := b16) (q := 0) rfl (n := 23) (v := softV zSw sa16) rfl a_b16 (fun j _ => soft_one _ _ _) soft_size ?_; intro Yb0 t1; refine Hid.out ?_)
        unfold Hid
        replace hb := t1.below _ _ (by omega) hb
        replace a_b16 := t1.blk
        rw [← t1.size] at hz
        clear t1
        replace i0 := i0.later hb
        replace a_b3 := a_b3.later hb
        replace o11 := o11.later hb
        replace i13 := i13.later hb
        replace a_b13 := a_b13.later hb
        replace hB := hB.trans (hb.mono hB.size)
        clear hb hz
        clear a_b16
        go_wp2_with (at_builtin; (refine wpList_app rfl _ _ rfl (l := []) (B := Yb0.heap.size) (OwnsB.made' _ (Yb0.heap.size) _ (Nat.le_refl _) rfl) rfl (m := fm) (show Value.slice y11 lf c11 = Value.slice y11 fm.length c11 by rw [HLF.out]) (o11.bts.later (al (Below.refl _ _) _)) HNC.out (by have := HLF.out; have := HL7.out; simp; omega) L0.out (by simp) ?_); intro x3 k3 w15 o15 hb15 _; refine Hid.out ?_)
        unfold Hid
        have hbA := (al (Below.refl _ Yb0) (.cells #[] 5)).trans hb15
        have HBA := Lib.hid hbA
        have HB15 := Lib.hid hbA.size
        clear hb15 hbA
        rw [HLF.out]
        obtain ⟨g3, rfl⟩ := o15.some_of (by have := HLF.out; have := HJ.out; omega)
        have O15 := Lib.hid o15
        clear o15
        have hb15x := HB15.out
        have hbx : fm.length + kk ≤ 100000 := by have := HLF.out; have := HL7.out; have := HJ.out; omega
        go_wp2_with (at_builtin; refine Hid.out ?_)
        unfold Hid
        refine wpList_app_zerosP (g := g3) (cap := k3) rfl (.tmp 94) (.tmp 95) rfl (l := fm) O15.out (by first | rfl | (rw [HLF.out]; rfl)) kk HJ.out.2.1 (by first | rfl | exact congrArg (Value.int .i64) HWK.out) hbx hb15x ?_
        intro x5 k5 w16 d16 hb16 n16
        try simp only [Act.put, List.setIfInBounds_toArray, List.set_cons_zero, List.set_cons_succ]
        rw [HLF.out]
        clear hbx
        have HUM : Calls Try.prog 10 #[.slice x5 (lf + kk) k5] w16 fun e w' => ∃ a, e = .returned (.tuple #[aggN 23 (softV zSw a), .int .i64 380]) ∧ SwIn w' zSw a ∧ Below w16.heap.size w16 w' := by
          have hz := HM0.out (List.replicate kk 0) (by have := HJ.out; simp; omega)
          have hlen : (fm ++ List.replicate kk 0).length = lf + kk := by rw [List.length_append, List.length_replicate, HLF.out]
          have := unpack_no x5 (fm ++ List.replicate kk 0) k5 w16 d16 n16.1 ⟨by rw [hlen, ← HLF.out]; exact n16.2.1.1, n16.2.1.2⟩ n16.2.2 hz
          rw [hlen] at this
          exact this
        have HUMH := Lib.hid HUM
        clear HUM n16 d16 O15 o11
        have hb := HBA.out.trans hb16
        clear hb16 hb15x
        replace i0 := i0.later hb
        replace a_b3 := a_b3.later hb
        replace i13 := i13.later hb
        replace a_b13 := a_b13.later hb
        replace hB := hB.trans (hb.mono hB.size)
        clear hb
        go_wp2_with fail
        refine (HUMH.out).mono ?_
        rintro e w17 ⟨sa18, rfl, i18, hb⟩
        replace i0 := i0.later hb
        replace a_b3 := a_b3.later hb
        replace i13 := i13.later hb
        replace a_b13 := a_b13.later hb
        replace hB := hB.trans (hb.mono hB.size)
        clear hb
        clear HUMH i18
        go_wp2_with (refine wpList_allocTo 18 rfl rfl _ rfl soft_zero ?_; intro Xd0 a_b18 hb0 hz0; refine Hid.out ?_)
        unfold Hid
        try simp only [Act.put, List.setIfInBounds_toArray, List.set_cons_zero, List.set_cons_succ]
        obtain ⟨b18, e_b18⟩ : ∃ a, w17.heap.size = a := ⟨_, rfl⟩
        have s_b18 : w17.heap.size ≤ b18 := by omega
        have hb := hb0
        rw [e_b18] at a_b18 hz0 ⊢
        clear hb0
        have hz : b18 < Xd0.heap.size := by omega
        clear e_b18 hz0
        go_wp2_with (refine wpList_storeB rfl rfl _ (.tmp 18) _ rfl (b := b18) (q := 0) rfl (n := 23) (v := softV zSw sa18) rfl a_b18 (fun j _ => soft_one _ _ _) soft_size ?_; intro Yd0 t1; refine Hid.out ?_)
        unfold Hid
        replace hb := t1.below _ _ (by omega) hb
        replace a_b18 := t1.blk
        rw [← t1.size] at hz
        clear t1
        replace i0 := i0.later hb
        replace a_b3 := a_b3.later hb
        replace i13 := i13.later hb
        replace a_b13 := a_b13.later hb
        replace hB := hB.trans (hb.mono hB.size)
        clear hb hz
        clear a_b18
        have g1 : decide ((lf : Int) ≤ 768) = true := by have := HL7.out; simp; omega
        have g2 : decide (lf ≤ 768) = true := by have := HL7.out; simp; omega
        go_wp2_with (first | (refine wpList_loadN_w rfl _ (.tmp 13) rfl (b := b13) (q := 0) rfl (run_loadSw a_b13) ?_) | (refine wpList_loadN_w rfl _ (.tmp 3) rfl (b := b3) (q := 0) rfl (run_loadSw a_b3) ?_))
        refine (same_soft s _ _ _ i13 i0 (by have := HP10.out; omega)).mono ?_
        rintro e w18 ⟨rfl, hb⟩
        replace i0 := i0.later hb
        replace a_b3 := a_b3.later hb
        replace i13 := i13.later hb
        replace a_b13 := a_b13.later hb
        replace hB := hB.trans (hb.mono hB.size)
        clear hb
        clear i13 i0 a_b13 a_b3
        go_wp2_with fail
        refine (awake_any _).mono ?_
        rintro e wX ⟨rfl, hb⟩
        have hBX := hB.trans (hb.mono hB.size)
        clear hb
        go_wp2_with fail
        go_ret
        exact ⟨rfl, hBX⟩

end Go.Proofs.Ytapefonhgkjgnaa
