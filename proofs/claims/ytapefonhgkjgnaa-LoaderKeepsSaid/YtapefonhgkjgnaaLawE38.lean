/- THE LAW LoaderKeeps. -/
import Derived.Test.YtapefonhgkjgnaaLdOp
import Derived.Test.YtapefonhgkjgnaaLdX
import Derived.Maps.OwnOps
import Derived.Maps.Views
set_option maxRecDepth 20000
namespace Go.Proofs.Ytapefonhgkjgnaa
open Go.RowKit Go.Maps

theorem bareN_vld (nm : List UInt8) (hn : 1 ≤ nm.length ∧ nm.length ≤ 24) (v : Int) (hv : 0 ≤ v ∧ v ≤ 1048576) (im : List UInt8) : (bare nm v im).vld = decide (im.length ≤ 400) := by
  rw [Bool.eq_iff_iff, Ld.Sw.vld_iff, decide_eq_true_iff]
  unfold bare
  simp
  omega
theorem lawInt : Keyed Try.prog 3 := int_keyed Try.underlying3
theorem zeroInt (w : World) : (zeroValue 3).run Try.prog w = .ok (.int .i64 0) w := by kernel_rfl
/-- A map of the call's own that holds nothing at the keys of a second installation. -/
def MapI (b n : Nat) (W : World) : Prop := ∃ D : DataW Unit, W.ownsMap Try.prog 3 (plainElem Try.prog 3) b n D ∧ ∀ k : Int, k = 1 ∨ 18 ≤ k → D.atKey (.int .i64 k) (.lit (.int .i64 0)) = .lit (.int .i64 0)
theorem MapI.low {B b n : Nat} {W W2 : World} (h : MapI b n W) (hb : Below B W W2) (hB : b < B) : MapI b n W2 := by
  obtain ⟨D, h1, h2⟩ := h
  refine ⟨D, ?_, h2⟩
  unfold World.ownsMap at h1 ⊢
  rw [hb.block b hB]
  exact h1
theorem wf_blk {k : Int} (h : 0 ≤ k ∧ k ≤ 100) : (Lit.int .i64 k).wf = true := by
  simp [Lit.wf, IntKind.min, IntKind.max, IntKind.bits, IntKind.signed]; omega
theorem wrS {n : Nat} (h : n ≤ 16) : wrap64 (((n + 1 : Nat) : Int) - 1) = (n : Int) := by rw [wrap64_id (by omega)]; omega
theorem wrS2 {n : Nat} (h : n ≤ 16) : wrap64 ((n : Int) + 1 - 1) = (n : Int) := by rw [wrap64_id (by omega)]; omega
theorem wpList_stopD {P : Program} {ops : Array Oper} {rest : List Oper} {o : Oper} {a : Act} {w : World} {Q : Exit → Act → World → Prop} (d : Nat) (_ho : o.dst = some d) (h : Stop (wpList P ops Q (o :: rest) a w)) : wpList P ops Q (o :: rest) a w := h.out
theorem wrQ {n : Nat} (h : n ≤ 16) : IntKind.i64.wrap (((n + 1 : Nat) : Int) - 1) = (n : Int) := by simp [IntKind.wrap, IntKind.bits, IntKind.signed]; omega
theorem wrQ2 {n : Nat} (h : n ≤ 16) : IntKind.i64.wrap ((n : Int) + 1 - 1) = (n : Int) := by simp [IntKind.wrap, IntKind.bits, IntKind.signed]; omega
theorem wrQ3 {n : Nat} (h : n ≤ 16) : IntKind.i64.wrap (n : Int) = (n : Int) := by simp [IntKind.wrap, IntKind.bits, IntKind.signed]; omega
theorem u8n {n : Nat} (h : n ≤ 16) : (UInt8.ofNat n).toNat = n := by rw [UInt8.toNat_ofNat']; omega
theorem lit_i64 {a b : Int} (h : (DataW.lit (.int .i64 a) : DataW Unit) = .lit (.int .i64 b)) : a = b := by
  simpa using h

set_option maxHeartbeats 8000000 in
theorem keeps_law (seed : D64) (v v2 : Int) (xa : Option Addr) (a : List UInt8) (ca : Nat) (xb : Option Addr) (b : List UInt8) (cb : Nat) (w : World) (hv : 0 ≤ v ∧ v ≤ 65535) (hv2 : 0 ≤ v2 ∧ v2 ≤ 65535) (hxa : Bts w xa a) (hna : xa = none → ca = 0) (hxb : Bts w xb b) (hnb : xb = none → cb = 0) :
    Calls Try.prog 6 #[.int .u64 (num seed), .int .u16 v, .int .u16 v2, .slice xa a.length ca, .slice xb b.length cb] w (YesOf w) := by
  have hB := Below.refl w.heap.size w
  have HXA := Lib.hid hxa
  have HXB := Lib.hid hxb
  obtain ⟨mn, mx, hmm, hmin, hmax⟩ : ∃ mn mx : Int, (0 ≤ mn ∧ mn ≤ mx ∧ mx ≤ 65535) ∧ (∀ (ts : Array TypeId) (t : TypeId) (W : World), (Builtin.min_ ts t #[.int .u16 v, .int .u16 v2]).run Try.prog W = .ok (.int .u16 mn) W) ∧ (∀ (ts : Array TypeId) (t : TypeId) (W : World), (Builtin.max_ ts t #[.int .u16 v, .int .u16 v2]).run Try.prog W = .ok (.int .u16 mx) W) := by
    by_cases h : v ≤ v2
    · refine ⟨v, v2, by omega, fun ts t W => ?_, fun ts t W => ?_⟩
      · simp [Builtin.min_, Builtin.min2]
        try omega
      · simp [Builtin.max_, Builtin.max2]
        try omega
    · refine ⟨v2, v, by omega, fun ts t W => ?_, fun ts t W => ?_⟩
      · simp [Builtin.min_, Builtin.min2]
        try omega
      · simp [Builtin.max_, Builtin.max2]
        try omega
  have hw0 : IntKind.i64.wrap mn = mn := by simp [IntKind.wrap, IntKind.bits, IntKind.signed]; omega
  have hw1 : IntKind.i64.wrap mx = mx := by simp [IntKind.wrap, IntKind.bits, IntKind.signed]; omega
  have hw2 : IntKind.i64.wrap (mx + 1) = mx + 1 := by simp [IntKind.wrap, IntKind.bits, IntKind.signed]; omega
  have hw3 : wrap64 (mx + 1) = mx + 1 := wrap64_id (by omega)
  have hw4 : wrap64 mn = mn := wrap64_id (by omega)
  have hw5 : wrap64 mx = mx := wrap64_id (by omega)
  have HROOT : ∀ W, Calls Try.prog 15 #[.int .u64 (num seed), .int .i64 0] W fun e w' => e = .returned (.tuple #[.int .u64 (num (Sgn.node seed 0 0)), .int .i64 0]) ∧ Below W.heap.size W w' := fun W => root_ok seed 0 (by omega) W
  have HSA : ∀ W, Bts W xa a → Calls Try.prog 16 #[.int .u64 (num seed), .int .i64 0, .int .i64 0, .string ⟨#[97]⟩, .int .i64 (mn), .slice xa a.length ca] W (SigOf (sgnS seed 0 0 [97] (mn) a) (decide (a.length ≤ 400)) xa ca W) := fun W h => by
    have := signed_any seed 0 0 [97] (mn) a xa ca W (by omega) (by decide) h hna
    rw [bareN_vld [97] (by decide) (mn) (by omega)] at this
    exact this
  have VA : Hid (a.length ≤ 400 → (sgnS seed 0 0 [97] (mn) a).vld = true ∧ Ld.genu (sgnS seed 0 0 [97] (mn) a) (Sgn.node seed 0 0) 0 = true) := fun h => by
    have hv : (bare [97] (mn) a).vld = true := by rw [bareN_vld [97] (by decide) (mn) (by omega)]; exact decide_eq_true h
    exact ⟨(sgn_vld (by omega) (by decide) _ _ _).trans hv, sgn_genu (seed := seed) (h := 0) (q := 0) (by omega) (by decide) [97] (mn) a hv⟩
  have HNA := Lib.hid (sgn_N seed 0 0 [97] (mn) a)
  have HPA := Lib.hid (show (sgnS seed 0 0 [97] (mn) a).path.length ≤ 100 by unfold sgnS; rw [Sgn.path_length]; omega)
  have HIMA : Hid ((sgnS seed 0 0 [97] (mn) a).img = a) := rfl
  have HSB : ∀ W, Bts W xb b → Calls Try.prog 16 #[.int .u64 (num seed), .int .i64 0, .int .i64 0, .string ⟨#[98, 99]⟩, .int .i64 (mx + 1), .slice xb b.length cb] W (SigOf (sgnS seed 0 0 [98, 99] (mx + 1) b) (decide (b.length ≤ 400)) xb cb W) := fun W h => by
    have := signed_any seed 0 0 [98, 99] (mx + 1) b xb cb W (by omega) (by decide) h hnb
    rw [bareN_vld [98, 99] (by decide) (mx + 1) (by omega)] at this
    exact this
  have VB : Hid (b.length ≤ 400 → (sgnS seed 0 0 [98, 99] (mx + 1) b).vld = true ∧ Ld.genu (sgnS seed 0 0 [98, 99] (mx + 1) b) (Sgn.node seed 0 0) 0 = true) := fun h => by
    have hv : (bare [98, 99] (mx + 1) b).vld = true := by rw [bareN_vld [98, 99] (by decide) (mx + 1) (by omega)]; exact decide_eq_true h
    exact ⟨(sgn_vld (by omega) (by decide) _ _ _).trans hv, sgn_genu (seed := seed) (h := 0) (q := 0) (by omega) (by decide) [98, 99] (mx + 1) b hv⟩
  have HNB := Lib.hid (sgn_N seed 0 0 [98, 99] (mx + 1) b)
  have HPB := Lib.hid (show (sgnS seed 0 0 [98, 99] (mx + 1) b).path.length ≤ 100 by unfold sgnS; rw [Sgn.path_length]; omega)
  have HIMB : Hid ((sgnS seed 0 0 [98, 99] (mx + 1) b).img = b) := rfl
  have HVER := Lib.hid (show (sgnS seed 0 0 [97] mn a).ver < (sgnS seed 0 0 [98, 99] (mx + 1) b).ver by show mn < mx + 1; omega)
  obtain ⟨rt, hrt⟩ : ∃ r, Sgn.node seed 0 0 = r := ⟨_, rfl⟩
  rw [hrt] at HROOT VA VB
  clear hrt
  obtain ⟨sA, hsA⟩ : ∃ r, sgnS seed 0 0 [97] mn a = r := ⟨_, rfl⟩
  rw [hsA] at HSA VA HNA HPA HVER HIMA
  clear hsA HPA
  obtain ⟨sB, hsB⟩ : ∃ r, sgnS seed 0 0 [98, 99] (mx + 1) b = r := ⟨_, rfl⟩
  rw [hsB] at HSB VB HNB HPB HVER HIMB
  clear hsB
  obtain ⟨la, hla⟩ : ∃ n, a.length = n := ⟨_, rfl⟩
  obtain ⟨lb, hlb⟩ : ∃ n, b.length = n := ⟨_, rfl⟩
  rw [hla] at HSA VA ⊢
  rw [hlb] at HSB VB ⊢
  clear hla hlb hna hnb hxa hxb hv hv2 hmm
  have HST0 := Lib.hid Ld.idle_new
  have HE0' : ∃ l, List.replicate 34 erasedL = l := ⟨_, rfl⟩
  obtain ⟨E0, hE0⟩ := HE0'
  rw [hE0] at HST0
  have HE0 := Lib.hid hE0
  clear hE0
  go_enter Try.func6, Try.ntmps6
  go_wp2_with fail
  refine (new34 _).mono ?_
  rintro e wN ⟨x1, c1_, rs1, rfl, hs, hb⟩
  replace hB := hB.trans (hb.mono hB.size)
  clear hb
  rw [HE0.out] at hs
  have Z0 := Lib.hid hB.size
  go_wp2_with fail
  have hb := al (Below.refl _ wN) (.cells #[.slice x1 34 c1_] 33)
  have c1 : (wN.alloc (.cells #[.slice x1 34 c1_] 33)).cell? ⟨wN.heap.size, 0, none⟩ = some (.slice x1 34 c1_) := cell_new wN _ _ _ 0
  have f1 := frozen_new wN #[.slice x1 34 c1_] 33 0
  have hlt : wN.heap.size < (wN.alloc (.cells #[.slice x1 34 c1_] 33)).heap.size := by simp
  obtain ⟨b1, e_b1⟩ : ∃ b, wN.heap.size = b := ⟨_, rfl⟩
  obtain ⟨V1, hV⟩ : ∃ V, wN.alloc (.cells #[.slice x1 34 c1_] 33) = V := ⟨_, rfl⟩
  rw [hV] at hb hlt c1 f1 ⊢
  try rw [e_b1] at hlt c1 f1 ⊢
  clear hV
  replace hs := hs.later hb
  replace hB := hB.trans (hb.mono hB.size)
  clear hb
  have z1 : w.heap.size ≤ b1 ∧ b1 < V1.heap.size := ⟨by rw [← e_b1]; exact Z0.out, hlt⟩
  clear hlt e_b1
  refine (HROOT _).mono ?_
  rintro e w2 ⟨rfl, hb⟩
  replace f1 := (hb.frozen (p := ⟨b1, 0, none⟩) z1.2).trans f1
  replace z1 := And.intro z1.1 (Nat.lt_of_lt_of_le z1.2 hb.size)
  replace hs := hs.later hb
  replace c1 := later hb c1
  replace hB := hB.trans (hb.mono hB.size)
  clear hb
  go_wp2_with fail
  have Z1 := Lib.hid z1.2
  refine (HSA _ (HXA.out.later hB)).mono ?_
  rintro e wSA ⟨xpA, cpA, rfl, iA, nA, hb⟩
  replace f1 := (hb.frozen (p := ⟨b1, 0, none⟩) z1.2).trans f1
  replace z1 := And.intro z1.1 (Nat.lt_of_lt_of_le z1.2 hb.size)
  replace hs := hs.later hb
  replace c1 := later hb c1
  replace hB := hB.trans (hb.mono hB.size)
  clear hb
  have NA : Hid (∀ p, xpA = some p → b1 < p.block) := fun p e => by have := nA p e; have := Z1.out; omega
  clear nA
  have Z2 := Lib.hid z1.2
  go_wp2_with (refine wpList_allocTo 15 rfl rfl _ rfl soft_zero ?_; intro XA0 a_b15 hb0 hz0; refine Hid.out ?_)
  unfold Hid
  try simp only [Act.put, List.setIfInBounds_toArray, List.set_cons_zero, List.set_cons_succ]
  obtain ⟨b15, e_b15⟩ : ∃ a, wSA.heap.size = a := ⟨_, rfl⟩
  have s_b15 : wSA.heap.size ≤ b15 := by omega
  have hb := hb0
  rw [e_b15] at a_b15 hz0 ⊢
  clear hb0
  have hz : b15 < XA0.heap.size := by omega
  clear e_b15 hz0
  go_wp2_with (refine wpList_storeB rfl rfl _ (.tmp 15) _ rfl (b := b15) (q := 0) rfl (n := 23) (v := softV sA ⟨xa, ca, xpA, cpA⟩) rfl a_b15 (fun j _ => soft_one _ _ _) soft_size ?_; intro YA0 t1; refine Hid.out ?_)
  unfold Hid
  replace hb := t1.below _ _ (by omega) hb
  replace a_b15 := t1.blk
  rw [← t1.size] at hz
  clear t1
  replace hs := hs.later hb
  replace c1 := later hb c1
  replace iA := iA.later hb
  replace f1 := (hb.frozen (p := ⟨b1, 0, none⟩) z1.2).trans f1
  replace z1 := And.intro z1.1 (Nat.lt_of_lt_of_le z1.2 hb.size)
  replace hB := hB.trans (hb.mono hB.size)
  clear hb hz
  have m_b15 : b1 < b15 := by have := Z2.out; omega
  clear s_b15
  go_wp2_with fail
  have Z3 := Lib.hid z1.2
  refine (HSB _ (HXB.out.later hB)).mono ?_
  rintro e wSB ⟨xpB, cpB, rfl, iB, nB, hb⟩
  replace f1 := (hb.frozen (p := ⟨b1, 0, none⟩) z1.2).trans f1
  replace z1 := And.intro z1.1 (Nat.lt_of_lt_of_le z1.2 hb.size)
  replace hs := hs.later hb
  replace c1 := later hb c1
  replace iA := iA.later hb
  replace a_b15 := a_b15.later hb
  replace hB := hB.trans (hb.mono hB.size)
  clear hb
  have NB : Hid (∀ p, xpB = some p → b1 < p.block) := fun p e => by have := nB p e; have := Z3.out; omega
  clear nB
  have Z4 := Lib.hid z1.2
  go_wp2_with (refine wpList_allocTo 17 rfl rfl _ rfl soft_zero ?_; intro XB0 a_b17 hb0 hz0; refine Hid.out ?_)
  unfold Hid
  try simp only [Act.put, List.setIfInBounds_toArray, List.set_cons_zero, List.set_cons_succ]
  obtain ⟨b17, e_b17⟩ : ∃ a, wSB.heap.size = a := ⟨_, rfl⟩
  have s_b17 : wSB.heap.size ≤ b17 := by omega
  have hb := hb0
  rw [e_b17] at a_b17 hz0 ⊢
  clear hb0
  have hz : b17 < XB0.heap.size := by omega
  clear e_b17 hz0
  go_wp2_with (refine wpList_storeB rfl rfl _ (.tmp 17) _ rfl (b := b17) (q := 0) rfl (n := 23) (v := softV sB ⟨xb, cb, xpB, cpB⟩) rfl a_b17 (fun j _ => soft_one _ _ _) soft_size ?_; intro YB0 t1; refine Hid.out ?_)
  unfold Hid
  replace hb := t1.below _ _ (by omega) hb
  replace a_b17 := t1.blk
  rw [← t1.size] at hz
  clear t1
  replace hs := hs.later hb
  replace c1 := later hb c1
  replace iA := iA.later hb
  replace a_b15 := a_b15.later hb
  replace iB := iB.later hb
  replace f1 := (hb.frozen (p := ⟨b1, 0, none⟩) z1.2).trans f1
  replace z1 := And.intro z1.1 (Nat.lt_of_lt_of_le z1.2 hb.size)
  replace hB := hB.trans (hb.mono hB.size)
  clear hb hz
  have m_b17 : b1 < b17 := by have := Z4.out; omega
  clear s_b17
  clear hmin hmax hw0 hw1 hw2 hw3 hw4 hw5
  by_cases hA : ¬ la ≤ 400
  · have d1 : decide (la ≤ 400) = false := by simp; omega
    rw [d1]
    clear hs c1 iA a_b15 iB a_b17
    go_wp2_with fail
    all_goals (refine (awake_any _).mono ?_; rintro e wX ⟨rfl, hb⟩; have hBX := hB.trans (hb.mono hB.size); clear hb; go_wp2_with fail; go_ret; exact ⟨rfl, hBX⟩)
  rw [Decidable.not_not] at hA
  have d1 : decide (la ≤ 400) = true := by simp; omega
  rw [d1]
  by_cases hBb : ¬ lb ≤ 400
  · have d2 : decide (lb ≤ 400) = false := by simp; omega
    rw [d2]
    clear hs c1 iA a_b15 iB a_b17
    go_wp2_with fail
    all_goals (refine (awake_any _).mono ?_; rintro e wX ⟨rfl, hb⟩; have hBX := hB.trans (hb.mono hB.size); clear hb; go_wp2_with fail; go_ret; exact ⟨rfl, hBX⟩)
  rw [Decidable.not_not] at hBb
  have d2 : decide (lb ≤ 400) = true := by simp; omega
  rw [d2]
  obtain ⟨hvA, hgA⟩ := VA.out hA
  obtain ⟨hvB, hgB⟩ := VB.out hBb
  have HIA := Lib.hid (Ld.ins_idle HST0.out hvA hgA)
  have HFST := Lib.hid (fun os ho => Ld.run_first (s := sA) (root := rt) (g := 0) (os := os) HST0.out HNA.out hvA hgA ho)
  have HVA := Lib.hid (And.intro hvA hgA)
  have HVB := Lib.hid (And.intro hvB hgB)
  clear hvA hgA hvB hgB VA VB hA hBb d1 d2
  go_wp2_with (refine wpList_loadN rfl _ (.tmp 15) rfl (b := b15) (q := 0) rfl (run_loadSw a_b15) ?_)
  have Z5 := Lib.hid z1.2
  refine (ins_r _ _ _ hs HST0.out.st iA HIA.out.1).mono ?_
  rintro e wI1 ⟨y1, kc1, os1, rfl, o1, hl1, hm1, hb⟩
  replace f1 := (hb.frozen (p := ⟨b1, 0, none⟩) z1.2).trans f1
  replace z1 := And.intro z1.1 (Nat.lt_of_lt_of_le z1.2 hb.size)
  replace hs := hs.later hb
  replace c1 := later hb c1
  replace iA := iA.later hb
  replace a_b15 := a_b15.later hb
  replace iB := iB.later hb
  replace a_b17 := a_b17.later hb
  replace hB := hB.trans (hb.mono hB.size)
  clear hb
  replace o1 := o1.weaken (B' := b1 + 1) (by have := Z5.out; omega)
  obtain ⟨hrun, hvo⟩ := HFST.out os1 hm1
  have HA1 := Lib.hid (Ld.ins_at (by rw [hm1]; exact HIA.out.2))
  obtain ⟨n1, hn1⟩ : ∃ n, Ld.ckN (Ld.form sA) = n := ⟨_, rfl⟩
  have hn16 := (Ld.ckN_form sA HVA.out.1).2.1
  rw [hn1] at hrun hl1 hn16 HA1 ⊢
  have HRUN := Lib.hid hrun
  have HL1 := Lib.hid hl1
  clear hrun hl1 hn1 hm1 HIA HFST
  go_wp2_with fail
  have Z6 := Lib.hid z1.2
  refine (run34 _ (n1 + 1) _ hs HST0.out.st o1 HL1.out (by omega) hvo).mono ?_
  rintro e wR2 ⟨x2_, c2_, rs2_, rfl, hs2, hb⟩
  replace f1 := (hb.frozen (p := ⟨b1, 0, none⟩) z1.2).trans f1
  replace z1 := And.intro z1.1 (Nat.lt_of_lt_of_le z1.2 hb.size)
  replace hs := hs.later hb
  replace c1 := later hb c1
  replace iA := iA.later hb
  replace a_b15 := a_b15.later hb
  replace iB := iB.later hb
  replace a_b17 := a_b17.later hb
  replace o1 := o1.later hb
  replace hB := hB.trans (hb.mono hB.size)
  clear hb
  replace hs2 := hs2.weaken (B' := b1 + 1) (by have := Z6.out; omega)
  clear hs
  go_wp2_with (refine wpList_stopL 29 (.tmp 17) rfl ?_)
  refine ⟨?_⟩
  have tn : Turns (fun b => b = b1) wR2 (wR2.setCell ⟨b1, 0, none⟩ (.slice x2_ 34 c2_)) := (Turns.refl (fun b => b = b1) wR2).setCell (p := ⟨b1, 0, none⟩) (fun _ => rfl) _
  replace c1 : (wR2.setCell ⟨b1, 0, none⟩ (.slice x2_ 34 c2_)).cell? ⟨b1, 0, none⟩ = some (.slice x2_ 34 c2_) := World.cell?_setCell_same' _ _ _ (by rw [c1]; rfl)
  replace f1 : (wR2.setCell ⟨b1, 0, none⟩ (.slice x2_ 34 c2_)).frozen? ⟨b1, 0, none⟩ = false := (World.frozen?_setCell _ _ _ _).trans f1
  replace hs2 := hs2.turn tn (fun b e => by omega)
  replace hB := hB.setCell (p := ⟨b1, 0, none⟩) z1.1 (.slice x2_ 34 c2_)
  replace z1 := And.intro z1.1 (Nat.lt_of_lt_of_le z1.2 tn.size)
  replace a_b15 := a_b15.turn tn (by omega)
  replace a_b17 := a_b17.turn tn (by omega)
  replace o1 := o1.turn tn (fun b h _ e => by omega)
  replace iA : SwIn (wR2.setCell ⟨b1, 0, none⟩ (.slice x2_ 34 c2_)) sA ⟨xa, ca, xpA, cpA⟩ := ⟨by rw [HIMA.out]; exact HXA.out.later hB, iA.2.1, iA.2.2.turn tn (fun p e k => by have := NA.out p e; omega)⟩
  replace iB : SwIn (wR2.setCell ⟨b1, 0, none⟩ (.slice x2_ 34 c2_)) sB ⟨xb, cb, xpB, cpB⟩ := ⟨by rw [HIMB.out]; exact HXB.out.later hB, iB.2.1, iB.2.2.turn tn (fun p e k => by have := NB.out p e; omega)⟩
  obtain ⟨V2_, hV⟩ : ∃ V, (wR2.setCell ⟨b1, 0, none⟩ (.slice x2_ 34 c2_)) = V := ⟨_, rfl⟩
  rw [hV] at c1 f1 hs2 hB z1 iA a_b15 iB a_b17 o1 ⊢
  clear hV tn
  clear hvo
  obtain ⟨ls1, hls1⟩ : ∃ l, runL E0 os1 = l := ⟨_, rfl⟩
  rw [hls1] at hs2 HRUN
  clear hls1
  go_wp2_with (refine wpList_loadN rfl _ (.tmp 17) rfl (b := b17) (q := 0) rfl (run_loadSw a_b17) ?_)
  have Z7 := Lib.hid z1.2
  refine (ins_r _ _ _ hs2 HRUN.out.st iB (Ld.ins_run HRUN.out HVB.out.1 HVB.out.2 HVER.out (by show (1 : Nat) < 4294967295; omega)).1).mono ?_
  rintro e wI3 ⟨y3, kc3, os3, rfl, o3, hl3, hm3, hb⟩
  replace f1 := (hb.frozen (p := ⟨b1, 0, none⟩) z1.2).trans f1
  replace z1 := And.intro z1.1 (Nat.lt_of_lt_of_le z1.2 hb.size)
  replace c1 := later hb c1
  replace iA := iA.later hb
  replace a_b15 := a_b15.later hb
  replace iB := iB.later hb
  replace a_b17 := a_b17.later hb
  replace o1 := o1.later hb
  replace hs2 := hs2.later hb
  replace hB := hB.trans (hb.mono hB.size)
  clear hb
  replace o3 := o3.weaken (B' := b1 + 1) (by have := Z7.out; omega)
  have hnx := Ld.run_next HRUN.out HNB.out HVB.out.1 HVB.out.2 HVER.out (by show (1 : Nat) < 4294967295; omega) hm3
  have HA3 := Lib.hid (Ld.ins_at (by rw [hm3]; exact (Ld.ins_run HRUN.out HVB.out.1 HVB.out.2 HVER.out (by show (1 : Nat) < 4294967295; omega)).2))
  obtain ⟨n3, hn3⟩ : ∃ n, Ld.ckN (Ld.form sB) = n := ⟨_, rfl⟩
  have hn36 := (Ld.ckN_form sB HVB.out.1).2.1
  rw [hn3] at hl3 hn36 HA3 hnx ⊢
  have HL3 := Lib.hid hl3
  have hvo3 := hnx.2
  have HVO3 := Lib.hid hvo3
  have HNX := Lib.hid hnx.1
  clear hnx hn3 hl3 hm3 hvo3 HVER HNB HSA HSB HROOT HNA HVA HVB
  clear iA a_b15
  have e1 : decide (((n1 + 1 : Nat) : Int) = 0) = false := by simp; omega
  have e2 : (((n1 + 1 : Nat) : Int) == 0) = false := by simp; omega
  have e3 : decide (((n3 + 1 : Nat) : Int) = 0) = false := by simp; omega
  have e4 : (((n3 + 1 : Nat) : Int) == 0) = false := by simp; omega
  have e5 : (n1 + 1 == 0) = false := by simp
  have e6 : (n3 + 1 == 0) = false := by simp
  have e7 : ((n1 : Int) + 1 == 0) = false := by simp; omega
  have e8 : ((n3 : Int) + 1 == 0) = false := by simp; omega
  have e9 : ¬ (n1 : Int) + 1 = 0 := by omega
  have e10 : ¬ (n3 : Int) + 1 = 0 := by omega
  have hmm := @run_makeMap Try.prog
  go_wp2_with fail
  clear e1 e2 e3 e4 e5 e6 e7 e8 e9 e10 hmm
  have HG1 : Hid (∀ g q, y1 = some ⟨g, q, none⟩ → g < wI3.heap.size) := fun g q e => (o1.row.low g (rowOf_some (p := ⟨g, q, none⟩) e)).2
  have HG3 : Hid (∀ g q, y3 = some ⟨g, q, none⟩ → g < wI3.heap.size) := fun g q e => (o3.row.low g (rowOf_some (p := ⟨g, q, none⟩) e)).2
  have hbM := (Below.refl wI3.heap.size wI3).alloc (Nat.le_refl _) (.map #[] 0)
  have hM : MapI wI3.heap.size 0 (wI3.alloc (.map #[] 0)) := ⟨.map [], World.ownsMap_made _ _ _ _, fun k _ => rfl⟩
  obtain ⟨bM, ebM⟩ : ∃ b, wI3.heap.size = b := ⟨_, rfl⟩
  obtain ⟨VM, hV⟩ : ∃ V, wI3.alloc (.map #[] 0) = V := ⟨_, rfl⟩
  rw [hV] at hbM hM ⊢
  rw [ebM] at hbM hM HG1 HG3 ⊢
  have HEM := Lib.hid ebM
  clear hV ebM
  have O1 := Lib.hid o1
  clear o1
  go_loopw [125] (fun u125 wr => ∃ i : Nat, i ≤ n1 + 1 ∧ u125 = .int .i64 (i : Int) ∧ MapI bM i wr ∧ Below bM wI3 wr) (fun u125 _ => n1 + 1 - (intOf u125).toNat)
  case atStart => exact ⟨0, by omega, rfl, hM, hbM⟩
  case round =>
    clear hM hbM
    obtain ⟨i, hi, rfl, hM, hb⟩ := hrel
    by_cases hlt : i < n1 + 1
    · have hki : decide ((i : Int) < ((n1 + 1 : Nat) : Int)) = true := by simp; omega
      have hki2 : decide (i < n1 + 1) = true := by simp; omega
      have hbo : Below bM wI3 wr := hb
      obtain ⟨hie, hib⟩ := HA1.out.2.1 i (by omega)
      obtain ⟨D, hown, hz⟩ := hM
      obtain ⟨g, q, rfl, hc⟩ : ∃ g q, y1 = some ⟨g, q, none⟩ ∧ ∀ i, i < os1.length → wI3.cell? ⟨g, q + i * 3, none⟩ = some (.int .i64 (os1.getD i op0).blk) ∧ wI3.cell? ⟨g, q + i * 3 + 1, none⟩ = some (.bool (os1.getD i op0).er) ∧ wI3.cell? ⟨g, q + i * 3 + 2, none⟩ = some (.slice (os1.getD i op0).x (os1.getD i op0).d.length (os1.getD i op0).c) := by
        rcases O1.out.ops.1 with h | ⟨g, q, h1, h2⟩
        · have := HL1.out; rw [h] at this; simp at this
        · exact ⟨g, q, h1, h2⟩
      have hgb : g < bM := HG1.out g q rfl
      obtain ⟨k0, k1, k2⟩ := hc i (by rw [HL1.out]; exact hlt)
      replace k0 := (hbo.cell (p := ⟨g, q + i * 3, none⟩) hgb).trans k0
      replace k1 := (hbo.cell (p := ⟨g, q + i * 3 + 1, none⟩) hgb).trans k1
      replace k2 := (hbo.cell (p := ⟨g, q + i * 3 + 2, none⟩) hgb).trans k2
      rw [hie] at k1
      obtain ⟨bk, hbk⟩ : ∃ b, (os1.getD i op0).blk = b := ⟨_, rfl⟩
      obtain ⟨xd, hxd⟩ : ∃ b, (os1.getD i op0).x = b := ⟨_, rfl⟩
      obtain ⟨nd, hnd⟩ : ∃ b, (os1.getD i op0).d.length = b := ⟨_, rfl⟩
      obtain ⟨cd, hcd⟩ : ∃ b, (os1.getD i op0).c = b := ⟨_, rfl⟩
      rw [hbk] at k0 hib
      rw [hxd, hnd, hcd] at k2
      clear hie hbk hxd hnd hcd hc
      have hbk18 : 0 ≤ bk ∧ bk ≠ 1 ∧ bk < 18 := by
        rw [hib]
        split <;> omega
      have HKEY : keyOf Try.prog 3 (.int .i64 bk) = some (.int .i64 bk) := keyOf_int_mk Try.underlying3 (wf_blk (by omega))
      have hbb : Below bM wI3 (wr.alloc (.cells #[.int .i64 bk, .bool false, .slice xd nd cd] 66)) := hb.alloc (by have := hb.size; have := HEM.out; omega) _
      clear hib
      go_wp2_with (first | (at_lookup; refine wpList_lookup_own_int _ rfl _ _ 64 rfl 3 3 .i64 lawInt Try.underlying64 Try.underlying3 (zeroInt _) bM i _ rfl (hown.alloc _) _ _ rfl HKEY ?_; intro c hat hwc) | (at_mapUpdate; refine wpList_mapUpdate_own _ rfl _ _ _ 64 rfl 3 3 lawInt Try.underlying64 _ bM i _ rfl (hown.alloc _) (by unfold maxLen; omega) _ _ _ rfl rfl HKEY _ [] (plainElem_int Try.underlying3 (wrap64_wf _)) ?_; intro w1 hown1 hgrow1) | go_in)
      exact ⟨⟨i + 1, by omega, by go_num, ⟨_, hown1, fun k hk => by rw [atKey_put_other (by intro e; injection e; omega)]; exact hz k hk⟩, hbb.grown hgrow1 (by have := hbb.size; have := HEM.out; omega) (fun j hj => by cases hj; exact Nat.le_refl _)⟩, by simp [intOf]; omega⟩
    · have hi1 : i = n1 + 1 := by omega
      have hiI : (i : Int) = (n1 : Int) + 1 := by omega
      rw [hiI]
      rw [hi1] at hM
      have hki : decide ((n1 : Int) + 1 < (n1 : Int) + 1) = false := by simp
      have o1 := O1.out
      clear hlt hi O1 hi1 hiI
      have hb2 : Below wI3.heap.size wI3 wr := by rw [HEM.out]; exact hb
      have hlM : bM < wr.heap.size := by obtain ⟨D, hown, _⟩ := hM; exact hown.lt
      have mbM : b1 < bM := by have := z1.2; have := HEM.out; omega
      clear hb
      have hb := hb2
      clear hb2
      replace f1 := (hb.frozen (p := ⟨b1, 0, none⟩) z1.2).trans f1
      replace z1 := And.intro z1.1 (Nat.lt_of_lt_of_le z1.2 hb.size)
      replace c1 := later hb c1
      replace iB := iB.later hb
      replace a_b17 := a_b17.later hb
      replace hs2 := hs2.later hb
      replace o3 := o3.later hb
      replace o1 := o1.later hb
      replace hB := hB.trans (hb.mono hB.size)
      clear hb
      go_wp2_with fail
      clear hki
      obtain ⟨W1, rfl⟩ : ∃ W, W = wr := ⟨_, rfl⟩
      have O3 := Lib.hid o3
      have HM := Lib.hid hM
      clear o3 hM
      go_loopw [137] (fun u137 wq => ∃ j : Nat, j ≤ n3 + 1 ∧ u137 = .int .i64 (j : Int) ∧ Below W1.heap.size W1 wq) (fun u137 _ => n3 + 1 - (intOf u137).toNat)
      case atStart => exact ⟨0, by omega, rfl, Below.refl _ _⟩
      case round =>
        obtain ⟨j, hj, rfl, hb⟩ := hrel
        by_cases hlt : j < n3 + 1
        · have hki : decide ((j : Int) < ((n3 + 1 : Nat) : Int)) = true := by simp; omega
          have hki2 : decide (j < n3 + 1) = true := by simp; omega
          obtain ⟨hie, hib⟩ := HA3.out.2.1 j (by omega)
          obtain ⟨D, hown, hz⟩ := HM.out.low hb hlM
          obtain ⟨g, q, rfl, hc⟩ : ∃ g q, y3 = some ⟨g, q, none⟩ ∧ ∀ i, i < os3.length → wr.cell? ⟨g, q + i * 3, none⟩ = some (.int .i64 (os3.getD i op0).blk) ∧ wr.cell? ⟨g, q + i * 3 + 1, none⟩ = some (.bool (os3.getD i op0).er) ∧ wr.cell? ⟨g, q + i * 3 + 2, none⟩ = some (.slice (os3.getD i op0).x (os3.getD i op0).d.length (os3.getD i op0).c) := by
            rcases (O3.out.later hb).ops.1 with h | ⟨g, q, h1, h2⟩
            · have := HL3.out; rw [h] at this; simp at this
            · exact ⟨g, q, h1, h2⟩
          obtain ⟨k0, k1, k2⟩ := hc j (by rw [HL3.out]; exact hlt)
          rw [hie] at k1
          obtain ⟨bk, hbk⟩ : ∃ b, (os3.getD j op0).blk = b := ⟨_, rfl⟩
          obtain ⟨xd, hxd⟩ : ∃ b, (os3.getD j op0).x = b := ⟨_, rfl⟩
          obtain ⟨nd, hnd⟩ : ∃ b, (os3.getD j op0).d.length = b := ⟨_, rfl⟩
          obtain ⟨cd, hcd⟩ : ∃ b, (os3.getD j op0).c = b := ⟨_, rfl⟩
          rw [hbk] at k0 hib
          rw [hxd, hnd, hcd] at k2
          clear hie hbk hxd hnd hcd hc
          have hbk18 : (bk = 1 ∨ 18 ≤ bk) ∧ bk ≤ 100 := by
            rw [hib]
            split <;> omega
          have HKEY : keyOf Try.prog 3 (.int .i64 bk) = some (.int .i64 bk) := keyOf_int_mk Try.underlying3 (wf_blk (by omega))
          have HZ := Lib.hid (hz bk hbk18.1)
          have hbb : Below W1.heap.size W1 (wr.alloc (.cells #[.int .i64 bk, .bool false, .slice xd nd cd] 66)) := hb.alloc hb.size _
          clear hz
          by_cases hjn : j = n3
          · rw [if_pos hjn] at hib
            have q2 : decide (bk ≤ 1) = true := by rw [hib]; rfl
            clear hib
            subst hjn
            have q1 : ((j : Int) == (j : Int)) = true := by simp
            go_wp2_with (first | (at_lookup; refine wpList_lookup_own_int _ rfl _ _ 64 rfl 3 3 .i64 lawInt Try.underlying64 Try.underlying3 (zeroInt _) bM (n1 + 1) _ rfl (hown.alloc _) _ _ rfl HKEY ?_; intro c hat hwc; obtain rfl : (0 : Int) = c := lit_i64 (HZ.out.symm.trans hat); clear hat hwc) | go_in)
            exact ⟨⟨j + 1, by omega, by go_num, hbb⟩, by first | (simp [intOf]; done) | (simp [intOf]; omega)⟩
          · rw [if_neg hjn] at hib
            have hle : decide (bk ≤ 1) = false := by simp; omega
            have hjb : ((j : Int) == (n3 : Int)) = false := by simp; omega
            have hjb2 : decide ((j : Int) = (n3 : Int)) = false := by simp; omega
            clear hib
            go_wp2_with (first | (at_lookup; refine wpList_lookup_own_int _ rfl _ _ 64 rfl 3 3 .i64 lawInt Try.underlying64 Try.underlying3 (zeroInt _) bM (n1 + 1) _ rfl (hown.alloc _) _ _ rfl HKEY ?_; intro c hat hwc; obtain rfl : (0 : Int) = c := lit_i64 (HZ.out.symm.trans hat); clear hat hwc) | go_in)
            exact ⟨⟨j + 1, by omega, by go_num, hbb⟩, by first | (simp [intOf]; done) | (simp [intOf]; omega)⟩
        · have hjI : (j : Int) = (n3 : Int) + 1 := by omega
          rw [hjI]
          have hki : decide ((n3 : Int) + 1 < (n3 : Int) + 1) = false := by simp
          clear hlt hj HM hlM mbM hjI
          have o3 := O3.out
          clear O3
          replace f1 := (hb.frozen (p := ⟨b1, 0, none⟩) z1.2).trans f1
          replace z1 := And.intro z1.1 (Nat.lt_of_lt_of_le z1.2 hb.size)
          replace c1 := later hb c1
          replace iB := iB.later hb
          replace a_b17 := a_b17.later hb
          replace hs2 := hs2.later hb
          replace o1 := o1.later hb
          replace o3 := o3.later hb
          replace hB := hB.trans (hb.mono hB.size)
          clear hb
          go_wp2_with fail
          clear hki
          obtain ⟨g1, q1, rfl, hr1⟩ := o1.ops.row (by intro h; have := HL1.out; rw [h] at this; simp at this)
          have e1 := hr1 n1 (by rw [HL1.out]; omega)
          have dt1 := o1.ops.dat n1 (by rw [HL1.out]; omega)
          obtain ⟨fe1, fb1⟩ := HA1.out.2.1 n1 (Nat.le_refl _)
          rw [if_pos rfl] at fb1
          have fd1 := HA1.out.2.2
          have lg1 : g1 < wr.heap.size := World.block_lt_of_cell? _ _ (e1 0 (by omega))
          obtain ⟨u1, hu1⟩ : ∃ u, os1.getD n1 op0 = u := ⟨_, rfl⟩
          rw [hu1] at e1 dt1 fe1 fb1 fd1
          have FE1 := Lib.hid fe1
          have FB1 := Lib.hid fb1
          have FD1 := Lib.hid fd1
          clear hr1 hu1 fe1 fb1 fd1
          obtain ⟨g3, q3, rfl, hr3⟩ := o3.ops.row (by intro h; have := HL3.out; rw [h] at this; simp at this)
          have e3 := hr3 n3 (by rw [HL3.out]; omega)
          have dt3 := o3.ops.dat n3 (by rw [HL3.out]; omega)
          obtain ⟨fe3, fb3⟩ := HA3.out.2.1 n3 (Nat.le_refl _)
          rw [if_pos rfl] at fb3
          have fd3 := HA3.out.2.2
          have lg3 : g3 < wr.heap.size := World.block_lt_of_cell? _ _ (e3 0 (by omega))
          obtain ⟨u3, hu3⟩ : ∃ u, os3.getD n3 op0 = u := ⟨_, rfl⟩
          rw [hu3] at e3 dt3 fe3 fb3 fd3
          have FE3 := Lib.hid fe3
          have FB3 := Lib.hid fb3
          have FD3 := Lib.hid fd3
          clear hr3 hu3 fe3 fb3 fd3
          have HQ1 : IntKind.i64.wrap (((n1 + 1 : Nat) : Int) - 1) = (n1 : Int) := wrQ hn16
          have HQ3 : IntKind.i64.wrap (((n3 + 1 : Nat) : Int) - 1) = (n3 : Int) := wrQ hn36
          have HQ1b : IntKind.i64.wrap ((n1 : Int) + 1 - 1) = (n1 : Int) := wrQ2 hn16
          have HQ3b : IntKind.i64.wrap ((n3 : Int) + 1 - 1) = (n3 : Int) := wrQ2 hn36
          obtain ⟨NH, hNB⟩ : ∃ n, wr.heap.size = n := ⟨_, rfl⟩
          have HNBL := Lib.hid hNB
          rw [hNB] at lg1 lg3
          clear hNB
          refine wp_cutN (fun a' W => ∃ b29 b30 : Nat, (b29 ≠ b30 ∧ NH ≤ b29 ∧ NH ≤ b30) ∧ Blk W b29 0 3 (opF u1) ∧ Blk W b30 0 3 (opF u3) ∧ Below NH wr W ∧ ∃ u : Nat → Value, a' = { tmps := #[u 0, u 1, u 2, u 3, u 4, u 5, u 6, u 7, u 8, u 9, u 10, .pointer (some ⟨b1, 0, none⟩), u 12, .int .u64 (num rt), u 14, u 15, u 16, .pointer (some ⟨b17, 0, none⟩), u 18, .slice (some ⟨g1, q1, none⟩) (n1 + 1) kc1, u 20, u 21, .slice (some ⟨g3, q3, none⟩) (n3 + 1) kc3, u 23, u 24, u 25, u 26, u 27, u 28, .pointer (some ⟨b29, 0, none⟩), .pointer (some ⟨b30, 0, none⟩), u 31, u 32, u 33, u 34, u 35, u 36, u 37, u 38, u 39, u 40, u 41, u 42, u 43, u 44, u 45, u 46, u 47, u 48, u 49, u 50, u 51, u 52, u 53, u 54, u 55, u 56, u 57, u 58, u 59, u 60, u 61, u 62, u 63, u 64, u 65, u 66, u 67, u 68, u 69, u 70, u 71, u 72, u 73, u 74, u 75, u 76, u 77, u 78, u 79, u 80, u 81, u 82, u 83, u 84, u 85, u 86, u 87, u 88, u 89, u 90, u 91, u 92, u 93, u 94, u 95, u 96, u 97, u 98, u 99, u 100, u 101, u 102, u 103, u 104, u 105, u 106, u 107, u 108, u 109, u 110, u 111, u 112, u 113, u 114, u 115, u 116, u 117, u 118, u 119, u 120, u 121, u 122, u 123, u 124, u 125, u 126, u 127, u 128, u 129, u 130, u 131, u 132, u 133, u 134, u 135, u 136, u 137, u 138, u 139, u 140, u 141, u 142, u 143, u 144, u 145, u 146, u 147, u 148, u 149, u 150, u 151, u 152, u 153, u 154, u 155, u 156, u 157, u 158, u 159, u 160, u 161, u 162, u 163, u 164, u 165, u 166, u 167, u 168, u 169, u 170, u 171, u 172, u 173, u 174, u 175, u 176, u 177, u 178, u 179, u 180, u 181, u 182, u 183, u 184, u 185, u 186, u 187, u 188, u 189, u 190, u 191, u 192, u 193, u 194, u 195, u 196, u 197, u 198, u 199, u 200, u 201, u 202, u 203, u 204, u 205, u 206, u 207, u 208, u 209, u 210, u 211, u 212, u 213, u 214, u 215, u 216, u 217, u 218, u 219, u 220, u 221, u 222, u 223, u 224, u 225, u 226, u 227, u 228, u 229, u 230, u 231, u 232, u 233, u 234, u 235, u 236, u 237, u 238, u 239, u 240, u 241, u 242, u 243, u 244, u 245, u 246, u 247, u 248, u 249, u 250, u 251, u 252, u 253, u 254, u 255, u 256, u 257, u 258, u 259, u 260, u 261, u 262, u 263, u 264, u 265, u 266, u 267, u 268, u 269, u 270, u 271, u 272, u 273], defers := [] }) ?_ ?_
          · refine wp_region_schedB (B := NH) (fun X => Cel X g1 (q1 + n1 * 3) 3 (opF u1) ∧ Cel X g3 (q3 + n3 * 3) 3 (opF u3) ∧ Below NH wr X ∧ NH ≤ X.heap.size) (.two [0, 1, 2, 3, 4, 5, 6, 7, 8, 9, 10, 11] 12 (.one [] 13 (.one [] 14 (.one [] 15 (.done [])))) 13 (.one [] 12 (.one [] 14 (.one [] 15 (.done []))))) (by kernel_rfl) (by kernel_rfl) (fun _ _ _ _ _ h => h) ⟨e1.later (Below.refl _ _).drew, e3.later (Below.refl _ _).drew, (Below.refl _ _).drew, Nat.le_of_eq HNBL.out.symm⟩ ?_
            clear e1 e3
            rintro X ⟨e1, e3, hN, hZ⟩
            rw [wpSchedB]
            simp only [pick, List.map_cons, List.map_nil, Array.getD_eq_getD_getElem?, List.getElem?_toArray, List.getElem?_cons_succ, List.getElem?_cons_zero, Option.getD_some]
            have r5 := cel_B (B := NH) (t := 66) e1 lg1 (fun X h => run_loadOp h)
            have r11 := cel_B (B := NH) (t := 66) e3 lg3 (fun X h => run_loadOp h)
            iterate 5 (first | go_big_quiet_step (fail) | quiet_step (fail))
            (refine wpQuiet_loadN rfl _ (.tmp 167) rfl (b := g1) (q := q1 + n1 * 3) rfl r5 ?_; try simp only [Act.put, List.setIfInBounds_toArray, List.set_cons_zero, List.set_cons_succ])
            iterate 5 (first | go_big_quiet_step (fail) | quiet_step (fail))
            (refine wpQuiet_loadN rfl _ (.tmp 173) rfl (b := g3) (q := q3 + n3 * 3) rfl r11 ?_; try simp only [Act.put, List.setIfInBounds_toArray, List.set_cons_zero, List.set_cons_succ])
            refine wpQuiet_nil ?_
            clear r5 r11 e1 e3
            refine ⟨?_, ?_⟩
            · refine heavyB_want (by rfl) (fun K' hK' => ?_)
              refine wp_allocAt _ rfl op_zero ?_
              intro X1 g29 hb hz9
              refine hK' _ _ (hb.mono hZ) ?_
              clear hK' K'
              replace hN := hN.trans (hb.mono hZ)
              have zz29 := hZ
              replace hZ := Nat.le_trans hZ hb.size
              obtain ⟨b29, e29⟩ : ∃ b, X.heap.size = b := ⟨_, rfl⟩
              rw [e29] at g29 zz29 hz9 ⊢
              have l29 := World.block_lt_of_cell? _ _ (g29.at 0 (by omega)).1
              simp only at l29
              clear hb e29 hz9
              try simp only [Act.put, List.setIfInBounds_toArray, List.set_cons_zero, List.set_cons_succ]
              rw [wpSchedB]
              simp only [pick, List.map_nil, Array.getD_eq_getD_getElem?, List.getElem?_toArray, List.getElem?_cons_succ, List.getElem?_cons_zero, Option.getD_some]
              refine wpQuiet_nil ?_
              refine heavyB_want (by rfl) (fun K' hK' => ?_)
              refine wp_allocAt _ rfl op_zero ?_
              intro X2 g30 hb hz9
              refine hK' _ _ (hb.mono hZ) ?_
              clear hK' K'
              replace g29 := g29.later hb
              have ne : X1.heap.size ≠ b29 := by omega
              replace hN := hN.trans (hb.mono hZ)
              have zz30 := hZ
              replace hZ := Nat.le_trans hZ hb.size
              obtain ⟨b30, e30⟩ : ∃ b, X1.heap.size = b := ⟨_, rfl⟩
              rw [e30] at g30 zz30 hz9 ne ⊢
              have l30 := World.block_lt_of_cell? _ _ (g30.at 0 (by omega)).1
              simp only at l30
              clear hb e30 hz9
              try simp only [Act.put, List.setIfInBounds_toArray, List.set_cons_zero, List.set_cons_succ]
              rw [wpSchedB]
              simp only [pick, List.map_nil, Array.getD_eq_getD_getElem?, List.getElem?_toArray, List.getElem?_cons_succ, List.getElem?_cons_zero, Option.getD_some]
              refine wpQuiet_nil ?_
              refine heavyB_want (by rfl) (fun K' hK' => ?_)
              refine wp_storeAt rfl _ (.tmp 29) (.tmp 168) rfl (b := b29) (q := 0) rfl (v := opF u1) rfl g29 (fun j _ => opF_one _ _) op_size ?_
              intro X3 uu
              refine hK' _ _ (uu.below _ _ zz29 (Below.refl _ _)) ?_
              clear hK' K'
              replace g30 := uu.other (.inl (by omega)) g30
              replace hN := uu.below _ _ zz29 hN
              replace g29 := uu.blk
              clear uu
              try simp only [Act.put, List.setIfInBounds_toArray, List.set_cons_zero, List.set_cons_succ]
              rw [wpSchedB]
              simp only [pick, List.map_nil, Array.getD_eq_getD_getElem?, List.getElem?_toArray, List.getElem?_cons_succ, List.getElem?_cons_zero, Option.getD_some]
              refine wpQuiet_nil ?_
              refine heavyB_want (by rfl) (fun K' hK' => ?_)
              refine wp_storeAt rfl _ (.tmp 30) (.tmp 174) rfl (b := b30) (q := 0) rfl (v := opF u3) rfl g30 (fun j _ => opF_one _ _) op_size ?_
              intro X4 uu
              refine hK' _ _ (uu.below _ _ zz30 (Below.refl _ _)) ?_
              clear hK' K'
              replace g29 := uu.other (.inl (by omega)) g29
              replace hN := uu.below _ _ zz30 hN
              replace g30 := uu.blk
              clear uu
              try simp only [Act.put, List.setIfInBounds_toArray, List.set_cons_zero, List.set_cons_succ]
              rw [wpSchedB]
              simp only [pick, List.map_nil, Array.getD_eq_getD_getElem?, List.getElem?_toArray, List.getElem?_cons_succ, List.getElem?_cons_zero, Option.getD_some]
              refine wpQuiet_nil ?_
              exact NormQ.mk ⟨b29, b30, ⟨by omega, zz29, zz30⟩, g29, g30, hN, ex_frame (by kernel_rfl)⟩
            · refine heavyB_want (by rfl) (fun K' hK' => ?_)
              refine wp_allocAt _ rfl op_zero ?_
              intro X1 g30 hb hz9
              refine hK' _ _ (hb.mono hZ) ?_
              clear hK' K'
              replace hN := hN.trans (hb.mono hZ)
              have zz30 := hZ
              replace hZ := Nat.le_trans hZ hb.size
              obtain ⟨b30, e30⟩ : ∃ b, X.heap.size = b := ⟨_, rfl⟩
              rw [e30] at g30 zz30 hz9 ⊢
              have l30 := World.block_lt_of_cell? _ _ (g30.at 0 (by omega)).1
              simp only at l30
              clear hb e30 hz9
              try simp only [Act.put, List.setIfInBounds_toArray, List.set_cons_zero, List.set_cons_succ]
              rw [wpSchedB]
              simp only [pick, List.map_nil, Array.getD_eq_getD_getElem?, List.getElem?_toArray, List.getElem?_cons_succ, List.getElem?_cons_zero, Option.getD_some]
              refine wpQuiet_nil ?_
              refine heavyB_want (by rfl) (fun K' hK' => ?_)
              refine wp_allocAt _ rfl op_zero ?_
              intro X2 g29 hb hz9
              refine hK' _ _ (hb.mono hZ) ?_
              clear hK' K'
              replace g30 := g30.later hb
              have ne : X1.heap.size ≠ b30 := by omega
              replace hN := hN.trans (hb.mono hZ)
              have zz29 := hZ
              replace hZ := Nat.le_trans hZ hb.size
              obtain ⟨b29, e29⟩ : ∃ b, X1.heap.size = b := ⟨_, rfl⟩
              rw [e29] at g29 zz29 hz9 ne ⊢
              have l29 := World.block_lt_of_cell? _ _ (g29.at 0 (by omega)).1
              simp only at l29
              clear hb e29 hz9
              try simp only [Act.put, List.setIfInBounds_toArray, List.set_cons_zero, List.set_cons_succ]
              rw [wpSchedB]
              simp only [pick, List.map_nil, Array.getD_eq_getD_getElem?, List.getElem?_toArray, List.getElem?_cons_succ, List.getElem?_cons_zero, Option.getD_some]
              refine wpQuiet_nil ?_
              refine heavyB_want (by rfl) (fun K' hK' => ?_)
              refine wp_storeAt rfl _ (.tmp 29) (.tmp 168) rfl (b := b29) (q := 0) rfl (v := opF u1) rfl g29 (fun j _ => opF_one _ _) op_size ?_
              intro X3 uu
              refine hK' _ _ (uu.below _ _ zz29 (Below.refl _ _)) ?_
              clear hK' K'
              replace g30 := uu.other (.inl (by omega)) g30
              replace hN := uu.below _ _ zz29 hN
              replace g29 := uu.blk
              clear uu
              try simp only [Act.put, List.setIfInBounds_toArray, List.set_cons_zero, List.set_cons_succ]
              rw [wpSchedB]
              simp only [pick, List.map_nil, Array.getD_eq_getD_getElem?, List.getElem?_toArray, List.getElem?_cons_succ, List.getElem?_cons_zero, Option.getD_some]
              refine wpQuiet_nil ?_
              refine heavyB_want (by rfl) (fun K' hK' => ?_)
              refine wp_storeAt rfl _ (.tmp 30) (.tmp 174) rfl (b := b30) (q := 0) rfl (v := opF u3) rfl g30 (fun j _ => opF_one _ _) op_size ?_
              intro X4 uu
              refine hK' _ _ (uu.below _ _ zz30 (Below.refl _ _)) ?_
              clear hK' K'
              replace g29 := uu.other (.inl (by omega)) g29
              replace hN := uu.below _ _ zz30 hN
              replace g30 := uu.blk
              clear uu
              try simp only [Act.put, List.setIfInBounds_toArray, List.set_cons_zero, List.set_cons_succ]
              rw [wpSchedB]
              simp only [pick, List.map_nil, Array.getD_eq_getD_getElem?, List.getElem?_toArray, List.getElem?_cons_succ, List.getElem?_cons_zero, Option.getD_some]
              refine wpQuiet_nil ?_
              exact NormQ.mk ⟨b29, b30, ⟨by omega, zz29, zz30⟩, g29, g30, hN, ex_frame (by kernel_rfl)⟩
          rintro a' V3 ⟨b29, b30, ⟨ne, z29, z30⟩, g29, g30, hN, u, rfl⟩
          have hb : Below wr.heap.size wr V3 := by rw [HNBL.out]; exact hN
          have m30 : b1 < b30 := by have := HNBL.out; have := z1.2; omega
          clear hN ne z29 z30 HQ1 HQ3 HQ1b HQ3b e1 e3
          replace dt1 := dt1.later hb
          replace dt3 := dt3.later hb
          replace f1 := (hb.frozen (p := ⟨b1, 0, none⟩) z1.2).trans f1
          replace z1 := And.intro z1.1 (Nat.lt_of_lt_of_le z1.2 hb.size)
          replace c1 := later hb c1
          replace iB := iB.later hb
          replace a_b17 := a_b17.later hb
          replace hs2 := hs2.later hb
          replace o1 := o1.later hb
          replace o3 := o3.later hb
          replace hB := hB.trans (hb.mono hB.size)
          clear hb
          try dsimp only
          go_wp2_with fail
          have hl1 : u1.d.length = 14 := by rw [FD1.out]; exact Ld.rbytes_len _
          obtain ⟨gd1, od1, hx1, hc1⟩ : ∃ g o, u1.x = some ⟨g, o, none⟩ ∧ ∀ i, i < 14 → V3.cell? ⟨g, o + i, none⟩ = some (encB (u1.d.getD i 0)) := by
            rcases dt1 with h | ⟨g, o, h1, h2⟩
            · rw [h] at hl1; cases hl1
            · exact ⟨g, o, h1, fun i hi => h2 i (by rw [hl1]; exact hi)⟩
          have v10 : V3.cell? ⟨gd1, od1, none⟩ = some (.int .u8 1) := by have := hc1 0 (by omega); rw [FD1.out] at this; exact this
          have v14 : V3.cell? ⟨gd1, od1 + 4, none⟩ = some (.int .u8 0) := by have := hc1 4 (by omega); rw [FD1.out] at this; exact this
          have v15 : V3.cell? ⟨gd1, od1 + 5, none⟩ = some (.int .u8 (n1 : Int)) := by have := hc1 5 (by omega); rw [FD1.out, (Ld.rb_at _ _ _ _).2.2] at this; rw [this]; unfold encB; rw [u8n (by omega)]
          have w10 : V3.cell? ⟨b29, 0, none⟩ = some (.int .i64 0) := by have := (g29.at 0 (by omega)).1; rw [this]; show some (Value.int .i64 u1.blk) = _; rw [FB1.out]; rfl
          have w12 : V3.cell? ⟨b29, 2, none⟩ = some (.slice (some ⟨gd1, od1, none⟩) 14 u1.c) := by have := (g29.at 2 (by omega)).1; rw [this]; show some (Value.slice u1.x u1.d.length u1.c) = _; rw [hx1, hl1]
          clear hc1 hx1 hl1 dt1 g29
          have hl3 : u3.d.length = 14 := by rw [FD3.out]; exact Ld.rbytes_len _
          obtain ⟨gd3, od3, hx3, hc3⟩ : ∃ g o, u3.x = some ⟨g, o, none⟩ ∧ ∀ i, i < 14 → V3.cell? ⟨g, o + i, none⟩ = some (encB (u3.d.getD i 0)) := by
            rcases dt3 with h | ⟨g, o, h1, h2⟩
            · rw [h] at hl3; cases hl3
            · exact ⟨g, o, h1, fun i hi => h2 i (by rw [hl3]; exact hi)⟩
          have v30 : V3.cell? ⟨gd3, od3, none⟩ = some (.int .u8 2) := by have := hc3 0 (by omega); rw [FD3.out] at this; exact this
          have v34 : V3.cell? ⟨gd3, od3 + 4, none⟩ = some (.int .u8 1) := by have := hc3 4 (by omega); rw [FD3.out] at this; exact this
          have v35 : V3.cell? ⟨gd3, od3 + 5, none⟩ = some (.int .u8 (n3 : Int)) := by have := hc3 5 (by omega); rw [FD3.out, (Ld.rb_at _ _ _ _).2.2] at this; rw [this]; unfold encB; rw [u8n (by omega)]
          have w30 : V3.cell? ⟨b30, 0, none⟩ = some (.int .i64 1) := by have := (g30.at 0 (by omega)).1; rw [this]; show some (Value.int .i64 u3.blk) = _; rw [FB3.out]; rfl
          have w32 : V3.cell? ⟨b30, 2, none⟩ = some (.slice (some ⟨gd3, od3, none⟩) 14 u3.c) := by have := (g30.at 2 (by omega)).1; rw [this]; show some (Value.slice u3.x u3.d.length u3.c) = _; rw [hx3, hl3]
          clear hc3 hx3 hl3 dt3 g30
          have hr := Below.refl V3.heap.size V3
          have HQ1 : IntKind.i64.wrap (((n1 + 1 : Nat) : Int) - 1) = (n1 : Int) := wrQ hn16
          have HQ3 : IntKind.i64.wrap (((n3 + 1 : Nat) : Int) - 1) = (n3 : Int) := wrQ hn36
          have HQ1b : IntKind.i64.wrap ((n1 : Int) + 1 - 1) = (n1 : Int) := wrQ2 hn16
          have HQ3b : IntKind.i64.wrap ((n3 : Int) + 1 - 1) = (n3 : Int) := wrQ2 hn36
          have HQ5 : IntKind.i64.wrap (n1 : Int) = (n1 : Int) := wrQ3 hn16
          have HQ6 : IntKind.i64.wrap (n3 : Int) = (n3 : Int) := wrQ3 hn36
          have HQ7 : IntKind.i64.wrap ((0 : Int) + 1) = 1 := by decide
          have HQ8 : IntKind.u8.wrap ((0 : Int) + 1) = 1 := by decide
          simp only [List.append_eq, List.cons_append, List.nil_append]
          refine wp_cutN (fun a' W => W.cell? ⟨b30, 0, none⟩ = some (.int .i64 1) ∧ Below V3.heap.size V3 W ∧ ∃ u : Nat → Value, a' = { tmps := #[u 0, u 1, u 2, u 3, u 4, u 5, u 6, u 7, u 8, u 9, u 10, .pointer (some ⟨b1, 0, none⟩), u 12, .int .u64 (num rt), u 14, u 15, u 16, .pointer (some ⟨b17, 0, none⟩), u 18, .slice (some ⟨g1, q1, none⟩) (n1 + 1) kc1, u 20, u 21, .slice (some ⟨g3, q3, none⟩) (n3 + 1) kc3, u 23, u 24, u 25, u 26, u 27, u 28, .pointer (some ⟨b29, 0, none⟩), .pointer (some ⟨b30, 0, none⟩), u 31, u 32, u 33, u 34, u 35, u 36, u 37, u 38, u 39, u 40, u 41, u 42, u 43, u 44, u 45, u 46, u 47, u 48, u 49, u 50, u 51, u 52, u 53, u 54, u 55, u 56, u 57, u 58, u 59, u 60, u 61, u 62, u 63, u 64, u 65, u 66, u 67, u 68, u 69, u 70, u 71, u 72, u 73, u 74, u 75, u 76, u 77, u 78, u 79, u 80, u 81, u 82, u 83, u 84, u 85, u 86, u 87, u 88, u 89, u 90, u 91, u 92, u 93, u 94, u 95, u 96, u 97, u 98, u 99, u 100, u 101, u 102, u 103, u 104, u 105, u 106, u 107, u 108, u 109, u 110, u 111, u 112, u 113, u 114, u 115, u 116, u 117, u 118, u 119, u 120, u 121, u 122, u 123, u 124, u 125, u 126, u 127, u 128, u 129, u 130, u 131, u 132, u 133, u 134, u 135, u 136, u 137, u 138, u 139, u 140, u 141, u 142, u 143, u 144, u 145, u 146, u 147, u 148, u 149, u 150, u 151, u 152, u 153, u 154, u 155, u 156, u 157, u 158, u 159, u 160, u 161, u 162, u 163, u 164, u 165, u 166, u 167, u 168, u 169, u 170, u 171, u 172, u 173, u 174, u 175, u 176, u 177, u 178, u 179, u 180, u 181, u 182, u 183, u 184, u 185, u 186, u 187, u 188, u 189, u 190, u 191, u 192, u 193, u 194, u 195, u 196, u 197, u 198, u 199, u 200, u 201, u 202, u 203, u 204, u 205, u 206, u 207, u 208, u 209, u 210, u 211, u 212, u 213, u 214, u 215, u 216, u 217, u 218, u 219, u 220, u 221, u 222, u 223, u 224, u 225, u 226, u 227, u 228, u 229, u 230, u 231, u 232, u 233, u 234, u 235, u 236, u 237, u 238, u 239, .bool false, u 241, u 242, u 243, u 244, u 245, u 246, u 247, u 248, u 249, u 250, u 251, u 252, u 253, u 254, u 255, u 256, u 257, u 258, u 259, u 260, u 261, u 262, u 263, u 264, u 265, u 266, u 267, u 268, u 269, u 270, u 271, u 272, u 273], defers := [] }) ?_ ?_
          · refine wp_region_sched (fun W => W.cell? ⟨gd1, od1, none⟩ = some (.int .u8 1) ∧ W.cell? ⟨gd1, od1 + 4, none⟩ = some (.int .u8 0) ∧ W.cell? ⟨gd1, od1 + 5, none⟩ = some (.int .u8 (n1 : Int)) ∧ W.cell? ⟨b29, 0, none⟩ = some (.int .i64 0) ∧ W.cell? ⟨b29, 2, none⟩ = some (.slice (some ⟨gd1, od1, none⟩) 14 u1.c) ∧ W.cell? ⟨gd3, od3, none⟩ = some (.int .u8 2) ∧ W.cell? ⟨gd3, od3 + 4, none⟩ = some (.int .u8 1) ∧ W.cell? ⟨gd3, od3 + 5, none⟩ = some (.int .u8 (n3 : Int)) ∧ W.cell? ⟨b30, 0, none⟩ = some (.int .i64 1) ∧ W.cell? ⟨b30, 2, none⟩ = some (.slice (some ⟨gd3, od3, none⟩) 14 u3.c) ∧ Below V3.heap.size V3 W) (.done [0, 1, 2, 3, 4, 5, 6, 7, 8, 9, 10, 11, 12, 13, 14, 15, 16, 17, 18, 19, 20, 21, 22, 23, 24, 25, 26, 27, 28, 29, 30, 31, 32, 33, 34, 35, 36, 37, 38, 39, 40, 41, 42, 43, 44, 45, 46, 47, 48, 49, 50, 51, 52, 53, 54, 55, 56, 57, 58, 59, 60, 61, 62, 63, 64, 65]) (by kernel_rfl) (by kernel_rfl) (fun _ _ _ _ _ h => h) ⟨(by go_simp), (by go_simp), (by go_simp), (by go_simp), (by go_simp), (by go_simp), (by go_simp), (by go_simp), (by go_simp), (by go_simp), hr.drew⟩ ?_
            clear v10 v14 v15 w10 w12 v30 v34 v35 w30 w32 hr
            rintro V4 ⟨v10, v14, v15, w10, w12, v30, v34, v35, w30, w32, hr⟩
            rw [wpSched]
            simp only [pick, List.map_cons, List.map_nil, Array.getD_eq_getD_getElem?, List.getElem?_toArray, List.getElem?_cons_succ, List.getElem?_cons_zero, Option.getD_some]
            have kv10 := plusW_cell v10
            have kv14 := plusW_cell v14
            have kv15 := plusW_cell v15
            have kw10 := plusW_cell w10
            have kw12 := plusW_cell w12
            have kv30 := plusW_cell v30
            have kv34 := plusW_cell v34
            have kv35 := plusW_cell v35
            have kw30 := plusW_cell w30
            have kw32 := plusW_cell w32
            iterate 66 (first | go_big_quiet_step (fail) | quiet_step (fail))
            refine wpQuiet_nil ?_
            clear kv10 kv14 kv15 kw10 kw12 kv30 kv34 kv35 kw30 kw32
            exact NormQ.mk ⟨w30, hr, ex_frame (by kernel_rfl)⟩
          clear HQ1 HQ3 HQ1b HQ3b HQ5 HQ6 HQ7 HQ8 v10 v14 v15 v30 v34 v35 w10 w12 w32 w30 hr
          rintro a' V4 ⟨w30, hb, u, rfl⟩
          replace f1 := (hb.frozen (p := ⟨b1, 0, none⟩) z1.2).trans f1
          replace z1 := And.intro z1.1 (Nat.lt_of_lt_of_le z1.2 hb.size)
          replace c1 := later hb c1
          replace iB := iB.later hb
          replace a_b17 := a_b17.later hb
          replace hs2 := hs2.later hb
          replace o1 := o1.later hb
          replace o3 := o3.later hb
          replace hB := hB.trans (hb.mono hB.size)
          clear hb
          try dsimp only
          clear o1
          go_wp2_with fail
          have Z71 := Lib.hid z1.2
          refine (run34 _ (n3 + 1) _ hs2 HRUN.out.st o3 HL3.out (by omega) HVO3.out).mono ?_
          rintro e wR4 ⟨x4_, c4_, rs4_, rfl, hs4, hb⟩
          replace f1 := (hb.frozen (p := ⟨b1, 0, none⟩) z1.2).trans f1
          replace z1 := And.intro z1.1 (Nat.lt_of_lt_of_le z1.2 hb.size)
          replace c1 := later hb c1
          replace iB := iB.later hb
          replace a_b17 := a_b17.later hb
          replace hs2 := hs2.later hb
          replace o3 := o3.later hb
          replace w30 := later hb w30
          replace hB := hB.trans (hb.mono hB.size)
          clear hb
          replace hs4 := hs4.weaken (B' := b1 + 1) (by have := Z71.out; omega)
          clear hs2
          go_wp2_with fail
          have tn : Turns (fun b => b = b1) wR4 (wR4.setCell ⟨b1, 0, none⟩ (.slice x4_ 34 c4_)) := (Turns.refl (fun b => b = b1) wR4).setCell (p := ⟨b1, 0, none⟩) (fun _ => rfl) _
          replace w30 := tn.cell (p := ⟨b30, 0, none⟩) (show ¬ b30 = b1 by omega) w30
          replace c1 : (wR4.setCell ⟨b1, 0, none⟩ (.slice x4_ 34 c4_)).cell? ⟨b1, 0, none⟩ = some (.slice x4_ 34 c4_) := World.cell?_setCell_same' _ _ _ (by rw [c1]; rfl)
          replace f1 : (wR4.setCell ⟨b1, 0, none⟩ (.slice x4_ 34 c4_)).frozen? ⟨b1, 0, none⟩ = false := (World.frozen?_setCell _ _ _ _).trans f1
          replace hs4 := hs4.turn tn (fun b e => by omega)
          replace hB := hB.setCell (p := ⟨b1, 0, none⟩) z1.1 (.slice x4_ 34 c4_)
          replace z1 := And.intro z1.1 (Nat.lt_of_lt_of_le z1.2 tn.size)
          replace a_b17 := a_b17.turn tn (by omega)
          replace o3 := o3.turn tn (fun b h _ e => by omega)
          replace iB : SwIn (wR4.setCell ⟨b1, 0, none⟩ (.slice x4_ 34 c4_)) sB ⟨xb, cb, xpB, cpB⟩ := ⟨by rw [HIMB.out]; exact HXB.out.later hB, iB.2.1, iB.2.2.turn tn (fun p e k => by have := NB.out p e; omega)⟩
          obtain ⟨V4_, hV⟩ : ∃ V, (wR4.setCell ⟨b1, 0, none⟩ (.slice x4_ 34 c4_)) = V := ⟨_, rfl⟩
          rw [hV] at c1 f1 hs4 hB z1 iB a_b17 o3 w30 ⊢
          clear hV tn
          clear o3
          obtain ⟨rr, HNX1⟩ : ∃ r, Ld.Run (runL ls1 os3) rt 0 1 r sB := ⟨_, HNX.out⟩
          refine (rn_r _ _ hs4 HNX1).mono ?_
          rintro e wT ⟨sa32, rfl, i32, _, hb⟩
          replace f1 := (hb.frozen (p := ⟨b1, 0, none⟩) z1.2).trans f1
          replace z1 := And.intro z1.1 (Nat.lt_of_lt_of_le z1.2 hb.size)
          replace c1 := later hb c1
          replace iB := iB.later hb
          replace a_b17 := a_b17.later hb
          replace w30 := later hb w30
          replace hs4 := hs4.later hb
          replace hB := hB.trans (hb.mono hB.size)
          clear hb
          clear hs4 c1
          clear f1 z1
          go_wp2_with (refine wpList_allocTo 32 rfl rfl _ rfl soft_zero ?_; intro Xz0 a_b32 hb0 hz0; refine Hid.out ?_)
          unfold Hid
          try simp only [Act.put, List.setIfInBounds_toArray, List.set_cons_zero, List.set_cons_succ]
          obtain ⟨b32, e_b32⟩ : ∃ a, wT.heap.size = a := ⟨_, rfl⟩
          have s_b32 : wT.heap.size ≤ b32 := by omega
          have hb := hb0
          rw [e_b32] at a_b32 hz0 ⊢
          clear hb0
          have hz : b32 < Xz0.heap.size := by omega
          clear e_b32 hz0
          go_wp2_with (refine wpList_storeB rfl rfl _ (.tmp 32) _ rfl (b := b32) (q := 0) rfl (n := 23) (v := softV sB sa32) rfl a_b32 (fun j _ => soft_one _ _ _) soft_size ?_; intro Yz0 t1; refine Hid.out ?_)
          unfold Hid
          replace hb := t1.below _ _ (by omega) hb
          replace a_b32 := t1.blk
          rw [← t1.size] at hz
          clear t1
          replace iB := iB.later hb
          replace a_b17 := a_b17.later hb
          replace w30 := later hb w30
          replace i32 := i32.later hb
          replace hB := hB.trans (hb.mono hB.size)
          clear hb hz
          clear s_b32
          go_wp2_with (first | (refine wpList_loadN_w rfl _ (.tmp 32) rfl (b := b32) (q := 0) rfl (run_loadSw a_b32) ?_) | (refine wpList_loadN_w rfl _ (.tmp 17) rfl (b := b17) (q := 0) rfl (run_loadSw a_b17) ?_))
          refine (same_soft sB _ _ _ i32 iB HPB.out).mono ?_
          rintro e wU ⟨rfl, hb⟩
          have hBU := hB.trans (hb.mono hB.size)
          clear hb i32 iB a_b17 a_b32 w30 hB
          go_wp2_with fail
          refine (awake_any _).mono ?_
          rintro e wX ⟨rfl, hb⟩
          have hBX := hBU.trans (hb.mono hBU.size)
          clear hb hBU
          go_wp2_with fail
          go_ret
          exact ⟨rfl, hBX⟩

end Go.Proofs.Ytapefonhgkjgnaa
