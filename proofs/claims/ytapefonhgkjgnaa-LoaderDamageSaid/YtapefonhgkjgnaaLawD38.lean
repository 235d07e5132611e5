/- THE LAW LoaderDamage. -/
import Derived.Test.YtapefonhgkjgnaaLdY
set_option maxRecDepth 20000
namespace Go.Proofs.Ytapefonhgkjgnaa
open Go.RowKit

theorem bare_vld (v : Int) (hv : 0 ≤ v ∧ v ≤ 1048576) (im : List UInt8) : (bare [97] v im).vld = decide (im.length ≤ 400) := by
  rw [Bool.eq_iff_iff, Ld.Sw.vld_iff, decide_eq_true_iff]
  unfold bare
  simp
  omega
def anyB (os : List OpV) (k : Int) : Bool := (os.map (·.blk)).any (fun b => b == k)
theorem anyB_succ (os : List OpV) (k : Int) (i : Nat) (h : i < os.length) : anyB (os.take (i + 1)) k = (anyB (os.take i) k || ((os.getD i op0).blk == k)) := by
  unfold anyB
  rw [List.take_succ_eq_append_getElem h, List.map_append, List.any_append, List.getD_eq_getElem?_getD, List.getElem?_eq_getElem h]
  simp
/-- One operation that erases. -/
theorem eraseO {w : World} {g : Nat} (k : Int) (h0 : w.cell? ⟨g, 0, none⟩ = some (.int .i64 k)) (h1 : w.cell? ⟨g, 1, none⟩ = some (.bool true)) (h2 : w.cell? ⟨g, 2, none⟩ = some (.slice none 0 0)) (hk : -9223372036854775808 ≤ k ∧ k ≤ 9223372036854775807) : Ops w (some ⟨g, 0, none⟩) [⟨k, true, none, 0, []⟩] :=
  (cellsO_one ⟨k, true, none, 0, []⟩ h0 h1 h2).ops fun o ho => by
    obtain rfl : o = ⟨k, true, none, 0, []⟩ := by simpa using ho
    exact ⟨.inl rfl, fun _ => rfl, Nat.le_refl _, by show 0 ≤ 9223372036854775807; omega, hk.1, hk.2⟩

set_option maxHeartbeats 4000000 in
theorem damage_law (seed : D64) (xa : Option Addr) (a : List UInt8) (ca : Nat) (xb : Option Addr) (b : List UInt8) (cb : Nat) (at_ : UInt8) (w : World) (hxa : Bts w xa a) (hna : xa = none → ca = 0) (hxb : Bts w xb b) (hnb : xb = none → cb = 0) :
    Calls Try.prog 7 #[.int .u64 (num seed), .slice xa a.length ca, .slice xb b.length cb, .int .u8 (at_.toNat : Int)] w (YesOf w) := by
  have hB := Below.refl w.heap.size w
  have HXA := Lib.hid hxa
  have HXB := Lib.hid hxb
  have HROOT : ∀ W, Calls Try.prog 15 #[.int .u64 (num seed), .int .i64 0] W fun e w' => e = .returned (.tuple #[.int .u64 (num (Sgn.node seed 0 0)), .int .i64 0]) ∧ Below W.heap.size W w' := fun W => root_ok seed 0 (by omega) W
  have HSA : ∀ W, Bts W xa a → Calls Try.prog 16 #[.int .u64 (num seed), .int .i64 0, .int .i64 0, .string ⟨#[97]⟩, .int .i64 1, .slice xa a.length ca] W (SigOf (sgnS seed 0 0 [97] 1 a) (decide (a.length ≤ 400)) xa ca W) := fun W h => by
    have := signed_any seed 0 0 [97] 1 a xa ca W (by omega) (by decide) h hna
    rw [bare_vld 1 (by omega)] at this
    exact this
  have HSB : ∀ W, Bts W xb b → Calls Try.prog 16 #[.int .u64 (num seed), .int .i64 0, .int .i64 0, .string ⟨#[97]⟩, .int .i64 2, .slice xb b.length cb] W (SigOf (sgnS seed 0 0 [97] 2 b) (decide (b.length ≤ 400)) xb cb W) := fun W h => by
    have := signed_any seed 0 0 [97] 2 b xb cb W (by omega) (by decide) h hnb
    rw [bare_vld 2 (by omega)] at this
    exact this
  have VA : Hid (a.length ≤ 400 → (sgnS seed 0 0 [97] 1 a).vld = true ∧ Ld.genu (sgnS seed 0 0 [97] 1 a) (Sgn.node seed 0 0) 0 = true) := fun h => by
    have hv : (bare [97] 1 a).vld = true := by rw [bare_vld 1 (by omega)]; exact decide_eq_true h
    exact ⟨(sgn_vld (by omega) (by decide) _ _ _).trans hv, sgn_genu (seed := seed) (h := 0) (q := 0) (by omega) (by decide) [97] 1 a hv⟩
  have VB : Hid (b.length ≤ 400 → (sgnS seed 0 0 [97] 2 b).vld = true ∧ Ld.genu (sgnS seed 0 0 [97] 2 b) (Sgn.node seed 0 0) 0 = true) := fun h => by
    have hv : (bare [97] 2 b).vld = true := by rw [bare_vld 2 (by omega)]; exact decide_eq_true h
    exact ⟨(sgn_vld (by omega) (by decide) _ _ _).trans hv, sgn_genu (seed := seed) (h := 0) (q := 0) (by omega) (by decide) [97] 2 b hv⟩
  have HNA := Lib.hid (sgn_N seed 0 0 [97] 1 a)
  have HNB := Lib.hid (sgn_N seed 0 0 [97] 2 b)
  have HPA := Lib.hid (show (sgnS seed 0 0 [97] 1 a).path.length ≤ 100 by unfold sgnS; rw [Sgn.path_length]; omega)
  have HPB := Lib.hid (show (sgnS seed 0 0 [97] 2 b).path.length ≤ 100 by unfold sgnS; rw [Sgn.path_length]; omega)
  have HVER := Lib.hid (show (sgnS seed 0 0 [97] 1 a).ver < (sgnS seed 0 0 [97] 2 b).ver by show (1 : Int) < 2; omega)
  have HIMA : Hid ((sgnS seed 0 0 [97] 1 a).img = a) := rfl
  have HIMB : Hid ((sgnS seed 0 0 [97] 2 b).img = b) := rfl
  obtain ⟨rt, hrt⟩ : ∃ r, Sgn.node seed 0 0 = r := ⟨_, rfl⟩
  rw [hrt] at HROOT VA VB
  clear hrt
  obtain ⟨sA, hsA⟩ : ∃ r, sgnS seed 0 0 [97] 1 a = r := ⟨_, rfl⟩
  rw [hsA] at HSA VA HNA HPA HVER HIMA
  clear hsA
  obtain ⟨sB, hsB⟩ : ∃ r, sgnS seed 0 0 [97] 2 b = r := ⟨_, rfl⟩
  rw [hsB] at HSB VB HNB HPB HVER HIMB
  clear hsB
  obtain ⟨la, hla⟩ : ∃ n, a.length = n := ⟨_, rfl⟩
  obtain ⟨lb, hlb⟩ : ∃ n, b.length = n := ⟨_, rfl⟩
  rw [hla] at HSA VA ⊢
  rw [hlb] at HSB VB ⊢
  clear hla hlb hna hnb hxa hxb
  have HST0 := Lib.hid Ld.idle_new
  have HE0' : ∃ l, List.replicate 34 erasedL = l := ⟨_, rfl⟩
  obtain ⟨E0, hE0⟩ := HE0'
  rw [hE0] at HST0
  have HE0 := Lib.hid hE0
  clear hE0
  go_enter Try.func7, Try.ntmps7
  go_wp2_with fail
  refine (new34 _).mono ?_
  rintro e wN ⟨x1, c1_, rs1, rfl, hs, hb⟩
  replace hB := hB.trans (hb.mono hB.size)
  clear hb
  rw [HE0.out] at hs
  have Z0 := Lib.hid hB.size
  go_wp2_with fail
  have hb := al (Below.refl _ wN) (.cells #[.slice x1 34 c1_] 33)
  have c1 : (wN.alloc (.cells #[.slice x1 34 c1_] 33)).cell? ⟨wN.heap.size, 0, none⟩ = some (.slice x1 34 c1_) := cell_new wN _ _ _ 0
  have f1 := frozen_new wN #[.slice x1 34 c1_] 33 0
  have hlt : wN.heap.size < (wN.alloc (.cells #[.slice x1 34 c1_] 33)).heap.size := by simp
  obtain ⟨b1, e_b1⟩ : ∃ b, wN.heap.size = b := ⟨_, rfl⟩
  obtain ⟨V1, hV⟩ : ∃ V, wN.alloc (.cells #[.slice x1 34 c1_] 33) = V := ⟨_, rfl⟩
  rw [hV] at hb hlt c1 f1 ⊢
  try rw [e_b1] at hlt c1 f1 ⊢
  clear hV
  replace hs := hs.later hb
  replace hB := hB.trans (hb.mono hB.size)
  clear hb
  have z1 : w.heap.size ≤ b1 ∧ b1 < V1.heap.size := ⟨by rw [← e_b1]; exact Z0.out, hlt⟩
  clear hlt e_b1
  refine (HROOT _).mono ?_
  rintro e w2 ⟨rfl, hb⟩
  replace f1 := (hb.frozen (p := ⟨b1, 0, none⟩) z1.2).trans f1
  replace z1 := And.intro z1.1 (Nat.lt_of_lt_of_le z1.2 hb.size)
  replace hs := hs.later hb
  replace c1 := later hb c1
  replace hB := hB.trans (hb.mono hB.size)
  clear hb
  go_wp2_with fail
  have Z1 := Lib.hid z1.2
  refine (HSA _ (HXA.out.later hB)).mono ?_
  rintro e wSA ⟨xpA, cpA, rfl, iA, nA, hb⟩
  replace f1 := (hb.frozen (p := ⟨b1, 0, none⟩) z1.2).trans f1
  replace z1 := And.intro z1.1 (Nat.lt_of_lt_of_le z1.2 hb.size)
  replace hs := hs.later hb
  replace c1 := later hb c1
  replace hB := hB.trans (hb.mono hB.size)
  clear hb
  have NA : Hid (∀ p, xpA = some p → b1 < p.block) := fun p e => by have := nA p e; have := Z1.out; omega
  clear nA
  have Z2 := Lib.hid z1.2
  go_wp2_with (refine wpList_allocTo 13 rfl rfl _ rfl soft_zero ?_; intro XA0 a_b13 hb0 hz0; refine Hid.out ?_)
  unfold Hid
  try simp only [Act.put, List.setIfInBounds_toArray, List.set_cons_zero, List.set_cons_succ]
  obtain ⟨b13, e_b13⟩ : ∃ a, wSA.heap.size = a := ⟨_, rfl⟩
  have s_b13 : wSA.heap.size ≤ b13 := by omega
  have hb := hb0
  rw [e_b13] at a_b13 hz0 ⊢
  clear hb0
  have hz : b13 < XA0.heap.size := by omega
  clear e_b13 hz0
  go_wp2_with (refine wpList_storeB rfl rfl _ (.tmp 13) _ rfl (b := b13) (q := 0) rfl (n := 23) (v := softV sA ⟨xa, ca, xpA, cpA⟩) rfl a_b13 (fun j _ => soft_one _ _ _) soft_size ?_; intro YA0 t1; refine Hid.out ?_)
  unfold Hid
  replace hb := t1.below _ _ (by omega) hb
  replace a_b13 := t1.blk
  rw [← t1.size] at hz
  clear t1
  replace hs := hs.later hb
  replace c1 := later hb c1
  replace iA := iA.later hb
  replace f1 := (hb.frozen (p := ⟨b1, 0, none⟩) z1.2).trans f1
  replace z1 := And.intro z1.1 (Nat.lt_of_lt_of_le z1.2 hb.size)
  replace hB := hB.trans (hb.mono hB.size)
  clear hb hz
  have m_b13 : b1 < b13 := by have := Z2.out; omega
  clear s_b13
  go_wp2_with fail
  have Z3 := Lib.hid z1.2
  refine (HSB _ (HXB.out.later hB)).mono ?_
  rintro e wSB ⟨xpB, cpB, rfl, iB, nB, hb⟩
  replace f1 := (hb.frozen (p := ⟨b1, 0, none⟩) z1.2).trans f1
  replace z1 := And.intro z1.1 (Nat.lt_of_lt_of_le z1.2 hb.size)
  replace hs := hs.later hb
  replace c1 := later hb c1
  replace iA := iA.later hb
  replace a_b13 := a_b13.later hb
  replace hB := hB.trans (hb.mono hB.size)
  clear hb
  have NB : Hid (∀ p, xpB = some p → b1 < p.block) := fun p e => by have := nB p e; have := Z3.out; omega
  clear nB
  have Z4 := Lib.hid z1.2
  go_wp2_with (refine wpList_allocTo 15 rfl rfl _ rfl soft_zero ?_; intro XB0 a_b15 hb0 hz0; refine Hid.out ?_)
  unfold Hid
  try simp only [Act.put, List.setIfInBounds_toArray, List.set_cons_zero, List.set_cons_succ]
  obtain ⟨b15, e_b15⟩ : ∃ a, wSB.heap.size = a := ⟨_, rfl⟩
  have s_b15 : wSB.heap.size ≤ b15 := by omega
  have hb := hb0
  rw [e_b15] at a_b15 hz0 ⊢
  clear hb0
  have hz : b15 < XB0.heap.size := by omega
  clear e_b15 hz0
  go_wp2_with (refine wpList_storeB rfl rfl _ (.tmp 15) _ rfl (b := b15) (q := 0) rfl (n := 23) (v := softV sB ⟨xb, cb, xpB, cpB⟩) rfl a_b15 (fun j _ => soft_one _ _ _) soft_size ?_; intro YB0 t1; refine Hid.out ?_)
  unfold Hid
  replace hb := t1.below _ _ (by omega) hb
  replace a_b15 := t1.blk
  rw [← t1.size] at hz
  clear t1
  replace hs := hs.later hb
  replace c1 := later hb c1
  replace iA := iA.later hb
  replace a_b13 := a_b13.later hb
  replace iB := iB.later hb
  replace f1 := (hb.frozen (p := ⟨b1, 0, none⟩) z1.2).trans f1
  replace z1 := And.intro z1.1 (Nat.lt_of_lt_of_le z1.2 hb.size)
  replace hB := hB.trans (hb.mono hB.size)
  clear hb hz
  have m_b15 : b1 < b15 := by have := Z4.out; omega
  clear s_b15
  by_cases hA : ¬ la ≤ 400
  · have d1 : decide (la ≤ 400) = false := by simp; omega
    rw [d1]
    clear hs c1 iA a_b13 iB a_b15
    go_wp2_with fail
    all_goals (refine (awake_any _).mono ?_; rintro e wX ⟨rfl, hb⟩; have hBX := hB.trans (hb.mono hB.size); clear hb; go_wp2_with fail; go_ret; exact ⟨rfl, hBX⟩)
  rw [Decidable.not_not] at hA
  have d1 : decide (la ≤ 400) = true := by simp; omega
  rw [d1]
  by_cases hBb : ¬ lb ≤ 400
  · have d2 : decide (lb ≤ 400) = false := by simp; omega
    rw [d2]
    clear hs c1 iA a_b13 iB a_b15
    go_wp2_with fail
    all_goals (refine (awake_any _).mono ?_; rintro e wX ⟨rfl, hb⟩; have hBX := hB.trans (hb.mono hB.size); clear hb; go_wp2_with fail; go_ret; exact ⟨rfl, hBX⟩)
  rw [Decidable.not_not] at hBb
  have d2 : decide (lb ≤ 400) = true := by simp; omega
  rw [d2]
  obtain ⟨hvA, hgA⟩ := VA.out hA
  obtain ⟨hvB, hgB⟩ := VB.out hBb
  have HIA := Lib.hid (Ld.ins_idle HST0.out hvA hgA)
  have HFST := Lib.hid (fun os ho => Ld.run_first (s := sA) (root := rt) (g := 0) (os := os) HST0.out HNA.out hvA hgA ho)
  have HVA := Lib.hid (And.intro hvA hgA)
  have HVB := Lib.hid (And.intro hvB hgB)
  clear hvA hgA hvB hgB VA VB hA hBb
  go_wp2_with (refine wpList_loadN rfl _ (.tmp 13) rfl (b := b13) (q := 0) rfl (run_loadSw a_b13) ?_)
  have Z5 := Lib.hid z1.2
  refine (ins_r _ _ _ hs HST0.out.st iA HIA.out.1).mono ?_
  rintro e wI1 ⟨y1, kc1, os1, rfl, o1, hl1, hm1, hb⟩
  replace f1 := (hb.frozen (p := ⟨b1, 0, none⟩) z1.2).trans f1
  replace z1 := And.intro z1.1 (Nat.lt_of_lt_of_le z1.2 hb.size)
  replace hs := hs.later hb
  replace c1 := later hb c1
  replace iA := iA.later hb
  replace a_b13 := a_b13.later hb
  replace iB := iB.later hb
  replace a_b15 := a_b15.later hb
  replace hB := hB.trans (hb.mono hB.size)
  clear hb
  replace o1 := o1.weaken (B' := b1 + 1) (by have := Z5.out; omega)
  obtain ⟨hrun, hvo⟩ := HFST.out os1 hm1
  obtain ⟨n1, hn1⟩ : ∃ n, Ld.ckN (Ld.form sA) = n := ⟨_, rfl⟩
  have hn16 := (Ld.ckN_form sA HVA.out.1).2.1
  rw [hn1] at hrun hl1 hn16 ⊢
  have HRUN := Lib.hid hrun
  have HL1 := Lib.hid hl1
  have HN1 := Lib.hid hn1
  clear hrun hl1 hn1 hm1
  go_wp2_with fail
  have Z6 := Lib.hid z1.2
  refine (run34 _ (n1 + 1) _ hs HST0.out.st o1 HL1.out (by omega) hvo).mono ?_
  rintro e wR2 ⟨x2_, c2_, rs2_, rfl, hs2, hb⟩
  replace f1 := (hb.frozen (p := ⟨b1, 0, none⟩) z1.2).trans f1
  replace z1 := And.intro z1.1 (Nat.lt_of_lt_of_le z1.2 hb.size)
  replace hs := hs.later hb
  replace c1 := later hb c1
  replace iA := iA.later hb
  replace a_b13 := a_b13.later hb
  replace iB := iB.later hb
  replace a_b15 := a_b15.later hb
  replace o1 := o1.later hb
  replace hB := hB.trans (hb.mono hB.size)
  clear hb
  replace hs2 := hs2.weaken (B' := b1 + 1) (by have := Z6.out; omega)
  clear hs
  go_wp2_with (refine wpList_stopL 29 (.tmp 15) rfl ?_)
  refine ⟨?_⟩
  have tn : Turns (fun b => b = b1) wR2 (wR2.setCell ⟨b1, 0, none⟩ (.slice x2_ 34 c2_)) := (Turns.refl (fun b => b = b1) wR2).setCell (p := ⟨b1, 0, none⟩) (fun _ => rfl) _
  replace c1 : (wR2.setCell ⟨b1, 0, none⟩ (.slice x2_ 34 c2_)).cell? ⟨b1, 0, none⟩ = some (.slice x2_ 34 c2_) := World.cell?_setCell_same' _ _ _ (by rw [c1]; rfl)
  replace f1 : (wR2.setCell ⟨b1, 0, none⟩ (.slice x2_ 34 c2_)).frozen? ⟨b1, 0, none⟩ = false := (World.frozen?_setCell _ _ _ _).trans f1
  replace hs2 := hs2.turn tn (fun b e => by omega)
  replace hB := hB.setCell (p := ⟨b1, 0, none⟩) z1.1 (.slice x2_ 34 c2_)
  replace z1 := And.intro z1.1 (Nat.lt_of_lt_of_le z1.2 tn.size)
  replace a_b13 := a_b13.turn tn (by omega)
  replace a_b15 := a_b15.turn tn (by omega)
  replace o1 := o1.turn tn (fun b h _ e => by omega)
  replace iA : SwIn (wR2.setCell ⟨b1, 0, none⟩ (.slice x2_ 34 c2_)) sA ⟨xa, ca, xpA, cpA⟩ := ⟨by rw [HIMA.out]; exact HXA.out.later hB, iA.2.1, iA.2.2.turn tn (fun p e k => by have := NA.out p e; omega)⟩
  replace iB : SwIn (wR2.setCell ⟨b1, 0, none⟩ (.slice x2_ 34 c2_)) sB ⟨xb, cb, xpB, cpB⟩ := ⟨by rw [HIMB.out]; exact HXB.out.later hB, iB.2.1, iB.2.2.turn tn (fun p e k => by have := NB.out p e; omega)⟩
  obtain ⟨V2_, hV⟩ : ∃ V, (wR2.setCell ⟨b1, 0, none⟩ (.slice x2_ 34 c2_)) = V := ⟨_, rfl⟩
  rw [hV] at c1 f1 hs2 hB z1 iA a_b13 iB a_b15 o1 ⊢
  clear hV tn
  clear hvo
  obtain ⟨ls1, hls1⟩ : ∃ l, runL E0 os1 = l := ⟨_, rfl⟩
  rw [hls1] at hs2 HRUN
  clear hls1
  clear o1
  go_wp2_with (refine wpList_loadN rfl _ (.tmp 15) rfl (b := b15) (q := 0) rfl (run_loadSw a_b15) ?_)
  have Z7 := Lib.hid z1.2
  refine (ins_r _ _ _ hs2 HRUN.out.st iB (Ld.ins_run HRUN.out HVB.out.1 HVB.out.2 HVER.out (by show (1 : Nat) < 4294967295; omega)).1).mono ?_
  rintro e wI3 ⟨y3, kc3, os3, rfl, o3, hl3, hm3, hb⟩
  replace f1 := (hb.frozen (p := ⟨b1, 0, none⟩) z1.2).trans f1
  replace z1 := And.intro z1.1 (Nat.lt_of_lt_of_le z1.2 hb.size)
  replace c1 := later hb c1
  replace iA := iA.later hb
  replace a_b13 := a_b13.later hb
  replace iB := iB.later hb
  replace a_b15 := a_b15.later hb
  replace hs2 := hs2.later hb
  replace hB := hB.trans (hb.mono hB.size)
  clear hb
  replace o3 := o3.weaken (B' := b1 + 1) (by have := Z7.out; omega)
  have hnx := Ld.run_next HRUN.out HNB.out HVB.out.1 HVB.out.2 HVER.out (by show (1 : Nat) < 4294967295; omega) hm3
  have HM3 := Lib.hid hm3
  obtain ⟨n3, hn3⟩ : ∃ n, Ld.ckN (Ld.form sB) + 1 = n := ⟨_, rfl⟩
  have hn36 := (Ld.ckN_form sB HVB.out.1).2.1
  rw [hn3] at hl3 ⊢
  have hn3b : n3 ≤ 17 := by omega
  have HL3 := Lib.hid hl3
  have hvo3 := hnx.2
  have HNX := Lib.hid hnx.1
  clear hnx hn3 hn36 hl3 hm3
  go_wp2_with fail
  have Z8 := Lib.hid z1.2
  refine (run34 _ n3 _ hs2 HRUN.out.st o3 HL3.out (by omega) hvo3).mono ?_
  rintro e wR4 ⟨x4_, c4_, rs4_, rfl, hs4, hb⟩
  replace f1 := (hb.frozen (p := ⟨b1, 0, none⟩) z1.2).trans f1
  replace z1 := And.intro z1.1 (Nat.lt_of_lt_of_le z1.2 hb.size)
  replace c1 := later hb c1
  replace iA := iA.later hb
  replace a_b13 := a_b13.later hb
  replace iB := iB.later hb
  replace a_b15 := a_b15.later hb
  replace hs2 := hs2.later hb
  replace o3 := o3.later hb
  replace hB := hB.trans (hb.mono hB.size)
  clear hb
  replace hs4 := hs4.weaken (B' := b1 + 1) (by have := Z8.out; omega)
  clear hs2
  go_wp2_with fail
  have tn : Turns (fun b => b = b1) wR4 (wR4.setCell ⟨b1, 0, none⟩ (.slice x4_ 34 c4_)) := (Turns.refl (fun b => b = b1) wR4).setCell (p := ⟨b1, 0, none⟩) (fun _ => rfl) _
  replace c1 : (wR4.setCell ⟨b1, 0, none⟩ (.slice x4_ 34 c4_)).cell? ⟨b1, 0, none⟩ = some (.slice x4_ 34 c4_) := World.cell?_setCell_same' _ _ _ (by rw [c1]; rfl)
  replace f1 : (wR4.setCell ⟨b1, 0, none⟩ (.slice x4_ 34 c4_)).frozen? ⟨b1, 0, none⟩ = false := (World.frozen?_setCell _ _ _ _).trans f1
  replace hs4 := hs4.turn tn (fun b e => by omega)
  replace hB := hB.setCell (p := ⟨b1, 0, none⟩) z1.1 (.slice x4_ 34 c4_)
  replace z1 := And.intro z1.1 (Nat.lt_of_lt_of_le z1.2 tn.size)
  replace a_b13 := a_b13.turn tn (by omega)
  replace a_b15 := a_b15.turn tn (by omega)
  replace o3 := o3.turn tn (fun b h _ e => by omega)
  replace iA : SwIn (wR4.setCell ⟨b1, 0, none⟩ (.slice x4_ 34 c4_)) sA ⟨xa, ca, xpA, cpA⟩ := ⟨by rw [HIMA.out]; exact HXA.out.later hB, iA.2.1, iA.2.2.turn tn (fun p e k => by have := NA.out p e; omega)⟩
  replace iB : SwIn (wR4.setCell ⟨b1, 0, none⟩ (.slice x4_ 34 c4_)) sB ⟨xb, cb, xpB, cpB⟩ := ⟨by rw [HIMB.out]; exact HXB.out.later hB, iB.2.1, iB.2.2.turn tn (fun p e k => by have := NB.out p e; omega)⟩
  obtain ⟨V4_, hV⟩ : ∃ V, (wR4.setCell ⟨b1, 0, none⟩ (.slice x4_ 34 c4_)) = V := ⟨_, rfl⟩
  rw [hV] at c1 f1 hs4 hB z1 iA a_b13 iB a_b15 o3 ⊢
  clear hV tn
  clear hvo3
  have HDAM := Lib.hid (fun (kk : Nat) hk e he her hed => Ld.damage HRUN.out HNB.out HVB.out.1 HVB.out.2 HVER.out HM3.out kk hk (e := e) he her hed)
  obtain ⟨ls2, hls2⟩ : ∃ l, runL ls1 os3 = l := ⟨_, rfl⟩
  rw [hls2] at hs4 HDAM HNX
  clear hls2
  obtain ⟨m, hm⟩ : ∃ n, at_.toNat % 34 = n := ⟨_, rfl⟩
  have hm34 : m < 34 := by omega
  have hmm : (at_.toNat : Int) % 34 = (m : Int) := by omega
  have hat := at_.toNat_lt
  have htm : Int.tmod (at_.toNat : Int) 34 = (m : Int) := by rw [Int.tmod_eq_emod_of_nonneg (by omega)]; exact hmm
  obtain ⟨av, hav⟩ : ∃ n : Nat, at_.toNat = n := ⟨_, rfl⟩
  rw [hav] at htm hmm hat ⊢
  have hwa : IntKind.i64.wrap (av : Int) = (av : Int) := by simp [IntKind.wrap, IntKind.bits, IntKind.signed]; omega
  have hw64 : wrap64 (av : Int) = (av : Int) := wrap64_id (by omega)
  clear hm hav
  clear HSA HSB HROOT HFST HIA
  go_wp2_with fail
  clear hwa hw64 htm hmm hat
  have O3 := Lib.hid o3
  clear o3
  obtain ⟨VL, hVL⟩ : ∃ V, V4_ = V := ⟨_, rfl⟩
  subst hVL
  go_loopw [24, 112] (fun u24 u112 wr => ∃ i : Nat, i ≤ n3 ∧ u112 = .int .i64 (i : Int) ∧ u24 = .bool (anyB (os3.take i) (m : Int)) ∧ Below V4_.heap.size V4_ wr) (fun _ u112 _ => n3 - (intOf u112).toNat)
  case atStart => exact ⟨0, by omega, rfl, rfl, Below.refl _ _⟩
  case round =>
    obtain ⟨i, hi, rfl, rfl, hb⟩ := hrel
    by_cases hlt : i < n3
    · have hki : decide ((i : Int) < (n3 : Int)) = true := by simp; omega
      have hsu := anyB_succ os3 (m : Int) i (by rw [HL3.out]; exact hlt)
      obtain ⟨g, q, rfl, hc⟩ : ∃ g q, y3 = some ⟨g, q, none⟩ ∧ ∀ i, i < os3.length → wr.cell? ⟨g, q + i * 3, none⟩ = some (.int .i64 (os3.getD i op0).blk) ∧ wr.cell? ⟨g, q + i * 3 + 1, none⟩ = some (.bool (os3.getD i op0).er) ∧ wr.cell? ⟨g, q + i * 3 + 2, none⟩ = some (.slice (os3.getD i op0).x (os3.getD i op0).d.length (os3.getD i op0).c) := by
        rcases (O3.out.ops.later hb).1 with h | ⟨g, q, h1, h2⟩
        · have := HL3.out; rw [h] at this; simp at this; omega
        · exact ⟨g, q, h1, h2⟩
      obtain ⟨k0, k1, k2⟩ := hc i (by rw [HL3.out]; exact hlt)
      obtain ⟨bk, hbk⟩ : ∃ b, (os3.getD i op0).blk = b := ⟨_, rfl⟩
      obtain ⟨er, her⟩ : ∃ b, (os3.getD i op0).er = b := ⟨_, rfl⟩
      obtain ⟨xd, hxd⟩ : ∃ b, (os3.getD i op0).x = b := ⟨_, rfl⟩
      obtain ⟨nd, hnd⟩ : ∃ b, (os3.getD i op0).d.length = b := ⟨_, rfl⟩
      obtain ⟨cd, hcd⟩ : ∃ b, (os3.getD i op0).c = b := ⟨_, rfl⟩
      rw [hbk] at k0 hsu
      rw [her] at k1
      rw [hxd, hnd, hcd] at k2
      have hbb := al hb (.cells #[.int .i64 bk, .bool er, .slice xd nd cd] 66)
      obtain ⟨h0, hh0⟩ : ∃ b, anyB (os3.take i) (m : Int) = b := ⟨_, rfl⟩
      rw [hh0] at hsu ⊢
      have HSU := Lib.hid hsu
      clear hsu hc hbk her hxd hnd hcd hh0 hb
      cases h0 with
      | true =>
        go_wp2_with fail
        exact ⟨⟨i + 1, by omega, by go_num, by rw [HSU.out]; rfl, hbb⟩, by simp [intOf]; omega⟩
      | false =>
        by_cases he : bk = (m : Int)
        · subst he
          have hq : ((m : Int) == (m : Int)) = true := by simp
          go_wp2_with fail
          exact ⟨⟨i + 1, by omega, by go_num, by rw [HSU.out, hq]; rfl, hbb⟩, by simp [intOf]; omega⟩
        · have hq : (bk == (m : Int)) = false := by simpa using he
          go_wp2_with fail
          exact ⟨⟨i + 1, by omega, by go_num, by rw [HSU.out, hq]; rfl, hbb⟩, by simp [intOf]; omega⟩
    · obtain rfl : i = n3 := by omega
      have hki : decide ((i : Int) < (i : Int)) = false := by simp
      have htk : os3.take i = os3 := List.take_of_length_le (by rw [HL3.out]; exact Nat.le_refl _)
      rw [htk]
      clear htk hki hlt hi O3
      replace f1 := (hb.frozen (p := ⟨b1, 0, none⟩) z1.2).trans f1
      replace z1 := And.intro z1.1 (Nat.lt_of_lt_of_le z1.2 hb.size)
      replace c1 := later hb c1
      replace iA := iA.later hb
      replace a_b13 := a_b13.later hb
      replace iB := iB.later hb
      replace a_b15 := a_b15.later hb
      replace hs4 := hs4.later hb
      replace hB := hB.trans (hb.mono hB.size)
      clear hb
      have hdam := HDAM.out m hm34 ⟨(m : Int), true, none, 0, []⟩ rfl rfl rfl
      have hVO := hdam.2.2.2
      have hST := Lib.hid hdam.2.2.1
      have hD0 := Lib.hid hdam.1
      have hD1 := Lib.hid hdam.2.1
      obtain ⟨hit, hhit⟩ : ∃ b, anyB os3 (m : Int) = b := ⟨_, rfl⟩
      rw [hhit]
      change Hid (anyB os3 (m : Int) = true → _) at hD0
      change Hid (anyB os3 (m : Int) = false → _) at hD1
      rw [hhit] at hD0 hD1
      clear hdam HDAM hhit HM3
      go_wp2_with fail
      have hb := al (Below.refl _ wr) (.cells #[.int .i64 (m : Int), .bool true, .slice none 0 0] 66)
      have heo : Ops (wr.alloc (.cells #[.int .i64 (m : Int), .bool true, .slice none 0 0] 66)) (some ⟨wr.heap.size, 0, none⟩) [⟨(m : Int), true, none, 0, []⟩] := eraseO (m : Int) (cell_new wr _ _ _ 0) (cell_new wr _ _ _ 1) (cell_new wr _ _ _ 2) (by omega)
      obtain ⟨VE, hV⟩ : ∃ V, wr.alloc (.cells #[.int .i64 (m : Int), .bool true, .slice none 0 0] 66) = V := ⟨_, rfl⟩
      rw [hV] at hb heo ⊢
      obtain ⟨bE, hbE⟩ : ∃ b, wr.heap.size = b := ⟨_, rfl⟩
      rw [hbE] at heo ⊢
      clear hV hbE
      replace f1 := (hb.frozen (p := ⟨b1, 0, none⟩) z1.2).trans f1
      replace z1 := And.intro z1.1 (Nat.lt_of_lt_of_le z1.2 hb.size)
      replace c1 := later hb c1
      replace iA := iA.later hb
      replace a_b13 := a_b13.later hb
      replace iB := iB.later hb
      replace a_b15 := a_b15.later hb
      replace hs4 := hs4.later hb
      replace hB := hB.trans (hb.mono hB.size)
      clear hb
      have Z51 := Lib.hid z1.2
      refine (run34o _ 1 _ hs4 hST.out heo (fun h => by cases h) (by constructor <;> simp) rfl (by omega) hVO).mono ?_
      rintro e wQ ⟨x5_, c5_, rs5_, rfl, hs5, hb⟩
      replace f1 := (hb.frozen (p := ⟨b1, 0, none⟩) z1.2).trans f1
      replace z1 := And.intro z1.1 (Nat.lt_of_lt_of_le z1.2 hb.size)
      replace c1 := later hb c1
      replace iA := iA.later hb
      replace a_b13 := a_b13.later hb
      replace iB := iB.later hb
      replace a_b15 := a_b15.later hb
      replace hs4 := hs4.later hb
      replace hB := hB.trans (hb.mono hB.size)
      clear hb
      replace hs5 := hs5.weaken (B' := b1 + 1) (by have := Z51.out; omega)
      clear hs4 heo hVO
      go_wp2_with fail
      have tn : Turns (fun b => b = b1) wQ (wQ.setCell ⟨b1, 0, none⟩ (.slice x5_ 34 c5_)) := (Turns.refl (fun b => b = b1) wQ).setCell (p := ⟨b1, 0, none⟩) (fun _ => rfl) _
      replace hs5 := hs5.turn tn (fun b e => by omega)
      replace hB := hB.setCell (p := ⟨b1, 0, none⟩) z1.1 (.slice x5_ 34 c5_)
      replace a_b13 := a_b13.turn tn (by omega)
      replace a_b15 := a_b15.turn tn (by omega)
      replace iA : SwIn (wQ.setCell ⟨b1, 0, none⟩ (.slice x5_ 34 c5_)) sA ⟨xa, ca, xpA, cpA⟩ := ⟨by rw [HIMA.out]; exact HXA.out.later hB, iA.2.1, iA.2.2.turn tn (fun p e k => by have := NA.out p e; omega)⟩
      replace iB : SwIn (wQ.setCell ⟨b1, 0, none⟩ (.slice x5_ 34 c5_)) sB ⟨xb, cb, xpB, cpB⟩ := ⟨by rw [HIMB.out]; exact HXB.out.later hB, iB.2.1, iB.2.2.turn tn (fun p e k => by have := NB.out p e; omega)⟩
      obtain ⟨VF, hV⟩ : ∃ V, (wQ.setCell ⟨b1, 0, none⟩ (.slice x5_ 34 c5_)) = V := ⟨_, rfl⟩
      rw [hV] at hs5 hB iA iB a_b13 a_b15 ⊢
      clear hV tn c1 f1 z1
      cases hit with
      | false =>
        refine (rn_l _ _ hs5 (hD1.out rfl)).mono ?_
        rintro e wT ⟨sa28, rfl, i28, _, hb⟩
        replace iA := iA.later hb
        replace iB := iB.later hb
        replace a_b13 := a_b13.later hb
        replace a_b15 := a_b15.later hb
        replace hB := hB.trans (hb.mono hB.size)
        clear hb
        clear hs5
        go_wp2_with (refine wpList_allocTo 28 rfl rfl _ rfl soft_zero ?_; intro Xz0 a_b28 hb0 hz0; refine Hid.out ?_)
        unfold Hid
        try simp only [Act.put, List.setIfInBounds_toArray, List.set_cons_zero, List.set_cons_succ]
        obtain ⟨b28, e_b28⟩ : ∃ a, wT.heap.size = a := ⟨_, rfl⟩
        have s_b28 : wT.heap.size ≤ b28 := by omega
        have hb := hb0
        rw [e_b28] at a_b28 hz0 ⊢
        clear hb0
        have hz : b28 < Xz0.heap.size := by omega
        clear e_b28 hz0
        go_wp2_with (refine wpList_storeB rfl rfl _ (.tmp 28) _ rfl (b := b28) (q := 0) rfl (n := 23) (v := softV sB sa28) rfl a_b28 (fun j _ => soft_one _ _ _) soft_size ?_; intro Yz0 t1; refine Hid.out ?_)
        unfold Hid
        replace hb := t1.below _ _ (by omega) hb
        replace a_b28 := t1.blk
        rw [← t1.size] at hz
        clear t1
        replace iA := iA.later hb
        replace iB := iB.later hb
        replace a_b13 := a_b13.later hb
        replace a_b15 := a_b15.later hb
        replace i28 := i28.later hb
        replace hB := hB.trans (hb.mono hB.size)
        clear hb hz
        clear s_b28
        go_wp2_with (first | (refine wpList_loadN_w rfl _ (.tmp 28) rfl (b := b28) (q := 0) rfl (run_loadSw a_b28) ?_) | (refine wpList_loadN_w rfl _ (.tmp 15) rfl (b := b15) (q := 0) rfl (run_loadSw a_b15) ?_))
        refine (same_soft sB _ _ _ i28 iB HPB.out).mono ?_
        rintro e wU ⟨rfl, hb⟩
        have hBU := hB.trans (hb.mono hB.size)
        clear hb i28 iA iB a_b13 a_b15 a_b28 hB
        go_wp2_with fail
        refine (awake_any _).mono ?_
        rintro e wX ⟨rfl, hb⟩
        have hBX := hBU.trans (hb.mono hBU.size)
        clear hb hBU
        go_wp2_with fail
        go_ret
        exact ⟨rfl, hBX⟩
      | true =>
        refine (rn_l _ _ hs5 (hD0.out rfl)).mono ?_
        rintro e wT ⟨sa28, rfl, i28, _, hb⟩
        replace iA := iA.later hb
        replace iB := iB.later hb
        replace a_b13 := a_b13.later hb
        replace a_b15 := a_b15.later hb
        replace hB := hB.trans (hb.mono hB.size)
        clear hb
        clear hs5
        go_wp2_with (refine wpList_allocTo 28 rfl rfl _ rfl soft_zero ?_; intro Xz0 a_b28 hb0 hz0; refine Hid.out ?_)
        unfold Hid
        try simp only [Act.put, List.setIfInBounds_toArray, List.set_cons_zero, List.set_cons_succ]
        obtain ⟨b28, e_b28⟩ : ∃ a, wT.heap.size = a := ⟨_, rfl⟩
        have s_b28 : wT.heap.size ≤ b28 := by omega
        have hb := hb0
        rw [e_b28] at a_b28 hz0 ⊢
        clear hb0
        have hz : b28 < Xz0.heap.size := by omega
        clear e_b28 hz0
        go_wp2_with (refine wpList_storeB rfl rfl _ (.tmp 28) _ rfl (b := b28) (q := 0) rfl (n := 23) (v := softV sA sa28) rfl a_b28 (fun j _ => soft_one _ _ _) soft_size ?_; intro Yz0 t1; refine Hid.out ?_)
        unfold Hid
        replace hb := t1.below _ _ (by omega) hb
        replace a_b28 := t1.blk
        rw [← t1.size] at hz
        clear t1
        replace iA := iA.later hb
        replace iB := iB.later hb
        replace a_b13 := a_b13.later hb
        replace a_b15 := a_b15.later hb
        replace i28 := i28.later hb
        replace hB := hB.trans (hb.mono hB.size)
        clear hb hz
        clear s_b28
        go_wp2_with (first | (refine wpList_loadN_w rfl _ (.tmp 28) rfl (b := b28) (q := 0) rfl (run_loadSw a_b28) ?_) | (refine wpList_loadN_w rfl _ (.tmp 13) rfl (b := b13) (q := 0) rfl (run_loadSw a_b13) ?_))
        refine (same_soft sA _ _ _ i28 iA HPA.out).mono ?_
        rintro e wU ⟨rfl, hb⟩
        have hBU := hB.trans (hb.mono hB.size)
        clear hb i28 iA iB a_b13 a_b15 a_b28 hB
        go_wp2_with fail
        refine (awake_any _).mono ?_
        rintro e wX ⟨rfl, hb⟩
        have hBX := hBU.trans (hb.mono hBU.size)
        clear hb hBU
        go_wp2_with fail
        go_ret
        exact ⟨rfl, hBX⟩

end Go.Proofs.Ytapefonhgkjgnaa
