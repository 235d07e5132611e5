/- WALKS of the loader: Install, where it installs. -/
import Derived.Test.YtapefonhgkjgnaaGreatLdOa
set_option maxRecDepth 20000
namespace Go.Proofs.YtapefonhgkjgnaaGreat
open Go.RowKit
attribute [local go_sem] Oper.semAt_some

theorem cdI_zero {ls : List (List UInt8)} {s : Ld.Sw} {root : D64} {h : Int} (hc : Ld.cdI ls s root h = 0) : Ld.usable ls = true ∧ s.vld = true ∧ Ld.genu s root h = true ∧ (0 ≤ Ld.atR ls root h → (Ld.ldS ls (Ld.atR ls root h).toNat).ver < s.ver ∧ (Ld.ldR ls (Ld.atR ls root h).toNat).number ≠ 4294967295) := by
  unfold Ld.cdI at hc
  by_cases h1 : (Ld.usable ls && s.vld) = true
  · rw [if_pos h1] at hc
    have h1' := h1
    rw [Bool.and_eq_true] at h1'
    by_cases h2 : Ld.genu s root h = true
    · rw [if_pos h2] at hc
      refine ⟨h1'.1, h1'.2, h2, fun h3 => ?_⟩
      rw [if_pos h3] at hc
      by_cases h4 : s.ver ≤ (Ld.ldS ls (Ld.atR ls root h).toNat).ver
      · rw [if_pos h4] at hc; cases hc
      · rw [if_neg h4] at hc
        by_cases h5 : (Ld.ldR ls (Ld.atR ls root h).toNat).number = 4294967295
        · rw [if_pos h5] at hc; cases hc
        · exact ⟨by omega, h5⟩
    · rw [if_neg h2] at hc; cases hc
  · rw [if_neg h1] at hc; cases hc
/-- The next record's bank, number and place. -/
def NextOf (ls : List (List UInt8)) (root : D64) (h : Int) (nb nm to : Nat) : Prop := nb = Ld.nBank ls root h ∧ nm = Ld.nNum ls root h ∧ to = Ld.nTo ls root h
theorem ldR_bounds {ls : List (List UInt8)} {root : D64} {h : Int} (k : 0 ≤ Ld.atR ls root h) : (Ld.ldR ls (Ld.atR ls root h).toNat).bank ≤ 1 ∧ (Ld.atR ls root h = 0 ∨ Ld.atR ls root h = 1) := by
  have hc := atR_cases ls root h
  have h2 : Ld.atR ls root h = 0 ∨ Ld.atR ls root h = 1 := by rcases hc with e | e | e <;> omega
  refine ⟨?_, h2⟩
  have e1 : Ld.atR ls root h = 0 → Ld.okL ls 0 root h = true := fun e => by
    unfold Ld.atR at e
    split at e
    · rename_i q; rw [Bool.and_eq_true] at q; exact q.1
    · split at e <;> omega
  have e2 : Ld.atR ls root h = 1 → Ld.okL ls 1 root h = true := fun e => by
    unfold Ld.atR at e
    split at e
    · omega
    · split at e
      · assumption
      · omega
  rcases h2 with e | e
  · rw [e]; exact (Ld.okL_rec (e1 e)).2.2.1
  · rw [e]; exact (Ld.okL_rec (e2 e)).2.2.1
theorem nat_bound (ls : List (List UInt8)) (i : Nat) : (Ld.ldR ls i).number < 4294967296 := by
  unfold Ld.ldR Ld.recOf
  have := Ld.nat_lt ((rdM ls (i : Int)).take 4)
  have h4 : ((rdM ls (i : Int)).take 4).length ≤ 4 := by rw [List.length_take]; omega
  have hp : 256 ^ ((rdM ls (i : Int)).take 4).length ≤ 256 ^ 4 := Nat.pow_le_pow_right (by decide) h4
  show Ld.nat _ < _
  omega

/-- What the body of the range keeps. -/
def InI (f : List UInt8) (g b13 b17 B nb nm : Nat) (dg : D64) (w : World) (k : Nat) (S : List Nat) (W : World) : Prop :=
  ∃ (y : Option Addr) (cy : Nat) (os : List OpV), S = b13 :: b17 :: rowS y ∧ W.cell? ⟨b17, 0, none⟩ = some (.slice y k cy) ∧ W.frozen? ⟨b17, 0, none⟩ = false ∧ OwnsOp B W y cy os ∧ os.map Ld.opP = (List.range k).map (Ld.ckO f nb) ∧ Blk W b13 0 4 (recF ⟨nb, k, nm, dg⟩) ∧ Bts W (some ⟨g, 0, none⟩) f ∧ Below w.heap.size w W
theorem InI.len {f : List UInt8} {nb k : Nat} {os : List OpV} (h : os.map Ld.opP = (List.range k).map (Ld.ckO f nb)) : os.length = k := by simpa using congrArg List.length h
theorem InI.turn {f : List UInt8} {g b13 b17 B nb nm : Nat} {dg : D64} {w : World} {k : Nat} {S : List Nat} {X Y : World} {T : Nat → Prop} (h : InI f g b13 b17 B nb nm dg w k S X) (ht : Turns T X Y) (hT : ∀ b, T b → w.heap.size ≤ b ∧ b < B ∧ b ≠ b13 ∧ b ≠ b17 ∧ b ≠ g) : InI f g b13 b17 B nb nm dg w k S Y := by
  obtain ⟨y, cy, os, hS, c17, f17, ho, hm, g13, hf, hB⟩ := h
  have n17 : ¬ T b17 := fun e => (hT _ e).2.2.2.1 rfl
  exact ⟨y, cy, os, hS, ht.cell (p := ⟨b17, 0, none⟩) n17 c17, ht.frozen (p := ⟨b17, 0, none⟩) n17 (World.block_lt_of_cell? _ _ c17) f17, ho.turn ht (fun b hb _ e => by have := (hT b e).2.1; omega), hm, g13.turn ht (fun e => (hT _ e).2.2.1 rfl), hf.turn ht (fun a e k => by cases e; exact (hT _ k).2.2.2.2 rfl), hB.trans (ht.below hB.size (fun i hi e => by have := (hT i e).1; omega))⟩

set_option maxHeartbeats 4000000 in
theorem ins_yes (x : Option Addr) (rs : List Rw) (c : Nat) (s : Ld.Sw) (sa : SwA) (root : D64) (h : Int) (w : World) (hs : Rws w x rs) (hn : rs.length ≤ 1000) (hi : SwIn w s sa) (hcd : Ld.cdI (rs.map (·.l)) s root h = 0) :
    Calls Tryz.prog 19 #[.agg #[.slice x rs.length c], aggN 23 (softV s sa), .int .u64 (num root), .int .i64 h] w (InsOf (rs.map (·.l)) s root h w) := by
  have HU := fun (W : World) (hW : Rws W x rs) => usable_any x rs c W hW hn
  have HR := fun (W : World) (hW : Rws W x rs) => running_any x rs c root h W hW hn
  obtain ⟨ls, hls⟩ : ∃ ls, rs.map (·.l) = ls := ⟨_, rfl⟩
  rw [hls] at HU HR hcd ⊢
  obtain ⟨nr, hnr⟩ : ∃ n, rs.length = n := ⟨_, rfl⟩
  rw [hnr] at HU HR ⊢
  clear hls hnr hn
  obtain ⟨u1, u2, u3, u4⟩ := cdI_zero hcd
  have HV := fun (W : World) (hW : SwIn W s sa) => vsoft_any s sa W hW
  have HG := fun (W : World) (hW : SwIn W s sa) => genu_any s sa root h W hW
  have HP := fun (W : World) (hW : SwIn W s sa) => pack_any s sa W hW
  rw [u1] at HU
  rw [u2] at HV
  rw [u3] at HG
  have HFM := Lib.hid (Ld.form_max s u2)
  have e1 : dgC s = 0 := if_pos u2
  have e2 : pkV s = Ld.form s := if_pos u2
  rw [e1, e2] at HP
  have HCD := Lib.hid hcd
  unfold RunOf at HR
  have HAT4 := Lib.hid u4
  have HBND := Lib.hid (@ldR_bounds ls root h)
  have HNB := Lib.hid (nat_bound ls (Ld.atR ls root h).toNat)
  have HNX : Hid (∀ nb nm to : Nat, NextOf ls root h nb nm to → Ld.insP ls s root h = Ld.opsP (Ld.form s) nb (Ld.ckN (Ld.form s)) to (Ld.rbytes ⟨nb, Ld.ckN (Ld.form s), nm, Dig.ofL (Ld.form s)⟩)) := by
    rintro nb nm to ⟨rfl, rfl, rfl⟩
    unfold Ld.insP
    rw [if_pos hcd]
    rfl
  have HN0 : Hid (Ld.atR ls root h < 0 → NextOf ls root h 0 1 0) := fun e => by
    refine ⟨?_, ?_, ?_⟩
    · unfold Ld.nBank; rw [if_neg (by omega)]
    · unfold Ld.nNum; rw [if_neg (by omega)]
    · unfold Ld.nTo; rw [if_neg (by omega)]
  have HN1 : Hid (0 ≤ Ld.atR ls root h → NextOf ls root h (1 - (Ld.ldR ls (Ld.atR ls root h).toNat).bank) ((Ld.ldR ls (Ld.atR ls root h).toNat).number + 1) (1 - (Ld.atR ls root h).toNat)) := fun e => by
    refine ⟨?_, ?_, ?_⟩
    · unfold Ld.nBank; rw [if_pos e]
    · unfold Ld.nNum; rw [if_pos e]
    · unfold Ld.nTo; rw [if_pos e]
  clear hcd u1 u2 u3 u4 e1 e2
  obtain ⟨at_, hat⟩ : ∃ z, Ld.atR ls root h = z := ⟨_, rfl⟩
  rw [hat] at HR HAT4 HBND HNB HN0 HN1
  clear hat
  have hB := Below.refl w.heap.size w
  refine (callsIn_wide (n := 5)).1 ?_
  refine callsIn_of_wp_marks Tryz.func19 rfl trivial ?_ rfl
  simp only [Tryz.ntmps19, List.size_toArray, List.length_cons, List.length_nil, Nat.reduceAdd, Nat.reduceSub, Array.replicate_succ, Array.replicate_zero, List.push_toArray, List.append_toArray, List.nil_append, List.cons_append]
  refine wpIn_wide.2 ?_
  refine wp_seq_k (fun K hK => ?_)
  replace hK := Lib.hid hK
  go_wp2_with (refine wpList_boxN (n := 23) (v := softV s sa) rfl _ _ rfl rfl ?_; intro W5 g5 hb5 hz5; refine Hid.out ?_)
  unfold Hid
  try simp only [Act.put, List.setIfInBounds_toArray, List.set_cons_zero, List.set_cons_succ]
  have hBa := thru (al hB _) hb5
  have c4 := later (a := ⟨w.heap.size, 0, none⟩) (v := .slice x nr c) hb5 (by go_simp)
  simp only [World.size_alloc] at g5 hz5
  obtain ⟨b4, e4⟩ : ∃ b, w.heap.size = b := ⟨_, rfl⟩
  rw [e4] at c4 g5 hz5
  obtain ⟨b5, e5⟩ : ∃ b, b4 + 1 = b := ⟨_, rfl⟩
  rw [e5] at g5 hz5
  simp only [e4, e5]
  replace hB := hBa
  clear hBa hb5
  have z45 : b4 < b5 := by omega
  have z5 : b5 < W5.heap.size := by omega
  clear hz5 e5
  go_wp2_with fail
  refine hK.out _ _ ?_
  clear hK K
  try dsimp only
  refine wp_seq_k (fun K hK => ?_)
  replace hK := Lib.hid hK
  go_wp2_with fail
  refine (HU _ (hs.later hB)).mono ?_
  rintro e w1 ⟨rfl, hb⟩
  replace c4 := later hb c4
  replace g5 := g5.later hb
  replace hB := thru hB hb
  replace z5 := Nat.lt_of_lt_of_le z5 hb.size
  clear hb HU
  go_wp2_with (refine wpList_loadN_w rfl _ _ rfl (b := b5) (q := 0) rfl (run_loadSw g5) ?_)
  refine (HV _ (hi.later hB)).mono ?_
  rintro e w2 ⟨rfl, hb⟩
  replace c4 := later hb c4
  replace g5 := g5.later hb
  replace hB := thru hB hb
  replace z5 := Nat.lt_of_lt_of_le z5 hb.size
  clear hb HV
  go_wp2_with (refine wpList_loadN rfl _ _ rfl (b := b5) (q := 0) rfl (run_loadSw g5) ?_)
  refine (HG _ (hi.later hB)).mono ?_
  rintro e w3 ⟨rfl, hb⟩
  replace c4 := later hb c4
  replace g5 := g5.later hb
  replace hB := thru hB hb
  replace z5 := Nat.lt_of_lt_of_le z5 hb.size
  clear hb HG
  go_wp2_with fail
  refine hK.out _ _ ?_
  clear hK K
  try dsimp only
  refine wp_seq_k (fun K hK => ?_)
  replace hK := Lib.hid hK
  go_wp2_with fail
  refine (HR _ (hs.later hB)).mono ?_
  rintro e w4 ⟨ro, so, ao, rfl, ino, nwo, hqo, hb⟩
  replace g5 := g5.later hb
  replace hB := thru hB hb
  replace z5 := Nat.lt_of_lt_of_le z5 hb.size
  have HQO := Lib.hid hqo
  clear hb HR hs c4 hqo nwo
  go_wp2_with (refine wpList_allocTo 10 rfl rfl _ rfl rec_zero ?_; intro Xt0 a_b10 hb0 hz0; refine Hid.out ?_)
  unfold Hid
  try simp only [Act.put, List.setIfInBounds_toArray, List.set_cons_zero, List.set_cons_succ]
  obtain ⟨b10, e_b10⟩ : ∃ a, w4.heap.size = a := ⟨_, rfl⟩
  have s_b10 : w4.heap.size ≤ b10 := by omega
  have hb := hb0
  rw [e_b10] at a_b10 hz0 ⊢
  clear hb0
  go_wp2_with (refine wpList_allocTo 11 rfl rfl _ rfl soft_zero ?_; intro Xt1 a_b11 hb1 hz1; refine Hid.out ?_)
  unfold Hid
  try simp only [Act.put, List.setIfInBounds_toArray, List.set_cons_zero, List.set_cons_succ]
  obtain ⟨b11, e_b11⟩ : ∃ a, Xt0.heap.size = a := ⟨_, rfl⟩
  have s_b11 : w4.heap.size ≤ b11 := by omega
  have s_b10b11 : b10 < b11 := by omega
  replace hb := thru hb hb1
  replace a_b10 := a_b10.later hb1
  rw [e_b11] at a_b11 hz1 ⊢
  clear hb1
  have hz : b10 < Xt1.heap.size ∧ b11 < Xt1.heap.size := by omega
  clear e_b10 hz0 e_b11 hz1
  go_wp2_with (refine wpList_storeB rfl rfl _ (.tmp 10) _ rfl (b := b10) (q := 0) rfl (n := 4) (v := recF ro) rfl a_b10 (fun j _ => rec_one _ _) rec_size ?_; intro Yt0 t1; refine Hid.out ?_)
  unfold Hid
  replace hb := t1.below _ _ (by omega) hb
  replace a_b10 := t1.blk
  replace a_b11 := t1.other (.inl (by omega)) a_b11
  rw [← t1.size] at hz
  clear t1
  go_wp2_with (refine wpList_storeB rfl rfl _ (.tmp 11) _ rfl (b := b11) (q := 0) rfl (n := 23) (v := softV so ao) rfl a_b11 (fun j _ => soft_one _ _ _) soft_size ?_; intro Yt1 t1; refine Hid.out ?_)
  unfold Hid
  replace hb := t1.below _ _ (by omega) hb
  replace a_b11 := t1.blk
  replace a_b10 := t1.other (.inl (by omega)) a_b10
  rw [← t1.size] at hz
  clear t1
  replace g5 := g5.later hb
  replace hB := thru hB hb
  clear hb hz
  have z10 : b5 < b10 ∧ b10 < b11 := by omega
  have hlt11 := World.block_lt_of_cell? _ _ (a_b11.at 0 (by omega)).1
  clear s_b10 s_b11 s_b10b11 ino
  go_wp2_with fail
  refine hK.out _ _ ?_
  clear hK K
  try dsimp only
  refine wp_seq_k (fun K hK => ?_)
  replace hK := Lib.hid hK
  go_wp2_with (refine wpList_allocTo 13 rfl rfl _ rfl rec_zero ?_; intro Xv0 a_b13 hb0 hz0; refine Hid.out ?_)
  unfold Hid
  try simp only [Act.put, List.setIfInBounds_toArray, List.set_cons_zero, List.set_cons_succ]
  obtain ⟨b13, e_b13⟩ : ∃ a, Yt1.heap.size = a := ⟨_, rfl⟩
  have s_b13 : Yt1.heap.size ≤ b13 := by omega
  have hb := hb0
  rw [e_b13] at a_b13 hz0 ⊢
  clear hb0
  have hz : b13 < Xv0.heap.size := by omega
  clear e_b13 hz0
  go_wp2_with (refine wpList_storeB rfl rfl _ (.tmp 13) _ rfl (b := b13) (q := 0) rfl (n := 4) (v := recF ⟨0, 0, 1, 0#64⟩) rfl a_b13 (fun j _ => rec_one _ _) rec_size ?_; intro Yv0 t1; refine Hid.out ?_)
  unfold Hid
  replace hb := t1.below _ _ (by omega) hb
  replace a_b13 := t1.blk
  rw [← t1.size] at hz
  clear t1
  replace g5 := g5.later hb
  replace a_b10 := a_b10.later hb
  replace a_b11 := a_b11.later hb
  replace hB := thru hB hb
  clear hb hz
  have z13 : b11 < b13 := by have := World.block_lt_of_cell? _ _ (a_b11.at 0 (by omega)).1; have q := s_b13; have q2 := hlt11; omega
  clear s_b13
  go_wp2_with fail
  refine hK.out _ _ ?_
  clear hK K
  try dsimp only
  refine wp_seq_k (fun K hK => ?_)
  replace hK := Lib.hid hK
  go_wp2_with fail
  refine hK.out _ _ ?_
  clear hK K
  try dsimp only
  refine wp_seq_k (fun K hK => ?_)
  replace hK := Lib.hid hK
  refine wp_cutN (fun a' W => ∃ nb nm to : Nat, NextOf ls root h nb nm to ∧ nb ≤ 1 ∧ nm < 4294967296 ∧ to ≤ 1 ∧ Blk W b5 0 23 (softV s sa) ∧ Blk W b13 0 4 (recF ⟨nb, 0, nm, 0#64⟩) ∧ Below w.heap.size w W ∧ ∃ u : Nat → Value, a' = { tmps := #[u 0, u 1, u 2, u 3, u 4, .pointer (some ⟨b5, 0, none⟩), u 6, u 7, u 8, u 9, u 10, u 11, u 12, .pointer (some ⟨b13, 0, none⟩), .int .i64 (to : Int), u 15, u 16, u 17, u 18, u 19, u 20, u 21, u 22, u 23, u 24, u 25, u 26, u 27, u 28, u 29, u 30, u 31, u 32, u 33, u 34, u 35, u 36, u 37, u 38, u 39, u 40, u 41, u 42, u 43, u 44, u 45, u 46, u 47, u 48, u 49, u 50, u 51, u 52, u 53, u 54, u 55, u 56, u 57, u 58, u 59, u 60, u 61, u 62, u 63, u 64, u 65, u 66, u 67, u 68, u 69, u 70, u 71, u 72, u 73, u 74, u 75, u 76, u 77, u 78, u 79, u 80, u 81, u 82, u 83, u 84, u 85, u 86, u 87, u 88, u 89, u 90, u 91, u 92, u 93, u 94, u 95, u 96, u 97, u 98, u 99, u 100, u 101, u 102, u 103, u 104, u 105, u 106, u 107], defers := [] }) ?_ ?_
  · have z5b : b5 < b13 := by omega
    by_cases hneg : at_ < 0
    · have d1 : decide (at_ ≥ 0) = false := by simp; omega
      have d2 : decide (0 ≤ at_) = false := by simp; omega
      go_wp2_with fail
      exact NormQ.mk ⟨0, 1, 0, HN0.out hneg, by omega, by omega, by omega, g5, a_b13, (by first | exact hB | exact e4 ▸ hB), ex_frame (by kernel_rfl)⟩
    · have d1 : decide (at_ ≥ 0) = true := by simp; omega
      have d2 : decide (0 ≤ at_) = true := by simp; omega
      have hpos : 0 ≤ at_ := by omega
      have h4 := HAT4.out hpos
      have hbd := HBND.out hpos
      obtain ⟨q1, q2⟩ := HQO.out hpos
      have hnx := HN1.out hpos
      have hnb := HNB.out
      rw [← q1] at h4 hbd hnx hnb
      rw [← q2] at h4
      obtain ⟨a1, ha1⟩ : ∃ n : Nat, at_ = (n : Int) := ⟨at_.toNat, by omega⟩
      subst ha1
      rw [Int.toNat_natCast] at hnx
      have ha2 : a1 ≤ 1 := by omega
      obtain ⟨vs, hvs⟩ : ∃ v, s.ver = v := ⟨_, rfl⟩
      obtain ⟨vo, hvo⟩ : ∃ v, so.ver = v := ⟨_, rfl⟩
      obtain ⟨bk, ckx, nmo, dgo⟩ := ro
      dsimp only at h4 hbd hnx hnb
      have cv := g5.ver
      have co := a_b11.ver
      rw [hvs] at cv h4
      rw [hvo] at co h4
      have cb := a_b10.bank
      have cn := a_b10.numb
      dsimp only at cb cn
      have d3 : decide (vs ≤ vo) = false := by simp; omega
      have d4 : ((nmo : Int) == 4294967295) = false := by simp; omega
      have w1 : IntKind.i64.wrap (1 - (bk : Int)) = ((1 - bk : Nat) : Int) := by simp [IntKind.wrap, IntKind.bits, IntKind.signed]; omega
      have w2 : IntKind.u32.wrap ((nmo : Int) + 1) = ((nmo + 1 : Nat) : Int) := by simp [IntKind.wrap, IntKind.bits, IntKind.signed]; omega
      have w3 : IntKind.i64.wrap (1 - (a1 : Int)) = ((1 - a1 : Nat) : Int) := by simp [IntKind.wrap, IntKind.bits, IntKind.signed]; omega
      obtain ⟨nb, hnbe⟩ : ∃ n, 1 - bk = n := ⟨_, rfl⟩
      obtain ⟨nm, hnme⟩ : ∃ n, nmo + 1 = n := ⟨_, rfl⟩
      obtain ⟨to, hto⟩ : ∃ n, 1 - a1 = n := ⟨_, rfl⟩
      rw [hnbe] at w1 hnx
      rw [hnme] at w2 hnx
      rw [hto] at w3 hnx
      have hnb1 : nb ≤ 1 := by omega
      have hnm1 : nm < 4294967296 := by omega
      have hto1 : to ≤ 1 := by omega
      have HNXT := Lib.hid hnx
      clear hnx hnbe hnme hto h4 hbd hnb q1 q2 hvs hvo hneg ha2
      go_wp2_with fail
      refine wp_region_schedB (B := b13) (fun X => X.cell? ⟨b10, 0, none⟩ = some (.int .i64 (bk : Int)) ∧ X.cell? ⟨b10, 2, none⟩ = some (.int .u32 (nmo : Int)) ∧ Blk X b5 0 23 (softV s sa) ∧ Blk X b13 0 4 (recF ⟨0, 0, 1, 0#64⟩) ∧ Below w.heap.size w X) (.one [0, 1, 2, 3, 4, 5, 6, 7, 8, 9, 10] 11 (.one [12] 13 (.done [14]))) (by kernel_rfl) (by kernel_rfl) (fun _ _ _ _ _ h => h) ⟨by go_simp, by go_simp, g5.later (Below.refl _ _).drew, a_b13.later (Below.refl _ _).drew, hB.drew⟩ ?_
      clear cb cn g5 a_b13 hB a_b10 a_b11 cv co
      rintro X ⟨cb, cn, g5, a_b13, hB⟩
      rw [wpSchedB]
      simp only [pick, List.map_cons, List.map_nil, Array.getD_eq_getD_getElem?, List.getElem?_toArray, List.getElem?_cons_succ, List.getElem?_cons_zero, Option.getD_some]
      have k1 := plusB_cell (B := b13) cb (by simp; omega)
      have k2 := plusB_cell (B := b13) cn (by simp; omega)
      repeat (first | go_big_quiet_step (fail) | quiet_step (fail))
      refine wpQuiet_nil ?_
      clear k1 k2 cb cn
      refine heavyB_want (by rfl) (fun K' hK' => ?_)
      have k13 := (a_b13.at 0 (by omega)).1
      have j13 := (a_b13.at 0 (by omega)).2
      go_simp
      refine hK' _ _ ((Below.refl _ _).setCell (p := ⟨b13, 0, none⟩) (Nat.le_refl _) _) ?_
      clear hK' K' k13 j13
      replace g5 := g5.other (p := ⟨b13, 0, none⟩) (by simp; omega) (.int .i64 (nb : Int))
      replace a_b13 := a_b13.recSet 0 (by omega) (.int .i64 (nb : Int)) ⟨nb, 0, 1, 0#64⟩ (recF_bank ⟨0, 0, 1, 0#64⟩ nb)
      replace hB := hB.setCell (p := ⟨b13, 0, none⟩) (show w.heap.size ≤ b13 by omega) (.int .i64 (nb : Int))
      obtain ⟨X1, hX1⟩ : ∃ Y, X.setCell ⟨b13, 0, none⟩ (.int .i64 (nb : Int)) = Y := ⟨_, rfl⟩
      rw [hX1] at g5 a_b13 hB ⊢
      clear hX1
      try simp only [Act.put, List.setIfInBounds_toArray, List.set_cons_zero, List.set_cons_succ]
      rw [wpSchedB]
      simp only [pick, List.map_cons, List.map_nil, Array.getD_eq_getD_getElem?, List.getElem?_toArray, List.getElem?_cons_succ, List.getElem?_cons_zero, Option.getD_some]
      repeat (first | go_big_quiet_step (fail) | quiet_step (fail))
      refine wpQuiet_nil ?_
      refine heavyB_want (by rfl) (fun K' hK' => ?_)
      have k13 := (a_b13.at 2 (by omega)).1
      have j13 := (a_b13.at 2 (by omega)).2
      go_simp
      refine hK' _ _ ((Below.refl _ _).setCell (p := ⟨b13, 2, none⟩) (Nat.le_refl _) _) ?_
      clear hK' K' k13 j13
      replace g5 := g5.other (p := ⟨b13, 2, none⟩) (by simp; omega) (.int .u32 (nm : Int))
      replace a_b13 := a_b13.recSet 2 (by omega) (.int .u32 (nm : Int)) ⟨nb, 0, nm, 0#64⟩ (recF_number ⟨nb, 0, 1, 0#64⟩ nm)
      replace hB := hB.setCell (p := ⟨b13, 2, none⟩) (show w.heap.size ≤ b13 by omega) (.int .u32 (nm : Int))
      try simp only [Act.put, List.setIfInBounds_toArray, List.set_cons_zero, List.set_cons_succ]
      rw [wpSchedB]
      simp only [pick, List.map_cons, List.map_nil, Array.getD_eq_getD_getElem?, List.getElem?_toArray, List.getElem?_cons_succ, List.getElem?_cons_zero, Option.getD_some]
      repeat (first | go_big_quiet_step (fail) | quiet_step (fail))
      refine wpQuiet_nil ?_
      go_wp2_with fail
      exact NormQ.mk ⟨nb, nm, to, HNXT.out, hnb1, hnm1, hto1, g5, a_b13, (by first | exact hB | exact e4 ▸ hB), ex_frame (by kernel_rfl)⟩
  clear a_b10 a_b11 a_b13 g5 hB
  rintro a' W8 ⟨nb, nm, to, HNXT, hnb1, hnm1, hto1, g5, g13, hB, u, rfl⟩
  refine hK.out _ _ ?_
  clear hK K HN0 HN1 HAT4 HBND HNB HQO
  try dsimp only
  replace HNXT := Lib.hid (HNX.out nb nm to HNXT)
  clear HNX
  obtain ⟨f, hf⟩ : ∃ f, Ld.form s = f := ⟨_, rfl⟩
  rw [hf] at HFM HNXT HP
  clear hf
  have z5b : b5 < b13 := by omega
  have z13b : b13 < W8.heap.size := World.block_lt_of_cell? _ _ (g13.at 0 (by omega)).1
  have zw13 : w.heap.size ≤ b13 := by omega
  clear z10 z13 hlt11 z45 z5
  refine wp_seq_k (fun K hK => ?_)
  replace hK := Lib.hid hK
  go_wp2_with (refine wpList_loadN rfl _ _ rfl (b := b5) (q := 0) rfl (run_loadSw g5) ?_)
  refine (HP _ (hi.later hB)).mono ?_
  rintro e W9 ⟨y, cy, rfl, yo, hb⟩
  replace g13 := g13.later hb
  replace hB := thru hB hb
  have z9 := Nat.lt_of_lt_of_le z13b hb.size
  have hfl := HFM.out
  obtain ⟨gf, rfl⟩ := yo.some_of (by omega)
  have hgf := (yo.low gf rfl)
  have hcf := yo.le_cap
  have yb := yo.bts
  have zg : b13 < gf := by omega
  have zg9 : gf < W9.heap.size := hgf.2
  obtain ⟨nf, hnf⟩ : ∃ n, f.length = n := ⟨_, rfl⟩
  have HNF := Lib.hid hnf
  have hnf2 : 154 ≤ nf ∧ nf ≤ 625 := by omega
  clear hb HP g5 hi yo hgf z13b hfl hnf
  rw [HNF.out] at hcf ⊢
  go_wp2_with fail
  refine hK.out _ _ ?_
  clear hK K
  try dsimp only
  refine wp_seq_k (fun K hK => ?_)
  replace hK := Lib.hid hK
  go_wp2_with fail
  refine hK.out _ _ ?_
  clear hK K
  try dsimp only
  refine wp_seq_k (fun K hK => ?_)
  replace hK := Lib.hid hK
  have HOF := of_any (some ⟨gf, 0, none⟩) f cy
  rw [HNF.out] at HOF
  obtain ⟨dg, hdg⟩ : ∃ d, Dig.ofL f = d := ⟨_, rfl⟩
  rw [hdg] at HOF HNXT
  have k13 := (g13.at 3 (by omega)).1
  have j13 := (g13.at 3 (by omega)).2
  go_wp2_with fail
  refine (HOF _ (by omega) yb).mono ?_
  rintro e W10 ⟨rfl, hb⟩
  replace k13 := later hb k13
  replace j13 := (hb.frozen (p := ⟨b13, 3, none⟩) z9).trans j13
  go_wp2_with fail
  replace g13 := (g13.later hb).recSet 3 (by omega) (.int .u64 (num dg)) ⟨nb, 0, nm, dg⟩ (recF_dig ⟨nb, 0, nm, 0#64⟩ dg)
  replace hB := (thru hB hb).setCell (p := ⟨b13, 3, none⟩) zw13 (.int .u64 (num dg))
  replace yb : Bts (W10.setCell ⟨b13, 3, none⟩ (.int .u64 (num dg))) (some ⟨gf, 0, none⟩) f := (yb.later hb).turn ((Turns.refl (fun b => b = b13) W10).setCell (p := ⟨b13, 3, none⟩) (fun _ => rfl) _) (fun a e k => by cases e; simp only at k; omega)
  have z10 : b13 < W10.heap.size ∧ gf < W10.heap.size := by have := hb.size; omega
  obtain ⟨W11, h11⟩ : ∃ X, W10.setCell ⟨b13, 3, none⟩ (.int .u64 (num dg)) = X := ⟨_, rfl⟩
  have z11 : b13 < W11.heap.size ∧ gf < W11.heap.size := by rw [← h11]; simp [World.setCell]; exact z10
  rw [h11] at g13 hB yb ⊢
  clear h11 hb k13 j13 HOF z9 zg9 hdg z10
  refine hK.out _ _ ?_
  clear hK K
  try dsimp only
  refine wp_seq_k (fun K hK => ?_)
  replace hK := Lib.hid hK
  go_wp2_with fail
  obtain ⟨b17, e17⟩ : ∃ b, W11.heap.size = b := ⟨_, rfl⟩
  obtain ⟨W12, h12⟩ : ∃ X, W11.alloc (.cells #[.slice none 0 0] 53) = X := ⟨_, rfl⟩
  have hb := al (Below.refl _ W11) (.cells #[.slice none 0 0] 53)
  have c17 := cell_new W11 #[.slice none 0 0] 53 (0, 0) 0
  have f17 := frozen_new W11 #[.slice none 0 0] 53 0
  have hz12 : W12.heap.size = W11.heap.size + 1 := by rw [← h12]; simp
  rw [h12] at hb c17 f17
  rw [h12, e17]
  rw [e17] at c17 f17 hz12 z11
  replace g13 := g13.later hb
  replace hB := thru hB hb
  replace yb := yb.later hb
  clear hb h12
  refine hK.out _ _ ?_
  clear hK K
  try dsimp only
  refine wp_seq_k (fun K hK => ?_)
  replace hK := Lib.hid hK
  refine wp_seq_k (fun K2 hK2 => ?_)
  replace hK2 := Lib.hid hK2
  go_wp2_with fail
  refine (chunks_any (some ⟨gf, 0, none⟩) nf cy _).mono ?_
  rintro e W13 ⟨rfl, hw⟩
  have hb := al (Below.refl _ W12) (.cells #[.slice (some ⟨gf, 0, none⟩) nf cy] 22)
  have cx := cell_new W12 #[.slice (some ⟨gf, 0, none⟩) nf cy] 22 (0, 0) 0
  have fx := frozen_new W12 #[.slice (some ⟨gf, 0, none⟩) nf cy] 22 0
  have hz13 : W13.heap.size = W12.heap.size + 1 := by rw [hw]; simp
  rw [← hw] at hb cx fx
  obtain ⟨bx, hbx⟩ : ∃ b, W12.heap.size = b := ⟨_, rfl⟩
  replace c17 := later hb c17
  replace f17 := (hb.frozen (p := ⟨b17, 0, none⟩) (show b17 < _ by omega)).trans f17
  replace g13 := g13.later hb
  replace hB := thru hB hb
  replace yb := yb.later hb
  rw [hbx] at cx fx hz12 hz13 ⊢
  have zx : b17 < bx ∧ bx < W13.heap.size := by omega
  clear hb hw hbx hz12 hz13 e17
  go_wp2_with fail
  refine hK2.out _ _ ?_
  clear hK2 K2
  try dsimp only
  skip
  refine frame_out (p := fun u => { tmps := #[u 0, u 1, u 2, u 3, u 4, u 5, u 6, u 7, u 8, u 9, u 10, u 11, u 12, .pointer (some ⟨b13, 0, none⟩), .int .i64 (to : Int), u 15, u 16, .pointer (some ⟨b17, 0, none⟩), u 18, u 19, u 20, u 21, u 22, u 23, u 24, u 25, u 26, u 27, u 28, u 29, u 30, u 31, u 32, u 33, u 34, u 35, u 36, u 37, u 38, u 39, u 40, u 41, u 42, u 43, u 44, u 45, u 46, u 47, u 48, u 49, u 50, u 51, u 52, u 53, u 54, u 55, u 56, u 57, u 58, u 59, u 60, u 61, u 62, u 63, u 64, u 65, u 66, u 67, u 68, u 69, u 70, u 71, u 72, u 73, u 74, u 75, u 76, u 77, u 78, u 79, u 80, .func (.func 82) #[] #[.pointer (some ⟨bx, 0, none⟩)], u 82, u 83, u 84, u 85, u 86, u 87, u 88, u 89, u 90, u 91, u 92, u 93, u 94, u 95, u 96, u 97, u 98, u 99, u 100, u 101, u 102, u 103, u 104, u 105, u 106, u 107], defers := [] }) (G := fun a => Code.wp _ _ _ a _) (by kernel_rfl) (fun u => ?_)
  dsimp only
  have hmn : Ld.ckN f ≤ 14 ∧ 1 ≤ Ld.ckN f := by unfold Ld.ckN; rw [HNF.out]; omega
  have HYI := chunks1_in (5 - 1) (by omega) bx gf f cy W13 (by rw [HNF.out]; exact cx) fx (by rw [HNF.out]; exact hcf) (by rw [HNF.out]; omega)
  obtain ⟨mN, hmN⟩ : ∃ n, Ld.ckN f = n := ⟨_, rfl⟩
  rw [hmN] at HYI hmn HNXT
  have HMN := Lib.hid hmN
  clear hmN cx fx
  obtain ⟨B, hBe⟩ : ∃ B, W13.heap.size + 2 = B := ⟨_, rfl⟩
  have zB : bx + 2 < B ∧ gf + 2 < B := by omega
  have h0 : InI f gf b13 b17 B nb nm dg w 0 [b13, b17] W13 := ⟨none, 0, [], rfl, c17, f17, OwnsOp.nil _ _, rfl, g13, yb, hB⟩
  have HCK : Hid (∀ k, (Ld.ck f k).length ≤ 48) := fun k => Ld.ck_len f k
  clear c17 f17 g13 yb hB
  skip
  refine wpIn_wide (n := 5) |>.1 ?_
  gi_wp2_with fail
  refine wpIn_range (α := Nat) (encs := ckV f gf cy) (len := mN) (x := fun k => k) (stops := True) (T := fun b => b = bx) (gf := 82) (lb := #[.pointer (some ⟨bx, 0, none⟩)]) rfl (enters_of Tryz.func82 (by kernel_rfl) rfl) (fun b e => by subst e; exact zx.2)
    HYI (fun _ => rfl) (InI f gf b13 b17 B nb nm dg w) (fun _ _ _ _ => False) [b13, b17] (fun b hb => by simp at hb ⊢; omega) ?hI ?hX (.inl trivial) h0
    (fun v => { tmps := #[u 0, u 1, u 2, u 3, u 4, u 5, u 6, u 7, u 8, u 9, u 10, u 11, u 12, .pointer (some ⟨b13, 0, none⟩), .int .i64 (to : Int), u 15, u 16, .pointer (some ⟨b17, 0, none⟩), .int .i64 (v : Int), .slice (some ⟨gf, 48 * v, none⟩) (Ld.ck f v).length (cy - 48 * v), u 20, u 21, u 22, u 23, u 24, u 25, u 26, u 27, u 28, u 29, u 30, u 31, u 32, u 33, u 34, u 35, u 36, u 37, u 38, u 39, u 40, u 41, u 42, u 43, u 44, u 45, u 46, u 47, u 48, u 49, u 50, u 51, u 52, u 53, u 54, u 55, u 56, u 57, u 58, u 59, u 60, u 61, u 62, u 63, u 64, u 65, u 66, u 67, u 68, u 69, u 70, u 71, u 72, u 73, u 74, u 75, u 76, u 77, u 78, u 79, u 80, .func (.func 82) #[] #[.pointer (some ⟨bx, 0, none⟩)], .int .i64 (v : Int), .slice (some ⟨gf, 48 * v, none⟩) (Ld.ck f v).length (cy - 48 * v), u 84, u 85, u 86, u 87, u 88, u 89, u 90, u 91, u 92, u 93, u 94, u 95, u 96, u 97, u 98, u 99, u 100, u 101, u 102, u 103, u 104, u 105, u 106, u 107], defers := [] }) ?assign ?body ?done ?stop
  case hI =>
    intro k S A B h ht
    exact h.turn ht (by rintro b (rfl | rfl | rfl) <;> refine ⟨?_, ?_, ?_, ?_, ?_⟩ <;> omega)
  case hX => exact fun _ _ _ _ _ h _ => h
  case assign =>
    intro v W K hK
    unfold ckV
    gi_wp2_with fail
    exact hK
  case stop => exact fun _ _ _ _ _ _ h _ => h.elim
  case body =>
    rintro k S W hk hz ⟨y, cy1, os, rfl, c17, f17, ho, hm, g13, hf, hBW⟩ hS
    have hlen := InI.len hm
    have hk14 : k < 14 := by omega
    have k13 := g13.chunks
    have j13 := (g13.at 1 (by omega)).2
    simp only at k13
    have w1 : IntKind.i64.wrap ((k : Int) + 1) = ((k + 1 : Nat) : Int) := by simp [IntKind.wrap, IntKind.bits, IntKind.signed]; omega
    obtain ⟨k1, hk1⟩ : ∃ n, k + 1 = n := ⟨_, rfl⟩
    rw [hk1] at w1
    have HK1 := Lib.hid hk1
    have HLEN := Lib.hid hlen
    have HM := Lib.hid hm
    have hS13 := hS b13 (by simp)
    have hS17 := hS b17 (by simp)
    have hzB : B ≤ W.heap.size := by omega
    have zb17 : b17 < B ∧ b13 < b17 := by omega
    obtain ⟨dk, hdk⟩ : ∃ d, Ld.ck f k = d := ⟨_, rfl⟩
    have hdb := hf.mid (48 * k) 48
    have hdl := HCK.out k
    rw [hdk] at hdl
    have hdb : Bts W (some ⟨gf, 48 * k, none⟩) dk := by rw [← hdk]; unfold Ld.ck; rw [Nat.zero_add] at hdb; exact hdb
    have HDK := Lib.hid hdk
    obtain ⟨cc, hcc⟩ : ∃ n, cy - 48 * k = n := ⟨_, rfl⟩
    rw [hdk, hcc]
    obtain ⟨oo, hoo⟩ : ∃ n, 48 * k = n := ⟨_, rfl⟩
    rw [hoo] at hdb ⊢
    have HCL := fun (V : World) (hV : Bts V (some ⟨gf, oo, none⟩) dk) => bclone_any (some ⟨gf, oo, none⟩) dk cc V hV (by omega)
    unfold OwnOf at HCL
    have HFI := fun V => first_any (nb : Int) (k1 : Int) nb rfl (by omega) V
    obtain ⟨p, hp⟩ : ∃ n, 2 + 16 * nb = n := ⟨_, rfl⟩
    rw [hp] at HFI
    have HPP := Lib.hid hp
    obtain ⟨q, hq⟩ : ∃ n, p + k = n := ⟨_, rfl⟩
    have HQQ := Lib.hid hq
    have hq34 : q ≤ 34 := by omega
    have w2 : IntKind.i64.wrap ((p : Int) + (k : Int)) = (q : Int) := by simp [IntKind.wrap, IntKind.bits, IntKind.signed]; omega
    obtain ⟨nd, hnd⟩ : ∃ n, dk.length = n := ⟨_, rfl⟩
    rw [hnd] at HCL ⊢
    have HND := Lib.hid hnd
    clear hlen hm hk1 hdk hcc hoo hp hq hnd hmn hcf HCK hBe h0 HYI hS
    gi_wp2_with fail
    clear k13 j13
    replace c17 : (W.setCell ⟨b13, 1, none⟩ (.int .i64 (k1 : Int))).cell? ⟨b17, 0, none⟩ = some (.slice y k cy1) := by go_simp
    have htS : Turns (fun b => b = b13) W (W.setCell ⟨b13, 1, none⟩ (.int .i64 (k1 : Int))) := (Turns.refl (fun b => b = b13) W).setCell (p := ⟨b13, 1, none⟩) (fun _ => rfl) _
    replace f17 := htS.frozen (p := ⟨b17, 0, none⟩) (show ¬ b17 = b13 by omega) hS17 f17
    replace ho := ho.turn htS (fun b h1 _ e => by omega)
    replace g13 := g13.recSet 1 (by omega) (.int .i64 (k1 : Int)) ⟨nb, k1, nm, dg⟩ (recF_chunks ⟨nb, k, nm, dg⟩ k1)
    replace hf := hf.turn htS (fun a e h => by cases e; simp only at h; omega)
    replace hdb := hdb.turn htS (fun a e h => by cases e; simp only at h; omega)
    replace hBW := hBW.setCell (p := ⟨b13, 1, none⟩) (show w.heap.size ≤ b13 by omega) (.int .i64 (k1 : Int))
    have htR : Turns (fun b => b ∈ b13 :: b17 :: rowS y) W (W.setCell ⟨b13, 1, none⟩ (.int .i64 (k1 : Int))) := htS.mono (fun _ _ e => by subst e; simp)
    have hzz := htS.size
    obtain ⟨V, hV⟩ : ∃ V, W.setCell ⟨b13, 1, none⟩ (.int .i64 (k1 : Int)) = V := ⟨_, rfl⟩
    rw [hV] at c17 f17 ho g13 hf hdb hBW htR hzz ⊢
    clear hV htS
    replace hS13 : b13 < V.heap.size := by omega
    replace hS17 : b17 < V.heap.size := by omega
    have hzV : W.heap.size ≤ V.heap.size := hzz
    clear hzz
    have cb := g13.bank
    have cc13 := g13.chunks
    simp only at cb cc13
    skip
    refine wpIn_region_schedB (B := b17) (fun X => X.cell? ⟨b17, 0, none⟩ = some (.slice y k cy1) ∧ X.frozen? ⟨b17, 0, none⟩ = false ∧ OwnsOp B X y cy1 os ∧ Blk X b13 0 4 (recF ⟨nb, k1, nm, dg⟩) ∧ Bts X (some ⟨gf, 0, none⟩) f ∧ Bts X (some ⟨gf, oo, none⟩) dk ∧ Below w.heap.size w X ∧ Turns (fun b => b ∈ b13 :: b17 :: rowS y) W X ∧ b17 < X.heap.size ∧ W.heap.size ≤ X.heap.size ∧ X.cell? ⟨b13, 0, none⟩ = some (.int .i64 (nb : Int)) ∧ X.cell? ⟨b13, 1, none⟩ = some (.int .i64 (k1 : Int))) (.two [1, 2, 4, 6] 0 (.one [] 3 (.one [5] 7 (.one [8] 9 (.one [] 10 (.one [] 11 (.done [])))))) 3 (.two [5] 0 (.one [] 7 (.one [8] 9 (.one [] 10 (.one [] 11 (.done []))))) 7 (.two [8] 0 (.one [] 9 (.one [] 10 (.one [] 11 (.done [])))) 9 (.one [] 0 (.one [] 10 (.one [] 11 (.done []))))))) (by kernel_rfl) (by kernel_rfl) (fun ⟨_, _, h⟩ => h) (fun _ _ _ _ _ h => h) ⟨by go_simp, f17, ho.later (Below.refl _ _).drew, g13.later (Below.refl _ _).drew, hf.later (Below.refl _ _).drew, hdb.later (Below.refl _ _).drew, hBW.drew, htR.drew, hS17, hzV, by go_simp, by go_simp⟩ ?_
    clear c17 f17 ho g13 hf hdb hBW htR hS17 hzV cb cc13
    rintro X ⟨c17, f17, ho, g13, hf, hdb, hBW, htR, hS17, hzV, cb, cc13⟩
    rw [wpSchedB]
    simp only [pick, List.map_cons, List.map_nil, Array.getD_eq_getD_getElem?, List.getElem?_toArray, List.getElem?_cons_succ, List.getElem?_cons_zero, Option.getD_some]
    have k1_ := plusB_cell (B := b17) cb (by simp; omega)
    have k2_ := plusB_cell (B := b17) cc13 (by simp; omega)
    repeat (first | go_big_quiet_step (fail) | quiet_step (fail))
    refine wpQuiet_nil ?_
    clear k1_ k2_ cb cc13
    refine ⟨?_, ?_⟩
    · refine heavyB_want (by rfl) (fun K' hK' => ?_)
      go_simp
      refine hK' _ _ (Below.refl _ _) ?_
      clear hK' K'
      try simp only [Act.put, List.setIfInBounds_toArray, List.set_cons_zero, List.set_cons_succ]
      rw [wpSchedB]
      simp only [pick, List.map_nil, Array.getD_eq_getD_getElem?, List.getElem?_toArray, List.getElem?_cons_succ, List.getElem?_cons_zero, Option.getD_some]
      refine wpQuiet_nil ?_
      refine heavyB_want (by rfl) (fun K' hK' => ?_)
      go_simp
      refine (HFI _).mono ?_
      rintro e X1 ⟨rfl, hb⟩
      refine hK' _ _ (hb.mono (by omega)) ?_
      clear hK' K'
      replace c17 := later hb c17
      replace f17 := (hb.frozen (p := ⟨b17, 0, none⟩) hS17).trans f17
      replace ho := ho.later hb
      replace g13 := g13.later hb
      replace hf := hf.later hb
      replace hdb := hdb.later hb
      replace hBW := thru hBW hb
      replace htR := htR.trans (Turns.of_below hb (Nat.le_refl _))
      replace hS17 := Nat.lt_of_lt_of_le hS17 hb.size
      replace hzV := Nat.le_trans hzV hb.size
      clear hb
      try simp only [Act.put, List.setIfInBounds_toArray, List.set_cons_zero, List.set_cons_succ]
      rw [wpSchedB]
      simp only [pick, List.map_cons, List.map_nil, Array.getD_eq_getD_getElem?, List.getElem?_toArray, List.getElem?_cons_succ, List.getElem?_cons_zero, Option.getD_some]
      repeat (first | go_big_quiet_step (fail) | quiet_step (fail))
      refine wpQuiet_nil ?_
      refine heavyB_want (by rfl) (fun K' hK' => ?_)
      go_simp
      refine (HCL _ hdb).mono ?_
      rintro e X2 ⟨yd, cd, rfl, rb, hb⟩
      refine hK' _ _ (hb.mono (by omega)) ?_
      clear hK' K'
      replace rb := rb.weaken (B' := B) (by omega)
      replace c17 := later hb c17
      replace f17 := (hb.frozen (p := ⟨b17, 0, none⟩) hS17).trans f17
      replace ho := ho.later hb
      replace g13 := g13.later hb
      replace hf := hf.later hb
      replace hdb := hdb.later hb
      replace hBW := thru hBW hb
      replace htR := htR.trans (Turns.of_below hb (Nat.le_refl _))
      replace hS17 := Nat.lt_of_lt_of_le hS17 hb.size
      replace hzV := Nat.le_trans hzV hb.size
      clear hb
      try simp only [Act.put, List.setIfInBounds_toArray, List.set_cons_zero, List.set_cons_succ]
      rw [wpSchedB]
      simp only [pick, List.map_cons, List.map_nil, Array.getD_eq_getD_getElem?, List.getElem?_toArray, List.getElem?_cons_succ, List.getElem?_cons_zero, Option.getD_some]
      repeat (first | go_big_quiet_step (fail) | quiet_step (fail))
      refine wpQuiet_nil ?_
      refine heavyB_want (by rfl) (fun K' hK' => ?_)
      go_simp
      refine hK' _ _ ((Below.refl _ _).alloc (by omega) _) ?_
      clear hK' K'
      have hb := al (Below.refl _ X2) (.cells #[.int .i64 (q : Int), .bool false, .slice yd nd cd] 60)
      have lit : CellsO (X2.alloc (.cells #[.int .i64 (q : Int), .bool false, .slice yd nd cd] 60)) X2.heap.size 0 [⟨(q : Int), false, yd, cd, dk⟩] := cellsO_one ⟨(q : Int), false, yd, cd, dk⟩ (by go_simp) (by go_simp) (by rw [HND.out]; go_simp)
      obtain ⟨X3, hY⟩ : ∃ Y, X2.alloc (.cells #[.int .i64 (q : Int), .bool false, .slice yd nd cd] 60) = Y := ⟨_, rfl⟩
      rw [hY] at hb lit ⊢
      clear hY
      replace c17 := later hb c17
      replace f17 := (hb.frozen (p := ⟨b17, 0, none⟩) hS17).trans f17
      replace ho := ho.later hb
      replace g13 := g13.later hb
      replace hf := hf.later hb
      replace hdb := hdb.later hb
      replace hBW := thru hBW hb
      replace htR := htR.trans (Turns.of_below hb (Nat.le_refl _))
      replace hS17 := Nat.lt_of_lt_of_le hS17 hb.size
      replace hzV := Nat.le_trans hzV hb.size
      replace rb := rb.later hb
      clear hb
      try simp only [Act.put, List.setIfInBounds_toArray, List.set_cons_zero, List.set_cons_succ]
      rw [wpSchedB]
      simp only [pick, List.map_nil, Array.getD_eq_getD_getElem?, List.getElem?_toArray, List.getElem?_cons_succ, List.getElem?_cons_zero, Option.getD_some]
      refine wpQuiet_nil ?_
      refine heavyB_want (by rfl) (fun K' hK' => ?_)
      refine wp_appO _ _ rfl (B := B) HLEN.out ho.row rfl rfl lit (by omega) (by omega) ?_
      intro y2 cy2 X4 h1 hb ht hnew
      have HNEW := Lib.hid hnew
      clear hnew
      refine hK' _ _ (hb.mono (by omega)) ?_
      clear hK' K'
      replace ho := ho.app h1 ht rb (by constructor <;> simp only <;> omega)
      replace c17 := (hb.cell (p := ⟨b17, 0, none⟩) (show b17 < B by omega)).trans c17
      replace f17 := (hb.frozen (p := ⟨b17, 0, none⟩) (show b17 < B by omega)).trans f17
      replace g13 := g13.low hb (by omega)
      replace hf := hf.low hb (fun a e => by cases e; show gf < B; omega)
      replace hBW := hBW.trans (hb.mono (by omega))
      replace htR := htR.trans (ht.mono (fun i _ e => by simp only [List.mem_cons]; exact .inr (.inr (rowS_mem e))))
      replace hS17 := Nat.lt_of_lt_of_le hS17 hb.size
      have hzP := hzV
      replace hzV := Nat.le_trans hzV hb.size
      clear hb ht h1 lit hdb rb
      try simp only [Act.put, List.setIfInBounds_toArray, List.set_cons_zero, List.set_cons_succ]
      rw [wpSchedB]
      simp only [pick, List.map_nil, Array.getD_eq_getD_getElem?, List.getElem?_toArray, List.getElem?_cons_succ, List.getElem?_cons_zero, Option.getD_some]
      refine wpQuiet_nil ?_
      refine heavyB_want (by rfl) (fun K' hK' => ?_)
      go_simp
      refine hK' _ _ ((Below.refl _ _).setCell (p := ⟨b17, 0, none⟩) (Nat.le_refl _) _) ?_
      clear hK' K'
      try simp only [Act.put, List.setIfInBounds_toArray, List.set_cons_zero, List.set_cons_succ]
      rw [wpSchedB]
      simp only [List.map_nil]
      refine wpQuiet_nil ?_
      gi_wp2_with fail
      have tn : Turns (fun b => b = b17) X4 (X4.setCell ⟨b17, 0, none⟩ (.slice y2 (k + 1) cy2)) := (Turns.refl (fun b => b = b17) _).setCell (p := ⟨b17, 0, none⟩) (fun _ => rfl) _
      have hz3 := tn.size
      have hdone : InI f gf b13 b17 B nb nm dg w (k + 1) (b13 :: b17 :: rowS y2) (X4.setCell ⟨b17, 0, none⟩ (.slice y2 (k + 1) cy2)) := by
        refine ⟨y2, cy2, os ++ [⟨(q : Int), false, yd, cd, dk⟩], rfl, by go_simp, (World.frozen?_setCell _ _ _ _).trans f17, ho.turn tn (fun b h1 _ e => by omega), ?_, ?_, hf.turn tn (fun a e h => by cases e; simp only at h; omega), hBW.setCell (p := ⟨b17, 0, none⟩) (show w.heap.size ≤ b17 by omega) _⟩
        · rw [List.map_append, HM.out, List.range_succ, List.map_append]
          simp only [List.map_cons, List.map_nil, Ld.opP, Ld.ckO, HDK.out, HPP.out, HQQ.out]
        · have := g13.turn tn (show ¬ b13 = b17 by omega)
          rw [← HK1.out] at this
          exact this
      refine ⟨b13 :: b17 :: rowS y2, fun b hb => ?_, htR.trans (tn.mono (fun i _ e => by subst e; simp)), hdone⟩
      rcases List.mem_cons.1 hb with e | hb
      · subst e; exact ⟨by omega, .inl (by simp)⟩
      rcases List.mem_cons.1 hb with e | hb
      · subst e; exact ⟨by omega, .inl (by simp)⟩
      have hrow := ho.row.low b (rowS_of hb)
      refine ⟨Nat.lt_of_lt_of_le hrow.2 hz3, ?_⟩
      rcases HNEW.out b (rowS_of hb) with e | e
      · exact .inl (by simp only [List.mem_cons]; exact .inr (.inr (rowS_mem e)))
      · exact .inr (by omega)
    · refine heavyB_want (by rfl) (fun K' hK' => ?_)
      go_simp
      refine (HFI _).mono ?_
      rintro e X1 ⟨rfl, hb⟩
      refine hK' _ _ (hb.mono (by omega)) ?_
      clear hK' K'
      replace c17 := later hb c17
      replace f17 := (hb.frozen (p := ⟨b17, 0, none⟩) hS17).trans f17
      replace ho := ho.later hb
      replace g13 := g13.later hb
      replace hf := hf.later hb
      replace hdb := hdb.later hb
      replace hBW := thru hBW hb
      replace htR := htR.trans (Turns.of_below hb (Nat.le_refl _))
      replace hS17 := Nat.lt_of_lt_of_le hS17 hb.size
      replace hzV := Nat.le_trans hzV hb.size
      clear hb
      try simp only [Act.put, List.setIfInBounds_toArray, List.set_cons_zero, List.set_cons_succ]
      rw [wpSchedB]
      simp only [pick, List.map_cons, List.map_nil, Array.getD_eq_getD_getElem?, List.getElem?_toArray, List.getElem?_cons_succ, List.getElem?_cons_zero, Option.getD_some]
      repeat (first | go_big_quiet_step (fail) | quiet_step (fail))
      refine wpQuiet_nil ?_
      refine ⟨?_, ?_⟩
      · refine heavyB_want (by rfl) (fun K' hK' => ?_)
        go_simp
        refine hK' _ _ (Below.refl _ _) ?_
        clear hK' K'
        try simp only [Act.put, List.setIfInBounds_toArray, List.set_cons_zero, List.set_cons_succ]
        rw [wpSchedB]
        simp only [pick, List.map_nil, Array.getD_eq_getD_getElem?, List.getElem?_toArray, List.getElem?_cons_succ, List.getElem?_cons_zero, Option.getD_some]
        refine wpQuiet_nil ?_
        refine heavyB_want (by rfl) (fun K' hK' => ?_)
        go_simp
        refine (HCL _ hdb).mono ?_
        rintro e X2 ⟨yd, cd, rfl, rb, hb⟩
        refine hK' _ _ (hb.mono (by omega)) ?_
        clear hK' K'
        replace rb := rb.weaken (B' := B) (by omega)
        replace c17 := later hb c17
        replace f17 := (hb.frozen (p := ⟨b17, 0, none⟩) hS17).trans f17
        replace ho := ho.later hb
        replace g13 := g13.later hb
        replace hf := hf.later hb
        replace hdb := hdb.later hb
        replace hBW := thru hBW hb
        replace htR := htR.trans (Turns.of_below hb (Nat.le_refl _))
        replace hS17 := Nat.lt_of_lt_of_le hS17 hb.size
        replace hzV := Nat.le_trans hzV hb.size
        clear hb
        try simp only [Act.put, List.setIfInBounds_toArray, List.set_cons_zero, List.set_cons_succ]
        rw [wpSchedB]
        simp only [pick, List.map_cons, List.map_nil, Array.getD_eq_getD_getElem?, List.getElem?_toArray, List.getElem?_cons_succ, List.getElem?_cons_zero, Option.getD_some]
        repeat (first | go_big_quiet_step (fail) | quiet_step (fail))
        refine wpQuiet_nil ?_
        refine heavyB_want (by rfl) (fun K' hK' => ?_)
        go_simp
        refine hK' _ _ ((Below.refl _ _).alloc (by omega) _) ?_
        clear hK' K'
        have hb := al (Below.refl _ X2) (.cells #[.int .i64 (q : Int), .bool false, .slice yd nd cd] 60)
        have lit : CellsO (X2.alloc (.cells #[.int .i64 (q : Int), .bool false, .slice yd nd cd] 60)) X2.heap.size 0 [⟨(q : Int), false, yd, cd, dk⟩] := cellsO_one ⟨(q : Int), false, yd, cd, dk⟩ (by go_simp) (by go_simp) (by rw [HND.out]; go_simp)
        obtain ⟨X3, hY⟩ : ∃ Y, X2.alloc (.cells #[.int .i64 (q : Int), .bool false, .slice yd nd cd] 60) = Y := ⟨_, rfl⟩
        rw [hY] at hb lit ⊢
        clear hY
        replace c17 := later hb c17
        replace f17 := (hb.frozen (p := ⟨b17, 0, none⟩) hS17).trans f17
        replace ho := ho.later hb
        replace g13 := g13.later hb
        replace hf := hf.later hb
        replace hdb := hdb.later hb
        replace hBW := thru hBW hb
        replace htR := htR.trans (Turns.of_below hb (Nat.le_refl _))
        replace hS17 := Nat.lt_of_lt_of_le hS17 hb.size
        replace hzV := Nat.le_trans hzV hb.size
        replace rb := rb.later hb
        clear hb
        try simp only [Act.put, List.setIfInBounds_toArray, List.set_cons_zero, List.set_cons_succ]
        rw [wpSchedB]
        simp only [pick, List.map_nil, Array.getD_eq_getD_getElem?, List.getElem?_toArray, List.getElem?_cons_succ, List.getElem?_cons_zero, Option.getD_some]
        refine wpQuiet_nil ?_
        refine heavyB_want (by rfl) (fun K' hK' => ?_)
        refine wp_appO _ _ rfl (B := B) HLEN.out ho.row rfl rfl lit (by omega) (by omega) ?_
        intro y2 cy2 X4 h1 hb ht hnew
        have HNEW := Lib.hid hnew
        clear hnew
        refine hK' _ _ (hb.mono (by omega)) ?_
        clear hK' K'
        replace ho := ho.app h1 ht rb (by constructor <;> simp only <;> omega)
        replace c17 := (hb.cell (p := ⟨b17, 0, none⟩) (show b17 < B by omega)).trans c17
        replace f17 := (hb.frozen (p := ⟨b17, 0, none⟩) (show b17 < B by omega)).trans f17
        replace g13 := g13.low hb (by omega)
        replace hf := hf.low hb (fun a e => by cases e; show gf < B; omega)
        replace hBW := hBW.trans (hb.mono (by omega))
        replace htR := htR.trans (ht.mono (fun i _ e => by simp only [List.mem_cons]; exact .inr (.inr (rowS_mem e))))
        replace hS17 := Nat.lt_of_lt_of_le hS17 hb.size
        have hzP := hzV
        replace hzV := Nat.le_trans hzV hb.size
        clear hb ht h1 lit hdb rb
        try simp only [Act.put, List.setIfInBounds_toArray, List.set_cons_zero, List.set_cons_succ]
        rw [wpSchedB]
        simp only [pick, List.map_nil, Array.getD_eq_getD_getElem?, List.getElem?_toArray, List.getElem?_cons_succ, List.getElem?_cons_zero, Option.getD_some]
        refine wpQuiet_nil ?_
        refine heavyB_want (by rfl) (fun K' hK' => ?_)
        go_simp
        refine hK' _ _ ((Below.refl _ _).setCell (p := ⟨b17, 0, none⟩) (Nat.le_refl _) _) ?_
        clear hK' K'
        try simp only [Act.put, List.setIfInBounds_toArray, List.set_cons_zero, List.set_cons_succ]
        rw [wpSchedB]
        simp only [List.map_nil]
        refine wpQuiet_nil ?_
        gi_wp2_with fail
        have tn : Turns (fun b => b = b17) X4 (X4.setCell ⟨b17, 0, none⟩ (.slice y2 (k + 1) cy2)) := (Turns.refl (fun b => b = b17) _).setCell (p := ⟨b17, 0, none⟩) (fun _ => rfl) _
        have hz3 := tn.size
        have hdone : InI f gf b13 b17 B nb nm dg w (k + 1) (b13 :: b17 :: rowS y2) (X4.setCell ⟨b17, 0, none⟩ (.slice y2 (k + 1) cy2)) := by
          refine ⟨y2, cy2, os ++ [⟨(q : Int), false, yd, cd, dk⟩], rfl, by go_simp, (World.frozen?_setCell _ _ _ _).trans f17, ho.turn tn (fun b h1 _ e => by omega), ?_, ?_, hf.turn tn (fun a e h => by cases e; simp only at h; omega), hBW.setCell (p := ⟨b17, 0, none⟩) (show w.heap.size ≤ b17 by omega) _⟩
          · rw [List.map_append, HM.out, List.range_succ, List.map_append]
            simp only [List.map_cons, List.map_nil, Ld.opP, Ld.ckO, HDK.out, HPP.out, HQQ.out]
          · have := g13.turn tn (show ¬ b13 = b17 by omega)
            rw [← HK1.out] at this
            exact this
        refine ⟨b13 :: b17 :: rowS y2, fun b hb => ?_, htR.trans (tn.mono (fun i _ e => by subst e; simp)), hdone⟩
        rcases List.mem_cons.1 hb with e | hb
        · subst e; exact ⟨by omega, .inl (by simp)⟩
        rcases List.mem_cons.1 hb with e | hb
        · subst e; exact ⟨by omega, .inl (by simp)⟩
        have hrow := ho.row.low b (rowS_of hb)
        refine ⟨Nat.lt_of_lt_of_le hrow.2 hz3, ?_⟩
        rcases HNEW.out b (rowS_of hb) with e | e
        · exact .inl (by simp only [List.mem_cons]; exact .inr (.inr (rowS_mem e)))
        · exact .inr (by omega)
      · refine heavyB_want (by rfl) (fun K' hK' => ?_)
        go_simp
        refine (HCL _ hdb).mono ?_
        rintro e X2 ⟨yd, cd, rfl, rb, hb⟩
        refine hK' _ _ (hb.mono (by omega)) ?_
        clear hK' K'
        replace rb := rb.weaken (B' := B) (by omega)
        replace c17 := later hb c17
        replace f17 := (hb.frozen (p := ⟨b17, 0, none⟩) hS17).trans f17
        replace ho := ho.later hb
        replace g13 := g13.later hb
        replace hf := hf.later hb
        replace hdb := hdb.later hb
        replace hBW := thru hBW hb
        replace htR := htR.trans (Turns.of_below hb (Nat.le_refl _))
        replace hS17 := Nat.lt_of_lt_of_le hS17 hb.size
        replace hzV := Nat.le_trans hzV hb.size
        clear hb
        try simp only [Act.put, List.setIfInBounds_toArray, List.set_cons_zero, List.set_cons_succ]
        rw [wpSchedB]
        simp only [pick, List.map_cons, List.map_nil, Array.getD_eq_getD_getElem?, List.getElem?_toArray, List.getElem?_cons_succ, List.getElem?_cons_zero, Option.getD_some]
        repeat (first | go_big_quiet_step (fail) | quiet_step (fail))
        refine wpQuiet_nil ?_
        refine ⟨?_, ?_⟩
        · refine heavyB_want (by rfl) (fun K' hK' => ?_)
          go_simp
          refine hK' _ _ (Below.refl _ _) ?_
          clear hK' K'
          try simp only [Act.put, List.setIfInBounds_toArray, List.set_cons_zero, List.set_cons_succ]
          rw [wpSchedB]
          simp only [pick, List.map_nil, Array.getD_eq_getD_getElem?, List.getElem?_toArray, List.getElem?_cons_succ, List.getElem?_cons_zero, Option.getD_some]
          refine wpQuiet_nil ?_
          refine heavyB_want (by rfl) (fun K' hK' => ?_)
          go_simp
          refine hK' _ _ ((Below.refl _ _).alloc (by omega) _) ?_
          clear hK' K'
          have hb := al (Below.refl _ X2) (.cells #[.int .i64 (q : Int), .bool false, .slice yd nd cd] 60)
          have lit : CellsO (X2.alloc (.cells #[.int .i64 (q : Int), .bool false, .slice yd nd cd] 60)) X2.heap.size 0 [⟨(q : Int), false, yd, cd, dk⟩] := cellsO_one ⟨(q : Int), false, yd, cd, dk⟩ (by go_simp) (by go_simp) (by rw [HND.out]; go_simp)
          obtain ⟨X3, hY⟩ : ∃ Y, X2.alloc (.cells #[.int .i64 (q : Int), .bool false, .slice yd nd cd] 60) = Y := ⟨_, rfl⟩
          rw [hY] at hb lit ⊢
          clear hY
          replace c17 := later hb c17
          replace f17 := (hb.frozen (p := ⟨b17, 0, none⟩) hS17).trans f17
          replace ho := ho.later hb
          replace g13 := g13.later hb
          replace hf := hf.later hb
          replace hdb := hdb.later hb
          replace hBW := thru hBW hb
          replace htR := htR.trans (Turns.of_below hb (Nat.le_refl _))
          replace hS17 := Nat.lt_of_lt_of_le hS17 hb.size
          replace hzV := Nat.le_trans hzV hb.size
          replace rb := rb.later hb
          clear hb
          try simp only [Act.put, List.setIfInBounds_toArray, List.set_cons_zero, List.set_cons_succ]
          rw [wpSchedB]
          simp only [pick, List.map_nil, Array.getD_eq_getD_getElem?, List.getElem?_toArray, List.getElem?_cons_succ, List.getElem?_cons_zero, Option.getD_some]
          refine wpQuiet_nil ?_
          refine heavyB_want (by rfl) (fun K' hK' => ?_)
          refine wp_appO _ _ rfl (B := B) HLEN.out ho.row rfl rfl lit (by omega) (by omega) ?_
          intro y2 cy2 X4 h1 hb ht hnew
          have HNEW := Lib.hid hnew
          clear hnew
          refine hK' _ _ (hb.mono (by omega)) ?_
          clear hK' K'
          replace ho := ho.app h1 ht rb (by constructor <;> simp only <;> omega)
          replace c17 := (hb.cell (p := ⟨b17, 0, none⟩) (show b17 < B by omega)).trans c17
          replace f17 := (hb.frozen (p := ⟨b17, 0, none⟩) (show b17 < B by omega)).trans f17
          replace g13 := g13.low hb (by omega)
          replace hf := hf.low hb (fun a e => by cases e; show gf < B; omega)
          replace hBW := hBW.trans (hb.mono (by omega))
          replace htR := htR.trans (ht.mono (fun i _ e => by simp only [List.mem_cons]; exact .inr (.inr (rowS_mem e))))
          replace hS17 := Nat.lt_of_lt_of_le hS17 hb.size
          have hzP := hzV
          replace hzV := Nat.le_trans hzV hb.size
          clear hb ht h1 lit hdb rb
          try simp only [Act.put, List.setIfInBounds_toArray, List.set_cons_zero, List.set_cons_succ]
          rw [wpSchedB]
          simp only [pick, List.map_nil, Array.getD_eq_getD_getElem?, List.getElem?_toArray, List.getElem?_cons_succ, List.getElem?_cons_zero, Option.getD_some]
          refine wpQuiet_nil ?_
          refine heavyB_want (by rfl) (fun K' hK' => ?_)
          go_simp
          refine hK' _ _ ((Below.refl _ _).setCell (p := ⟨b17, 0, none⟩) (Nat.le_refl _) _) ?_
          clear hK' K'
          try simp only [Act.put, List.setIfInBounds_toArray, List.set_cons_zero, List.set_cons_succ]
          rw [wpSchedB]
          simp only [List.map_nil]
          refine wpQuiet_nil ?_
          gi_wp2_with fail
          have tn : Turns (fun b => b = b17) X4 (X4.setCell ⟨b17, 0, none⟩ (.slice y2 (k + 1) cy2)) := (Turns.refl (fun b => b = b17) _).setCell (p := ⟨b17, 0, none⟩) (fun _ => rfl) _
          have hz3 := tn.size
          have hdone : InI f gf b13 b17 B nb nm dg w (k + 1) (b13 :: b17 :: rowS y2) (X4.setCell ⟨b17, 0, none⟩ (.slice y2 (k + 1) cy2)) := by
            refine ⟨y2, cy2, os ++ [⟨(q : Int), false, yd, cd, dk⟩], rfl, by go_simp, (World.frozen?_setCell _ _ _ _).trans f17, ho.turn tn (fun b h1 _ e => by omega), ?_, ?_, hf.turn tn (fun a e h => by cases e; simp only at h; omega), hBW.setCell (p := ⟨b17, 0, none⟩) (show w.heap.size ≤ b17 by omega) _⟩
            · rw [List.map_append, HM.out, List.range_succ, List.map_append]
              simp only [List.map_cons, List.map_nil, Ld.opP, Ld.ckO, HDK.out, HPP.out, HQQ.out]
            · have := g13.turn tn (show ¬ b13 = b17 by omega)
              rw [← HK1.out] at this
              exact this
          refine ⟨b13 :: b17 :: rowS y2, fun b hb => ?_, htR.trans (tn.mono (fun i _ e => by subst e; simp)), hdone⟩
          rcases List.mem_cons.1 hb with e | hb
          · subst e; exact ⟨by omega, .inl (by simp)⟩
          rcases List.mem_cons.1 hb with e | hb
          · subst e; exact ⟨by omega, .inl (by simp)⟩
          have hrow := ho.row.low b (rowS_of hb)
          refine ⟨Nat.lt_of_lt_of_le hrow.2 hz3, ?_⟩
          rcases HNEW.out b (rowS_of hb) with e | e
          · exact .inl (by simp only [List.mem_cons]; exact .inr (.inr (rowS_mem e)))
          · exact .inr (by omega)
        · refine heavyB_want (by rfl) (fun K' hK' => ?_)
          go_simp
          refine hK' _ _ ((Below.refl _ _).alloc (by omega) _) ?_
          clear hK' K'
          have hb := al (Below.refl _ X2) (.cells #[.int .i64 (q : Int), .bool false, .slice yd nd cd] 60)
          have lit : CellsO (X2.alloc (.cells #[.int .i64 (q : Int), .bool false, .slice yd nd cd] 60)) X2.heap.size 0 [⟨(q : Int), false, yd, cd, dk⟩] := cellsO_one ⟨(q : Int), false, yd, cd, dk⟩ (by go_simp) (by go_simp) (by rw [HND.out]; go_simp)
          obtain ⟨X3, hY⟩ : ∃ Y, X2.alloc (.cells #[.int .i64 (q : Int), .bool false, .slice yd nd cd] 60) = Y := ⟨_, rfl⟩
          rw [hY] at hb lit ⊢
          clear hY
          replace c17 := later hb c17
          replace f17 := (hb.frozen (p := ⟨b17, 0, none⟩) hS17).trans f17
          replace ho := ho.later hb
          replace g13 := g13.later hb
          replace hf := hf.later hb
          replace hdb := hdb.later hb
          replace hBW := thru hBW hb
          replace htR := htR.trans (Turns.of_below hb (Nat.le_refl _))
          replace hS17 := Nat.lt_of_lt_of_le hS17 hb.size
          replace hzV := Nat.le_trans hzV hb.size
          replace rb := rb.later hb
          clear hb
          try simp only [Act.put, List.setIfInBounds_toArray, List.set_cons_zero, List.set_cons_succ]
          rw [wpSchedB]
          simp only [pick, List.map_nil, Array.getD_eq_getD_getElem?, List.getElem?_toArray, List.getElem?_cons_zero, Option.getD_some]
          refine wpQuiet_nil ?_
          refine heavyB_want (by rfl) (fun K' hK' => ?_)
          go_simp
          refine hK' _ _ (Below.refl _ _) ?_
          clear hK' K'
          try simp only [Act.put, List.setIfInBounds_toArray, List.set_cons_zero, List.set_cons_succ]
          rw [wpSchedB]
          simp only [pick, List.map_nil, Array.getD_eq_getD_getElem?, List.getElem?_toArray, List.getElem?_cons_succ, List.getElem?_cons_zero, Option.getD_some]
          refine wpQuiet_nil ?_
          refine heavyB_want (by rfl) (fun K' hK' => ?_)
          refine wp_appO _ _ rfl (B := B) HLEN.out ho.row rfl rfl lit (by omega) (by omega) ?_
          intro y2 cy2 X4 h1 hb ht hnew
          have HNEW := Lib.hid hnew
          clear hnew
          refine hK' _ _ (hb.mono (by omega)) ?_
          clear hK' K'
          replace ho := ho.app h1 ht rb (by constructor <;> simp only <;> omega)
          replace c17 := (hb.cell (p := ⟨b17, 0, none⟩) (show b17 < B by omega)).trans c17
          replace f17 := (hb.frozen (p := ⟨b17, 0, none⟩) (show b17 < B by omega)).trans f17
          replace g13 := g13.low hb (by omega)
          replace hf := hf.low hb (fun a e => by cases e; show gf < B; omega)
          replace hBW := hBW.trans (hb.mono (by omega))
          replace htR := htR.trans (ht.mono (fun i _ e => by simp only [List.mem_cons]; exact .inr (.inr (rowS_mem e))))
          replace hS17 := Nat.lt_of_lt_of_le hS17 hb.size
          have hzP := hzV
          replace hzV := Nat.le_trans hzV hb.size
          clear hb ht h1 lit hdb rb
          try simp only [Act.put, List.setIfInBounds_toArray, List.set_cons_zero, List.set_cons_succ]
          rw [wpSchedB]
          simp only [pick, List.map_nil, Array.getD_eq_getD_getElem?, List.getElem?_toArray, List.getElem?_cons_succ, List.getElem?_cons_zero, Option.getD_some]
          refine wpQuiet_nil ?_
          refine heavyB_want (by rfl) (fun K' hK' => ?_)
          go_simp
          refine hK' _ _ ((Below.refl _ _).setCell (p := ⟨b17, 0, none⟩) (Nat.le_refl _) _) ?_
          clear hK' K'
          try simp only [Act.put, List.setIfInBounds_toArray, List.set_cons_zero, List.set_cons_succ]
          rw [wpSchedB]
          simp only [List.map_nil]
          refine wpQuiet_nil ?_
          gi_wp2_with fail
          have tn : Turns (fun b => b = b17) X4 (X4.setCell ⟨b17, 0, none⟩ (.slice y2 (k + 1) cy2)) := (Turns.refl (fun b => b = b17) _).setCell (p := ⟨b17, 0, none⟩) (fun _ => rfl) _
          have hz3 := tn.size
          have hdone : InI f gf b13 b17 B nb nm dg w (k + 1) (b13 :: b17 :: rowS y2) (X4.setCell ⟨b17, 0, none⟩ (.slice y2 (k + 1) cy2)) := by
            refine ⟨y2, cy2, os ++ [⟨(q : Int), false, yd, cd, dk⟩], rfl, by go_simp, (World.frozen?_setCell _ _ _ _).trans f17, ho.turn tn (fun b h1 _ e => by omega), ?_, ?_, hf.turn tn (fun a e h => by cases e; simp only at h; omega), hBW.setCell (p := ⟨b17, 0, none⟩) (show w.heap.size ≤ b17 by omega) _⟩
            · rw [List.map_append, HM.out, List.range_succ, List.map_append]
              simp only [List.map_cons, List.map_nil, Ld.opP, Ld.ckO, HDK.out, HPP.out, HQQ.out]
            · have := g13.turn tn (show ¬ b13 = b17 by omega)
              rw [← HK1.out] at this
              exact this
          refine ⟨b13 :: b17 :: rowS y2, fun b hb => ?_, htR.trans (tn.mono (fun i _ e => by subst e; simp)), hdone⟩
          rcases List.mem_cons.1 hb with e | hb
          · subst e; exact ⟨by omega, .inl (by simp)⟩
          rcases List.mem_cons.1 hb with e | hb
          · subst e; exact ⟨by omega, .inl (by simp)⟩
          have hrow := ho.row.low b (rowS_of hb)
          refine ⟨Nat.lt_of_lt_of_le hrow.2 hz3, ?_⟩
          rcases HNEW.out b (rowS_of hb) with e | e
          · exact .inl (by simp only [List.mem_cons]; exact .inr (.inr (rowS_mem e)))
          · exact .inr (by omega)
  case done =>
    rintro S W hz ⟨y, cy1, os, rfl, c17, f17, ho, hm, g13, hf, hBW⟩ hD
    have hlen := InI.len hm
    have hzB : B ≤ W.heap.size := by
      obtain ⟨g0, _, h1, h2⟩ := ho.row.some_of (by omega)
      omega
    have HLEN := Lib.hid hlen
    have HM := Lib.hid hm
    have zb17 : b17 < B ∧ b13 < b17 ∧ W13.heap.size < B := by omega
    have HRB := Lib.hid (Ld.rbytes_len ⟨nb, mN, nm, dg⟩)
    have HE := fun V => renc_any ⟨nb, mN, nm, dg⟩ hnm1 V
    unfold OwnOf at HE
    obtain ⟨rb, hrb⟩ : ∃ l, Ld.rbytes ⟨nb, mN, nm, dg⟩ = l := ⟨_, rfl⟩
    rw [hrb] at HE HRB HNXT
    rw [HRB.out] at HE
    obtain ⟨bD, hbD⟩ : ∃ b, W13.heap.size = b := ⟨_, rfl⟩
    rw [hbD] at hD zb17 ⊢
    clear hlen hm hrb hf f17 h0 HYI hz HCK hBe hcf
    gi_wp2_with fail
    refine hK.out _ _ ?_
    clear hK K
    try dsimp only
    refine wp_seq_k (fun K hK => ?_)
    replace hK := Lib.hid hK
    refine wp_cutN (fun a' W' => ∃ (y2 : Option Addr) (cy2 : Nat) (os2 : List OpV), os2.length = mN + 1 ∧ OwnsOp B W' y2 cy2 os2 ∧ os2.map Ld.opP = Ld.insP ls s root h ∧ Below w.heap.size w W' ∧ W'.heap[bD]? = some (.deferred (some [])) ∧ ∃ u : Nat → Value, a' = { tmps := #[u 0, u 1, u 2, u 3, u 4, u 5, u 6, u 7, .slice y2 (mN + 1) cy2, .int .i64 0, u 10, u 11, u 12, u 13, u 14, u 15, u 16, u 17, u 18, u 19, u 20, u 21, u 22, u 23, u 24, u 25, u 26, u 27, u 28, u 29, u 30, u 31, u 32, u 33, u 34, u 35, u 36, u 37, u 38, u 39, u 40, u 41, u 42, u 43, u 44, u 45, u 46, u 47, u 48, u 49, u 50, u 51, u 52, u 53, u 54, u 55, u 56, u 57, u 58, u 59, u 60, u 61, u 62, u 63, u 64, u 65, u 66, u 67, u 68, u 69, u 70, u 71, u 72, u 73, u 74, u 75, u 76, u 77, u 78, u 79, u 80, u 81, u 82, u 83, u 84, u 85, u 86, u 87, u 88, u 89, u 90, u 91, u 92, u 93, u 94, u 95, u 96, u 97, u 98, u 99, u 100, u 101, u 102, u 103, u 104, u 105, u 106, u 107], defers := [{ target := .collected bD, args := #[] }] }) ?_ ?_
    · go_wp2_with fail
      refine wp_region_schedB (B := B) (fun X => X.cell? ⟨b17, 0, none⟩ = some (.slice y mN cy1) ∧ OwnsOp B X y cy1 os ∧ Blk X b13 0 4 (recF ⟨nb, mN, nm, dg⟩) ∧ Below w.heap.size w X ∧ X.heap[bD]? = some (.deferred (some [])) ∧ B ≤ X.heap.size) (.one [0, 1, 2] 3 (.one [4] 5 (.one [] 6 (.done [7, 8])))) (by kernel_rfl) (by kernel_rfl) (fun _ _ _ _ _ h => h) ⟨by go_simp, ho.later (Below.refl _ _).drew, g13.later (Below.refl _ _).drew, hBW.drew, hD, hzB⟩ ?_
      clear c17 ho g13 hBW hD hzB
      rintro X ⟨c17, ho, g13, hBW, hD, hzB⟩
      rw [wpSchedB]
      simp only [pick, List.map_cons, List.map_nil, Array.getD_eq_getD_getElem?, List.getElem?_toArray, List.getElem?_cons_succ, List.getElem?_cons_zero, Option.getD_some]
      have k1_ := plusB_cell (B := B) c17 (by simp; omega)
      have r13 := loadN_B (B := B) (t := 90) g13 (show b13 < B by omega) (fun X h => run_loadRec h)
      iterate 2 (first | go_big_quiet_step (fail) | quiet_step (fail))
      (refine wpQuiet_loadN rfl _ (.tmp 13) rfl (b := b13) (q := 0) rfl r13 ?_; try simp only [Act.put, List.setIfInBounds_toArray, List.set_cons_zero, List.set_cons_succ])
      refine wpQuiet_nil ?_
      clear k1_ r13 c17 g13
      refine heavyB_want (by rfl) (fun K' hK' => ?_)
      go_simp
      refine (HE _).mono ?_
      rintro e X1 ⟨yd, cd, rfl, ro, hb⟩
      refine hK' _ _ (hb.mono (by omega)) ?_
      clear hK' K'
      replace ro := ro.weaken (B' := B) (by omega)
      replace ho := ho.later hb
      replace hBW := thru hBW hb
      replace hD := (hb.block bD (by omega)).trans hD
      replace hzB := Nat.le_trans hzB hb.size
      clear hb HE
      try simp only [Act.put, List.setIfInBounds_toArray, List.set_cons_zero, List.set_cons_succ]
      rw [wpSchedB]
      simp only [pick, List.map_cons, List.map_nil, Array.getD_eq_getD_getElem?, List.getElem?_toArray, List.getElem?_cons_succ, List.getElem?_cons_zero, Option.getD_some]
      repeat (first | go_big_quiet_step (fail) | quiet_step (fail))
      refine wpQuiet_nil ?_
      refine heavyB_want (by rfl) (fun K' hK' => ?_)
      go_simp
      refine hK' _ _ ((Below.refl _ _).alloc (by omega) _) ?_
      clear hK' K'
      have hb := al (Below.refl _ X1) (.cells #[.int .i64 (to : Int), .bool false, .slice yd 14 cd] 60)
      have lit : CellsO (X1.alloc (.cells #[.int .i64 (to : Int), .bool false, .slice yd 14 cd] 60)) X1.heap.size 0 [⟨(to : Int), false, yd, cd, rb⟩] := cellsO_one ⟨(to : Int), false, yd, cd, rb⟩ (by go_simp) (by go_simp) (by rw [HRB.out]; go_simp)
      obtain ⟨X2, hY⟩ : ∃ Y, X1.alloc (.cells #[.int .i64 (to : Int), .bool false, .slice yd 14 cd] 60) = Y := ⟨_, rfl⟩
      rw [hY] at hb lit ⊢
      clear hY
      replace ro := ro.later hb
      replace ho := ho.later hb
      replace hBW := thru hBW hb
      replace hD := (hb.block bD (by omega)).trans hD
      replace hzB := Nat.le_trans hzB hb.size
      clear hb
      try simp only [Act.put, List.setIfInBounds_toArray, List.set_cons_zero, List.set_cons_succ]
      rw [wpSchedB]
      simp only [pick, List.map_nil, Array.getD_eq_getD_getElem?, List.getElem?_toArray, List.getElem?_cons_succ, List.getElem?_cons_zero, Option.getD_some]
      refine wpQuiet_nil ?_
      refine heavyB_want (by rfl) (fun K' hK' => ?_)
      refine wp_appO _ _ rfl (B := B) HLEN.out ho.row rfl rfl lit (by omega) (by omega) ?_
      intro y2 cy2 X3 h1 hb ht _
      refine hK' _ _ hb ?_
      clear hK' K'
      replace ho := ho.app h1 ht ro (by constructor <;> simp only <;> omega)
      replace hBW := hBW.trans (hb.mono (by omega))
      replace hD := (hb.block bD (by omega)).trans hD
      clear hb ht h1 lit ro
      try simp only [Act.put, List.setIfInBounds_toArray, List.set_cons_zero, List.set_cons_succ]
      rw [wpSchedB]
      simp only [pick, List.map_cons, List.map_nil, Array.getD_eq_getD_getElem?, List.getElem?_toArray, List.getElem?_cons_succ, List.getElem?_cons_zero, Option.getD_some]
      repeat (first | go_big_quiet_step (fail) | quiet_step (fail))
      refine wpQuiet_nil ?_
      refine NormQ.mk ⟨y2, cy2, os ++ [⟨(to : Int), false, yd, cd, rb⟩], ?_, ho, ?_, hBW, hD, ex_frame (by kernel_rfl)⟩
      · rw [List.length_append, HLEN.out]; rfl
      · rw [HNXT.out, List.map_append, HM.out]; rfl
    clear c17 ho g13 hBW hD hzB HLEN HM HRB HE HNXT
    rintro a' W' ⟨y2, cy2, os2, hl2, ho, hm2, hBW, hD, u, rfl⟩
    refine hK.out _ _ ?_
    clear hK K
    try dsimp only
    go_wp2_with fail
    refine ret_mark (.tuple #[.slice y2 (mN + 1) cy2, .int .i64 0]) hD (fun W9 ht => ⟨by simp [results, Tryz.f19, go_sem], ?_⟩)
    exact ⟨y2, cy2, os2, by rw [hl2, HCD.out], (ho.turn ht (fun b h1 _ e => by omega)).weaken (by omega), hm2, hBW.trans (ht.below hBW.size (fun i hi e => by omega))⟩

end Go.Proofs.YtapefonhgkjgnaaGreat
