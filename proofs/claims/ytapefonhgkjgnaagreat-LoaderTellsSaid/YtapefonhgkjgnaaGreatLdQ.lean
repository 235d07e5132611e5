/- WALKS of the loader: Install, where it does not install; the whole contract. -/
import Derived.Test.YtapefonhgkjgnaaGreatLdO
set_option maxRecDepth 20000
namespace Go.Proofs.YtapefonhgkjgnaaGreat
open Go.RowKit

set_option maxHeartbeats 2000000 in
theorem ins_no (x : Option Addr) (rs : List Rw) (c : Nat) (s : Ld.Sw) (sa : SwA) (root : D64) (h : Int) (w : World) (hs : Rws w x rs) (hn : rs.length ≤ 1000) (hi : SwIn w s sa) (hcd : Ld.cdI (rs.map (·.l)) s root h ≠ 0) :
    Calls Tryz.prog 19 #[.agg #[.slice x rs.length c], aggN 23 (softV s sa), .int .u64 (num root), .int .i64 h] w (InsOf (rs.map (·.l)) s root h w) := by
  have HU := fun (W : World) (hW : Rws W x rs) => usable_any x rs c W hW hn
  have HR := fun (W : World) (hW : Rws W x rs) => running_any x rs c root h W hW hn
  obtain ⟨ls, hls⟩ : ∃ ls, rs.map (·.l) = ls := ⟨_, rfl⟩
  rw [hls] at HU HR hcd ⊢
  obtain ⟨nr, hnr⟩ : ∃ n, rs.length = n := ⟨_, rfl⟩
  rw [hnr] at HU HR ⊢
  clear hls hnr hn
  have HV := fun (W : World) (hW : SwIn W s sa) => vsoft_any s sa W hW
  have HG := fun (W : World) (hW : SwIn W s sa) => genu_any s sa root h W hW
  unfold RunOf at HR
  have HC : Hid (Ld.cdI ls s root h = if (Ld.usable ls && s.vld) = true then (if Ld.genu s root h = true then (if 0 ≤ Ld.atR ls root h then (if s.ver ≤ (Ld.ldS ls (Ld.atR ls root h).toNat).ver then 382 else if (Ld.ldR ls (Ld.atR ls root h).toNat).number = 4294967295 then 4 else 0) else 0) else 381) else 2) := rfl
  have HCD := Lib.hid hcd
  obtain ⟨us, hus⟩ : ∃ b, Ld.usable ls = b := ⟨_, rfl⟩
  rw [hus] at HU HC
  obtain ⟨v, hv⟩ : ∃ b, s.vld = b := ⟨_, rfl⟩
  rw [hv] at HV HC
  obtain ⟨g, hg⟩ : ∃ b, Ld.genu s root h = b := ⟨_, rfl⟩
  rw [hg] at HG HC
  obtain ⟨at_, hat⟩ : ∃ z, Ld.atR ls root h = z := ⟨_, rfl⟩
  rw [hat] at HR HC
  clear hus hv hg hat hcd
  have hB := Below.refl w.heap.size w
  go_enter Tryz.func19, Tryz.ntmps19
  go_wp2_with (refine wpList_boxN (n := 23) (v := softV s sa) rfl _ _ rfl rfl ?_; intro W5 g5 hb5 hz5; refine Hid.out ?_)
  unfold Hid
  try simp only [Act.put, List.setIfInBounds_toArray, List.set_cons_zero, List.set_cons_succ]
  have hBa := thru (al hB _) hb5
  have c4 := later (a := ⟨w.heap.size, 0, none⟩) (v := .slice x nr c) hb5 (by go_simp)
  simp only [World.size_alloc] at g5 hz5
  obtain ⟨b4, e4⟩ : ∃ b, w.heap.size = b := ⟨_, rfl⟩
  rw [e4] at c4 g5 hz5
  obtain ⟨b5, e5⟩ : ∃ b, b4 + 1 = b := ⟨_, rfl⟩
  rw [e5] at g5 hz5
  simp only [e4, e5]
  replace hB := hBa
  clear hBa hb5
  have z45 : b4 < b5 := by omega
  have z5 : b5 < W5.heap.size := by omega
  clear hz5 e5
  go_wp2_with fail
  refine (HU _ (hs.later hB)).mono ?_
  rintro e w1 ⟨rfl, hb⟩
  replace c4 := later hb c4
  replace g5 := g5.later hb
  replace hB := thru hB hb
  replace z5 := Nat.lt_of_lt_of_le z5 hb.size
  clear hb HU
  cases us with
  | false =>
    clear HV HG HR g5 c4 hs hi
    go_wp2_with fail
    refine bodyPost_ret (v := .tuple #[.slice none 0 0, .int .i64 2]) (by simp [results, Tryz.f19, go_sem]) rfl ?_
    exact InsOf.no (by rw [HC.out]; rfl) (by decide) hB
  | true =>
    go_wp2_with (refine wpList_loadN_w rfl _ _ rfl (b := b5) (q := 0) rfl (run_loadSw g5) ?_)
    refine (HV _ (hi.later hB)).mono ?_
    rintro e w2 ⟨rfl, hb⟩
    replace c4 := later hb c4
    replace g5 := g5.later hb
    replace hB := thru hB hb
    replace z5 := Nat.lt_of_lt_of_le z5 hb.size
    clear hb HV
    cases v with
    | false =>
      clear HG HR g5 c4 hs hi
      go_wp2_with fail
      refine bodyPost_ret (v := .tuple #[.slice none 0 0, .int .i64 2]) (by simp [results, Tryz.f19, go_sem]) rfl ?_
      exact InsOf.no (by rw [HC.out]; rfl) (by decide) hB
    | true =>
      go_wp2_with (refine wpList_loadN rfl _ _ rfl (b := b5) (q := 0) rfl (run_loadSw g5) ?_)
      refine (HG _ (hi.later hB)).mono ?_
      rintro e w3 ⟨rfl, hb⟩
      replace c4 := later hb c4
      replace g5 := g5.later hb
      replace hB := thru hB hb
      replace z5 := Nat.lt_of_lt_of_le z5 hb.size
      clear hb HG
      cases g with
      | false =>
        clear HR g5 c4 hs hi
        go_wp2_with fail
        refine bodyPost_ret (v := .tuple #[.slice none 0 0, .int .i64 381]) (by simp [results, Tryz.f19, go_sem]) rfl ?_
        exact InsOf.no (by rw [HC.out]; rfl) (by decide) hB
      | true =>
        go_wp2_with fail
        refine (HR _ (hs.later hB)).mono ?_
        rintro e w4 ⟨ro, so, ao, rfl, ino, nwo, hqo, hb⟩
        replace g5 := g5.later hb
        replace hB := thru hB hb
        replace z5 := Nat.lt_of_lt_of_le z5 hb.size
        clear hb HR hs c4 nwo
        have hp : 0 ≤ at_ := Decidable.byContradiction fun hneg => HCD.out (by rw [HC.out, if_neg hneg]; rfl)
        obtain ⟨q1, q2⟩ := hqo hp
        have HC2 : Hid (Ld.cdI ls s root h = if s.ver ≤ so.ver then 382 else if ro.number = 4294967295 then 4 else 0) := by show _ = _; rw [HC.out, q1, q2]; simp only [Bool.and_self, if_true, if_pos hp]
        clear hqo q1 q2 HC
        go_wp2_with (refine wpList_allocTo 10 rfl rfl _ rfl rec_zero ?_; intro Xt0 a_b10 hb0 hz0; refine Hid.out ?_)
        unfold Hid
        try simp only [Act.put, List.setIfInBounds_toArray, List.set_cons_zero, List.set_cons_succ]
        obtain ⟨b10, e_b10⟩ : ∃ a, w4.heap.size = a := ⟨_, rfl⟩
        have s_b10 : w4.heap.size ≤ b10 := by omega
        have hb := hb0
        rw [e_b10] at a_b10 hz0 ⊢
        clear hb0
        go_wp2_with (refine wpList_allocTo 11 rfl rfl _ rfl soft_zero ?_; intro Xt1 a_b11 hb1 hz1; refine Hid.out ?_)
        unfold Hid
        try simp only [Act.put, List.setIfInBounds_toArray, List.set_cons_zero, List.set_cons_succ]
        obtain ⟨b11, e_b11⟩ : ∃ a, Xt0.heap.size = a := ⟨_, rfl⟩
        have s_b11 : w4.heap.size ≤ b11 := by omega
        have s_b10b11 : b10 < b11 := by omega
        replace hb := thru hb hb1
        replace a_b10 := a_b10.later hb1
        rw [e_b11] at a_b11 hz1 ⊢
        clear hb1
        have hz : b10 < Xt1.heap.size ∧ b11 < Xt1.heap.size := by omega
        clear e_b10 hz0 e_b11 hz1
        go_wp2_with (refine wpList_storeB rfl rfl _ (.tmp 10) _ rfl (b := b10) (q := 0) rfl (n := 4) (v := recF ro) rfl a_b10 (fun j _ => rec_one _ _) rec_size ?_; intro Yt0 t1; refine Hid.out ?_)
        unfold Hid
        replace hb := t1.below _ _ (by omega) hb
        replace a_b10 := t1.blk
        replace a_b11 := t1.other (.inl (by omega)) a_b11
        rw [← t1.size] at hz
        clear t1
        go_wp2_with (refine wpList_storeB rfl rfl _ (.tmp 11) _ rfl (b := b11) (q := 0) rfl (n := 23) (v := softV so ao) rfl a_b11 (fun j _ => soft_one _ _ _) soft_size ?_; intro Yt1 t1; refine Hid.out ?_)
        unfold Hid
        replace hb := t1.below _ _ (by omega) hb
        replace a_b11 := t1.blk
        replace a_b10 := t1.other (.inl (by omega)) a_b10
        rw [← t1.size] at hz
        clear t1
        replace g5 := g5.later hb
        replace hB := thru hB hb
        clear hb hz
        clear ino s_b10 s_b11 s_b10b11
        go_wp2_with (refine wpList_allocTo 13 rfl rfl _ rfl rec_zero ?_; intro Xv0 a_b13 hb0 hz0; refine Hid.out ?_)
        unfold Hid
        try simp only [Act.put, List.setIfInBounds_toArray, List.set_cons_zero, List.set_cons_succ]
        obtain ⟨b13, e_b13⟩ : ∃ a, Yt1.heap.size = a := ⟨_, rfl⟩
        have s_b13 : Yt1.heap.size ≤ b13 := by omega
        have hb := hb0
        rw [e_b13] at a_b13 hz0 ⊢
        clear hb0
        have hz : b13 < Xv0.heap.size := by omega
        clear e_b13 hz0
        go_wp2_with (refine wpList_storeB rfl rfl _ (.tmp 13) _ rfl (b := b13) (q := 0) rfl (n := 4) (v := recF ⟨0, 0, 1, 0#64⟩) rfl a_b13 (fun j _ => rec_one _ _) rec_size ?_; intro Yv0 t1; refine Hid.out ?_)
        unfold Hid
        replace hb := t1.below _ _ (by omega) hb
        replace a_b13 := t1.blk
        rw [← t1.size] at hz
        clear t1
        replace g5 := g5.later hb
        replace a_b10 := a_b10.later hb
        replace a_b11 := a_b11.later hb
        replace hB := thru hB hb
        clear hb hz
        clear a_b13 s_b13
        obtain ⟨vs, hvs⟩ : ∃ v, s.ver = v := ⟨_, rfl⟩
        obtain ⟨vo, hvo⟩ : ∃ v, so.ver = v := ⟨_, rfl⟩
        obtain ⟨nmo, hnmo⟩ : ∃ v, ro.number = v := ⟨_, rfl⟩
        have cv := g5.ver
        have co := a_b11.ver
        have cn := a_b10.numb
        rw [hvs] at cv HC2
        rw [hvo] at co HC2
        rw [hnmo] at cn HC2
        clear hvs hvo hnmo g5 a_b10 a_b11 hi
        have d1 : decide (at_ ≥ 0) = true := by simp; omega
        have d2 : decide (0 ≤ at_) = true := by simp; omega
        by_cases h1 : vs ≤ vo
        · have d3 : decide (vs ≤ vo) = true := decide_eq_true h1
          go_wp2_with fail
          refine bodyPost_ret (v := .tuple #[.slice none 0 0, .int .i64 382]) (by simp [results, Tryz.f19, go_sem]) rfl ?_
          exact InsOf.no (by rw [HC2.out]; exact if_pos h1) (by decide) hB
        · have hnm : nmo = 4294967295 := Decidable.byContradiction fun hne => HCD.out (by rw [HC2.out, if_neg (by omega), if_neg hne])
          subst hnm
          have d3 : decide (vs ≤ vo) = false := decide_eq_false h1
          go_wp2_with fail
          refine bodyPost_ret (v := .tuple #[.slice none 0 0, .int .i64 4]) (by simp [results, Tryz.f19, go_sem]) rfl ?_
          exact InsOf.no (by rw [HC2.out]; rw [if_neg (by omega)]; simp) (by decide) hB

theorem install_any (x : Option Addr) (rs : List Rw) (c : Nat) (s : Ld.Sw) (sa : SwA) (root : D64) (h : Int) (w : World) (hs : Rws w x rs) (hn : rs.length ≤ 1000) (hi : SwIn w s sa) :
    Calls Tryz.prog 19 #[.agg #[.slice x rs.length c], aggN 23 (softV s sa), .int .u64 (num root), .int .i64 h] w (InsOf (rs.map (·.l)) s root h w) := by
  by_cases hcd : Ld.cdI (rs.map (·.l)) s root h = 0
  · exact ins_yes x rs c s sa root h w hs hn hi hcd
  · exact ins_no x rs c s sa root h w hs hn hi hcd

end Go.Proofs.YtapefonhgkjgnaaGreat
