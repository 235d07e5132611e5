/- WALKS of the loader: lead. -/
import Derived.Test.YtapefonhgkjgnaaGreatLdK
set_option maxRecDepth 20000
namespace Go.Proofs.YtapefonhgkjgnaaGreat
open Go.RowKit

theorem rdM_len (ls : List (List UInt8)) (j : Int) : (rdM ls j).length ≤ 255 := by
  unfold rdM
  split
  · unfold readD
    rw [List.length_take]
    have := (((ls.getD j.toNat []).getD 0 0)).toNat_lt
    omega
  · simp
theorem gat_len (ls : List (List UInt8)) (p : Nat) : ∀ n, (Ld.gat ls p n).length ≤ 255 * n
  | 0 => by simp [Ld.gat]
  | n + 1 => by
    unfold Ld.gat
    rw [List.length_append]
    have := gat_len ls p n
    have := rdM_len ls ((p + n : Nat) : Int)
    omega
theorem okL_okR {ls : List (List UInt8)} {i : Nat} {root : D64} {g : Int} (h : Ld.okR (rdM ls (i : Int)) = false) : Ld.okL ls i root g = false := by
  cases hk : Ld.okL ls i root g with
  | false => rfl
  | true => rw [((Ld.okL_iff _ _ _ _).1 hk).2.1] at h; cases h
theorem okL_rest {ls : List (List UInt8)} {i : Nat} {root : D64} {g : Int} (h0 : rdC ls (i : Int) = 0) (h1 : Ld.okR (rdM ls (i : Int)) = true) (h2 : Ld.gok ls (2 + 16 * (Ld.ldR ls i).bank) (Ld.ldR ls i).chunks = true) :
    Ld.okL ls i root g = (Ld.okU (Ld.ldF ls i) && ((Dig.ofL (Ld.ldF ls i) == (Ld.ldR ls i).dg) && Ld.genu (Ld.ldS ls i) root g)) := by
  rw [Bool.eq_iff_iff, Ld.okL_iff]
  simp only [Bool.and_eq_true, beq_iff_eq]
  exact ⟨fun h => ⟨h.2.2.2.1, h.2.2.2.2.1, h.2.2.2.2.2⟩, fun h => ⟨h0, h1, h2, h.1, h.2.1, h.2.2⟩⟩
def LeadOf (ls : List (List UInt8)) (i : Nat) (root : D64) (h : Int) (w : World) (e : Ending) (w' : World) : Prop :=
  ∃ r s a, e = .returned (.tuple #[aggN 4 (recF r), aggN 23 (softV s a), .bool (Ld.okL ls i root h)]) ∧ SwIn w' s a ∧ SwNew w.heap.size a ∧ (Ld.okL ls i root h = true → r = Ld.ldR ls i ∧ s = Ld.ldS ls i) ∧ Below w.heap.size w w'
theorem LeadOf.no {ls : List (List UInt8)} {i : Nat} {root : D64} {h : Int} {w w' : World} {r : Ld.Rec} {s : Ld.Sw} {a : SwA} (hk : Ld.okL ls i root h = false) (hs : SwIn w' s a) (hw : SwNew w.heap.size a) (hb : Below w.heap.size w w') : LeadOf ls i root h w (.returned (.tuple #[aggN 4 (recF r), aggN 23 (softV s a), .bool false])) w' :=
  ⟨r, s, a, by rw [hk], hs, hw, (fun e => by rw [hk] at e; cases e), hb⟩
theorem LeadOf.yes {ls : List (List UInt8)} {i : Nat} {root : D64} {h : Int} {w w' : World} {r : Ld.Rec} {s : Ld.Sw} {a : SwA} (hk : Ld.okL ls i root h = true) (hs : SwIn w' s a) (hw : SwNew w.heap.size a) (h1 : r = Ld.ldR ls i) (h2 : s = Ld.ldS ls i) (hb : Below w.heap.size w w') : LeadOf ls i root h w (.returned (.tuple #[aggN 4 (recF r), aggN 23 (softV s a), .bool true])) w' :=
  ⟨r, s, a, by rw [hk], hs, hw, (fun _ => ⟨h1, h2⟩), hb⟩
/-- What lead returns out of its boxes. -/
theorem lead_ret {fn : Func} {R : Ending → World → Prop} {a : Act} {W : World} {b4 b5 : Nat} {v4 v5 : Nat → Value} {v6 : Value} {p q u : Tmp}
    (hf : fn.results = #[.cell p 90, .cell q 29, .tmp u]) (h4 : a.tmps.getD p undef = .pointer (some ⟨b4, 0, none⟩)) (h5 : a.tmps.getD q undef = .pointer (some ⟨b5, 0, none⟩)) (h6 : a.tmps.getD u undef = v6) (hd : a.defers = [])
    (g4 : Blk W b4 0 4 v4) (g5 : Blk W b5 0 23 v5) (hR : R (.returned (.tuple #[aggN 4 v4, aggN 23 v5, v6])) W) : bodyPost Tryz.prog fn R .ret a W := by
  refine bodyPost_ret (v := .tuple #[aggN 4 v4, aggN 23 v5, v6]) ?_ hd hR
  rw [results_cell_cell_tmp hf, h4, h5, h6]
  simp [asAddr, Result.andThen]
  rw [run_loadRec g4]
  simp
  rw [run_loadSw g5]

set_option maxHeartbeats 4000000 in
theorem lead_any (x : Option Addr) (rs : List Rw) (c : Nat) (i : Nat) (root : D64) (h : Int) (w : World) (hs : Rws w x rs) (hn : rs.length ≤ 1000) :
    Calls Tryz.prog 79 #[.agg #[.slice x rs.length c, .int .u64 (num root), .int .i64 h], .int .i64 (i : Int)] w (LeadOf (rs.map (·.l)) i root h w) := by
  have HR := fun (j : Int) (W : World) (hW : Rws W x rs) => read_any x rs c j W hW hn
  unfold ReadOf at HR
  obtain ⟨ls, hls⟩ : ∃ ls, rs.map (·.l) = ls := ⟨_, rfl⟩
  rw [hls] at HR ⊢
  obtain ⟨nr, hnr⟩ : ∃ n, rs.length = n := ⟨_, rfl⟩
  rw [hnr] at HR ⊢
  clear hls hnr hn
  have HR0 := HR (i : Int)
  have HOK := @Ld.okL_read ls i root h
  obtain ⟨cd, hcd⟩ : ∃ z, rdC ls (i : Int) = z := ⟨_, rfl⟩
  obtain ⟨d, hd⟩ : ∃ l, rdM ls (i : Int) = l := ⟨_, rfl⟩
  rw [hcd] at HR0 HOK
  rw [hd] at HR0
  have HCD := Lib.hid hcd
  have HD := Lib.hid hd
  have hdl := Lib.hid (rdM_len ls (i : Int))
  rw [hd] at hdl
  clear hcd hd
  go_enter Tryz.func79, Tryz.ntmps79
  go_wp2_with (refine wpList_boxN (n := 3) (v := fun j => if j = 0 then .slice x nr c else if j = 1 then .int .u64 (num root) else .int .i64 h) rfl _ _ rfl rfl ?_; intro W2 g2 hb2 hz2; refine Hid.out ?_)
  unfold Hid
  try simp only [Act.put, List.setIfInBounds_toArray, List.set_cons_zero, List.set_cons_succ]
  go_wp2_with (refine wpList_allocTo 4 rfl rfl _ rfl rec_zero ?_; intro W4 g4 hb4 hz4; refine Hid.out ?_)
  unfold Hid
  try simp only [Act.put, List.setIfInBounds_toArray, List.set_cons_zero, List.set_cons_succ]
  go_wp2_with (refine wpList_allocTo 5 rfl rfl _ rfl soft_zero ?_; intro W5 g5 hb5 hz5; refine Hid.out ?_)
  unfold Hid
  try simp only [Act.put, List.setIfInBounds_toArray, List.set_cons_zero, List.set_cons_succ]
  have hs := ((hs.later hb2).later hb4).later hb5
  have g4 := g4.later hb5
  have c0 := later hb5 (later hb4 (g2.at 0 (by omega)).1)
  have c1 := later hb5 (later hb4 (g2.at 1 (by omega)).1)
  have c2 := later hb5 (later hb4 (g2.at 2 (by omega)).1)
  simp only [if_true, if_neg (show ¬ (1 : Nat) = 0 by decide), if_neg (show ¬ (2 : Nat) = 0 by decide), if_neg (show ¬ (2 : Nat) = 1 by decide)] at c0 c1 c2
  have hB := thru (thru hb2 hb4) hb5
  obtain ⟨b2, e2⟩ : ∃ b, w.heap.size = b := ⟨_, rfl⟩
  obtain ⟨b4, e4⟩ : ∃ b, W2.heap.size = b := ⟨_, rfl⟩
  obtain ⟨b5, e5⟩ : ∃ b, W4.heap.size = b := ⟨_, rfl⟩
  rw [e2] at c0 c1 c2 hB hz2 ⊢
  rw [e4] at g4 hz2 hz4 ⊢
  rw [e5] at g5 hz4 hz5 ⊢
  clear hb2 hb4 hb5 g2
  have z2 : b2 < W5.heap.size := by omega
  have z4 : b4 < W5.heap.size := by omega
  have z5 : b5 < W5.heap.size := by omega
  have z24 : b2 < b4 := by omega
  have z45 : b4 < b5 := by omega
  clear e4 e5 hz2 hz4 hz5
  go_wp2_with fail
  refine (HR0 _ hs).mono ?_
  rintro e w1 ⟨y, cy, rfl, yo, hb⟩
  replace c0 := later hb c0
  replace c1 := later hb c1
  replace c2 := later hb c2
  replace g4 := g4.later hb
  replace g5 := g5.later hb
  replace hs := hs.later hb
  replace hB := hB.trans (hb.mono (by omega))
  replace z2 := Nat.lt_of_lt_of_le z2 hb.size
  replace z4 := Nat.lt_of_lt_of_le z4 hb.size
  replace z5 := Nat.lt_of_lt_of_le z5 hb.size
  clear hb HR0
  by_cases hc0 : ¬ cd = 0
  · have k0 : (cd == 0) = false := by simpa using hc0
    have k1 : (cd != 0) = true := by simpa using hc0
    clear c0 c1 c2 hs yo
    go_wp2_with (refine wpList_storeB rfl rfl _ (.tmp 4) _ rfl (b := b4) (q := 0) rfl (n := 4) (v := recF zRec) rfl g4 (fun j _ => rec_one _ _) rec_size ?_; intro Y1 u1; refine Hid.out ?_)
    unfold Hid
    try simp only [Act.put, List.setIfInBounds_toArray, List.set_cons_zero, List.set_cons_succ]
    replace g5 := u1.other (.inl (by omega)) g5
    replace hB := u1.below _ _ (by omega) hB
    replace g4 := u1.blk
    clear u1
    go_wp2_with (refine wpList_storeB rfl rfl _ (.tmp 5) _ rfl (b := b5) (q := 0) rfl (n := 23) (v := softV zSw zA) rfl g5 (fun j _ => soft_one _ _ _) soft_size ?_; intro Y2 u2; refine Hid.out ?_)
    unfold Hid
    try simp only [Act.put, List.setIfInBounds_toArray, List.set_cons_zero, List.set_cons_succ]
    replace g4 := u2.other (.inl (by omega)) g4
    replace hB := u2.below _ _ (by omega) hB
    replace g5 := u2.blk
    clear u2
    go_wp2_with fail
    exact lead_ret rfl rfl rfl rfl rfl g4 g5 (.no (HOK hc0) (zSw_in _) (zA_new _) (by rw [e2]; exact hB))
  rw [Decidable.not_not] at hc0
  subst hc0
  clear HOK
  have hcc := yo.le_cap
  go_wp2_with fail
  refine (decode_any y d cy _ yo.bts hcc).mono ?_
  rintro e w2 ⟨r, rfl, hr, hb⟩
  replace c0 := later hb c0
  replace c1 := later hb c1
  replace c2 := later hb c2
  replace g4 := g4.later hb
  replace g5 := g5.later hb
  replace hs := hs.later hb
  replace hB := hB.trans (hb.mono (by omega))
  replace z2 := Nat.lt_of_lt_of_le z2 hb.size
  replace z4 := Nat.lt_of_lt_of_le z4 hb.size
  replace z5 := Nat.lt_of_lt_of_le z5 hb.size
  clear hb yo hcc
  obtain ⟨ok, hok⟩ : ∃ b, Ld.okR d = b := ⟨_, rfl⟩
  rw [hok] at hr ⊢
  have HOK := Lib.hid hok
  clear hok
  go_wp2_with (refine wpList_allocTo 9 rfl rfl _ rfl rec_zero ?_; intro Xt0 a_b9 hb0 hz0; refine Hid.out ?_)
  unfold Hid
  try simp only [Act.put, List.setIfInBounds_toArray, List.set_cons_zero, List.set_cons_succ]
  obtain ⟨b9, e_b9⟩ : ∃ a, w2.heap.size = a := ⟨_, rfl⟩
  have s_b9 : w2.heap.size ≤ b9 := by omega
  have hb := hb0
  rw [e_b9] at a_b9 hz0 ⊢
  clear hb0
  have hz : b9 < Xt0.heap.size := by omega
  clear e_b9 hz0
  go_wp2_with (refine wpList_storeB rfl rfl _ (.tmp 9) _ rfl (b := b9) (q := 0) rfl (n := 4) (v := recF r) rfl a_b9 (fun j _ => rec_one _ _) rec_size ?_; intro Yt0 t1; refine Hid.out ?_)
  unfold Hid
  replace hb := t1.below _ _ (by omega) hb
  replace a_b9 := t1.blk
  rw [← t1.size] at hz
  clear t1
  replace c0 := later hb c0
  replace c1 := later hb c1
  replace c2 := later hb c2
  replace g4 := g4.later hb
  replace g5 := g5.later hb
  replace hs := hs.later hb
  replace hB := hB.trans (hb.mono (by omega))
  clear hb hz
  have g9 := a_b9
  clear a_b9
  have n49 : b4 ≠ b9 := by omega
  have n59 : b5 ≠ b9 := by omega
  have z9 : b9 < Yt0.heap.size := World.block_lt_of_cell? _ _ (g9.at 0 (by omega)).1
  have zz : w2.heap.size < Yt0.heap.size := by omega
  replace z2 : b2 < Yt0.heap.size := by omega
  replace z4 : b4 < Yt0.heap.size := by omega
  replace z5 : b5 < Yt0.heap.size := by omega
  clear s_b9 zz
  cases ok with
  | false =>
    clear c0 c1 c2 hs g9
    go_wp2_with (refine wpList_storeB rfl rfl _ (.tmp 4) _ rfl (b := b4) (q := 0) rfl (n := 4) (v := recF zRec) rfl g4 (fun j _ => rec_one _ _) rec_size ?_; intro Y1 u1; refine Hid.out ?_)
    unfold Hid
    try simp only [Act.put, List.setIfInBounds_toArray, List.set_cons_zero, List.set_cons_succ]
    replace g5 := u1.other (.inl (by omega)) g5
    replace hB := u1.below _ _ (by omega) hB
    replace g4 := u1.blk
    clear u1
    go_wp2_with (refine wpList_storeB rfl rfl _ (.tmp 5) _ rfl (b := b5) (q := 0) rfl (n := 23) (v := softV zSw zA) rfl g5 (fun j _ => soft_one _ _ _) soft_size ?_; intro Y2 u2; refine Hid.out ?_)
    unfold Hid
    try simp only [Act.put, List.setIfInBounds_toArray, List.set_cons_zero, List.set_cons_succ]
    replace g4 := u2.other (.inl (by omega)) g4
    replace hB := u2.below _ _ (by omega) hB
    replace g5 := u2.blk
    clear u2
    go_wp2_with fail
    exact lead_ret rfl rfl rfl rfl rfl g4 g5 (.no (okL_okR (by rw [HD.out]; exact HOK.out)) (zSw_in _) (zA_new _) (by rw [e2]; exact hB))
  | true =>
    replace hr := hr rfl
    have hR : Ld.ldR ls i = r := by unfold Ld.ldR; rw [HD.out, hr]
    clear hr
    obtain ⟨bk, m, nm, dg⟩ := r
    have hrb := (Ld.okR_iff d).1 HOK.out
    have hRd : Ld.recOf d = ⟨bk, m, nm, dg⟩ := by rw [← hR]; unfold Ld.ldR; rw [HD.out]
    rw [hRd] at hrb
    have hbk : bk ≤ 1 := hrb.2.1
    have hm16 : m ≤ 16 := hrb.2.2.2
    clear hrb hRd
    obtain ⟨p, hp⟩ : ∃ p, 2 + 16 * bk = p := ⟨_, rfl⟩
    have hp18 : p ≤ 18 := by omega
    have HG := Lib.hid (@Ld.okL_gok ls i root h)
    have HRR := Lib.hid hR
    have HP := Lib.hid hp
    have f9a := g9.bank
    have f9b := g9.chunks
    have f9d := g9.dig
    simp only at f9a f9b f9d
    clear hR hp
    have hB0 := Lib.hid hB
    obtain ⟨V, hV⟩ : ∃ V, Yt0 = V := ⟨_, rfl⟩
    subst hV
    obtain ⟨NV, hNV⟩ : ∃ n, Yt0.heap.size = n := ⟨_, rfl⟩
    go_wp2_with fail
    go_loopw [11, 39] (fun u11 u39 wr => ∃ (k : Nat) (y1 : Option Addr) (cy1 : Nat), k ≤ m ∧ u39 = .int .i64 (k : Int) ∧ u11 = .slice y1 (Ld.gat ls p k).length cy1 ∧ OwnsB Yt0.heap.size wr y1 cy1 (Ld.gat ls p k) ∧ Ld.gok ls p k = true ∧ Below Yt0.heap.size Yt0 wr) (fun _ u39 _ => m - (intOf u39).toNat)
    case atStart => exact ⟨0, none, 0, by omega, rfl, rfl, OwnsB.nil _ _, rfl, Below.refl _ _⟩
    case round =>
      obtain ⟨k, y1, cy1, hk, rfl, rfl, yo, hgk, hb⟩ := hrel
      have c0w := later hb c0
      have f9aw := later hb f9a
      have f9bw := later hb f9b
      have hsw := hs.later hb
      by_cases hlt : k < m
      · have hki : decide ((k : Int) < (m : Int)) = true := by simp; omega
        obtain ⟨z, hz⟩ : ∃ z, p + k = z := ⟨_, rfl⟩
        have hzw : IntKind.i64.wrap ((p : Int) + (k : Int)) = (z : Int) := by simp [IntKind.wrap, IntKind.bits, IntKind.signed]; omega
        have HRk := HR (z : Int)
        obtain ⟨f, hf⟩ : ∃ f, Ld.gat ls p k = f := ⟨_, rfl⟩
        have hfl := gat_len ls p k
        rw [hf] at yo hfl ⊢
        have hfl := Lib.hid (show f.length ≤ 4080 by omega)
        obtain ⟨q, hq⟩ : ∃ q, rdC ls (z : Int) = q := ⟨_, rfl⟩
        obtain ⟨mm, hmm⟩ : ∃ l, rdM ls (z : Int) = l := ⟨_, rfl⟩
        have hml := rdM_len ls (z : Int)
        rw [hmm] at hml HRk
        rw [hq] at HRk
        have hml := Lib.hid hml
        have HNX : Hid (Ld.gat ls p (k + 1) = f ++ mm) := by show _ = _; unfold Ld.gat; rw [hf, hz, hmm]
        have HGX : Hid (Ld.gok ls p (k + 1) = (q == 0)) := by show _ = _; unfold Ld.gok; rw [hgk, hz, hq]; rfl
        have HZ := Lib.hid hz
        have HQ := Lib.hid hq
        clear hf hq hmm hz hgk
        have FF := first_any (bk : Int) (m : Int) bk rfl (by omega)
        rw [HP.out] at FF
        go_wp2_with fail
        refine wp_region_sched  (fun X => X.cell? ⟨b2, 0, none⟩ = some (.slice x nr c) ∧ X.cell? ⟨b9, 0, none⟩ = some (.int .i64 (bk : Int)) ∧ X.cell? ⟨b9, 1, none⟩ = some (.int .i64 (m : Int)) ∧ Rws X x rs ∧ OwnsB Yt0.heap.size X y1 cy1 f ∧ Below Yt0.heap.size Yt0 X) (.one [0, 1, 2, 3, 5] 4 (.one [6] 7 (.done [8, 9, 10, 11, 12]))) (by kernel_rfl) (by kernel_rfl) (fun _ _ _ _ _ h => h) ⟨by go_simp, by go_simp, by go_simp, hsw.later (Below.refl _ _).drew, yo.later (Below.refl _ _).drew, hb.drew⟩ ?_
        clear c0w f9aw f9bw hsw yo hb
        rintro X ⟨c0w, f9aw, f9bw, hsw, yo, hb⟩
        rw [wpSched]
        simp only [pick, List.map_cons, List.map_nil, Array.getD_eq_getD_getElem?, List.getElem?_toArray, List.getElem?_cons_succ, List.getElem?_cons_zero, Option.getD_some]
        have k0 := plusW_cell c0w
        have k1 := plusW_cell f9aw
        have k2 := plusW_cell f9bw
        repeat (first | go_big_quiet_step (fail) | quiet_step (fail))
        refine wpQuiet_nil ?_
        clear k0 k1 k2
        refine heavy_want (by rfl) (fun K' hK' => ?_)
        go_simp
        refine (FF _).mono ?_
        rintro e X1 ⟨rfl, hb1⟩
        refine hK' _ _ hb1 ?_
        clear hK' K'
        replace c0w := later hb1 c0w
        replace hsw := hsw.later hb1
        replace yo := yo.later hb1
        replace hb := thru hb hb1
        clear hb1 f9aw f9bw
        try simp only [Act.put, List.setIfInBounds_toArray, List.set_cons_zero, List.set_cons_succ]
        rw [wpSched]
        simp only [pick, List.map_cons, List.map_nil, Array.getD_eq_getD_getElem?, List.getElem?_toArray, List.getElem?_cons_succ, List.getElem?_cons_zero, Option.getD_some]
        repeat (first | go_big_quiet_step (fail) | quiet_step (fail))
        refine wpQuiet_nil ?_
        refine heavy_want (by rfl) (fun K' hK' => ?_)
        go_simp
        refine (HRk _ hsw).mono ?_
        rintro e X2 ⟨y2, cy2, rfl, mo, hb1⟩
        refine hK' _ _ hb1 ?_
        clear hK' K'
        replace hsw := hsw.later hb1
        replace yo := yo.later hb1
        replace hb := thru hb hb1
        have mb := mo.bts
        have mn := mo.none_cap
        clear hb1 c0w mo
        try simp only [Act.put, List.setIfInBounds_toArray, List.set_cons_zero, List.set_cons_succ]
        rw [wpSched]
        simp only [pick, List.map_cons, List.map_nil, Array.getD_eq_getD_getElem?, List.getElem?_toArray, List.getElem?_cons_succ, List.getElem?_cons_zero, Option.getD_some]
        repeat (first | go_big_quiet_step (fail) | quiet_step (fail))
        refine wpQuiet_nil ?_
        clear FF HRk hzw
        by_cases hq0 : ¬ q = 0
        · replace g4 := g4.later hb
          replace g5 := g5.later hb
          replace hB := hB.trans (hb.mono (Nat.le_of_lt z2))
          have q0 : (q == 0) = false := by simpa using hq0
          have q1 : (q != 0) = true := by simpa using hq0
          clear hsw yo mb mn
          go_wp2_with (refine wpList_storeB rfl rfl _ (.tmp 4) _ rfl (b := b4) (q := 0) rfl (n := 4) (v := recF zRec) rfl g4 (fun j _ => rec_one _ _) rec_size ?_; intro Y1 u1; refine Hid.out ?_)
          unfold Hid
          try simp only [Act.put, List.setIfInBounds_toArray, List.set_cons_zero, List.set_cons_succ]
          replace g5 := u1.other (.inl (by omega)) g5
          replace hB := u1.below _ _ (by omega) hB
          replace g4 := u1.blk
          clear u1
          go_wp2_with (refine wpList_storeB rfl rfl _ (.tmp 5) _ rfl (b := b5) (q := 0) rfl (n := 23) (v := softV zSw zA) rfl g5 (fun j _ => soft_one _ _ _) soft_size ?_; intro Y2 u2; refine Hid.out ?_)
          unfold Hid
          try simp only [Act.put, List.setIfInBounds_toArray, List.set_cons_zero, List.set_cons_succ]
          replace g4 := u2.other (.inl (by omega)) g4
          replace hB := u2.below _ _ (by omega) hB
          replace g5 := u2.blk
          clear u2
          go_wp2_with fail
          exact lead_ret rfl rfl rfl rfl rfl g4 g5 (.no (HG.out (by rw [HRR.out]; dsimp only; rw [HP.out]; exact Ld.gok_no _ _ _ k hlt (by rw [HZ.out, HQ.out]; exact hq0))) (zSw_in _) (zA_new _) (by rw [e2]; exact hB))
        rw [Decidable.not_not] at hq0
        subst hq0
        go_wp2_with (at_builtin; refine wpList_app rfl _ _ rfl (B := Yt0.heap.size) (l := f) yo rfl (m := mm) rfl mb mn (by have := hfl.out; have := hml.out; omega) (Eq.symm HNX.out) hb.size ?_; intro x3 k3 w3 o3 b3 _; refine Hid.out ?_)
        unfold Hid
        have hb3 := hb.trans b3
        have O3 := Lib.hid o3
        clear b3 o3 yo mb mn hb hsw
        go_wp2_with fail
        exact ⟨⟨k + 1, x3, k3, by omega, by go_num, rfl, O3.out, HGX.out, hb3⟩, by simp [intOf]; omega⟩
      · obtain rfl : k = m := by omega
        have hki : decide ((k : Int) < (k : Int)) = false := by simp
        have c1 := later hb c1
        have c2 := later hb c2
        have f9d := later hb f9d
        have g4 := g4.later hb
        have g5 := g5.later hb
        have g9 := g9.later hb
        have hB := hB.trans (hb.mono (Nat.le_of_lt z2))
        have n24 : b2 ≠ b4 ∧ b2 ≠ b5 ∧ b9 ≠ b4 ∧ b9 ≠ b5 := by omega
        have hzz := hb.size
        replace z2 : b2 < wr.heap.size := by omega
        replace z4 : b4 < wr.heap.size := by omega
        replace z5 : b5 < wr.heap.size := by omega
        replace z9 : b9 < wr.heap.size := by omega
        have hF : Ld.ldF ls i = Ld.gat ls p k := by unfold Ld.ldF; rw [HRR.out]; dsimp only; rw [HP.out]
        have hfl := gat_len ls p k
        have hrest : Ld.okL ls i root h = (Ld.okU (Ld.gat ls p k) && ((Dig.ofL (Ld.gat ls p k) == dg) && Ld.genu (Ld.swOf (Ld.gat ls p k)) root h)) := by
          rw [okL_rest HCD.out (by rw [HD.out]; exact HOK.out) (by rw [HRR.out]; dsimp only; rw [HP.out]; exact hgk), hF, HRR.out]; unfold Ld.ldS; rw [hF]
        have hSW : Ld.ldS ls i = Ld.swOf (Ld.gat ls p k) := by unfold Ld.ldS; rw [hF]
        obtain ⟨f, hf⟩ : ∃ f, Ld.gat ls p k = f := ⟨_, rfl⟩
        rw [hf] at yo hfl hrest hSW ⊢
        have hfl := Lib.hid (show f.length ≤ 4080 by omega)
        have HREST := Lib.hid hrest
        have HSW := Lib.hid hSW
        clear hrest hSW hf hF hgk hzz hb c0w f9aw f9bw hsw c0 f9a f9b hs
        go_wp2_with fail
        refine (unpack_any y1 f cy1 _ yo.bts yo.none_cap yo.le_cap (fun a e => by subst e; exact (yo.low a.block rfl).2)).mono ?_
        rintro e w4 ⟨sa, rfl, hin, hnew, hb⟩
        have HI : Hid ((∀ p, sa.xi = some p → p.block ≠ b4 ∧ p.block ≠ b5) ∧ (∀ p, sa.xp = some p → p.block ≠ b4 ∧ p.block ≠ b5)) := ⟨fun p e => (by have := hnew.1 p e; omega), fun p e => (by have := hnew.2 p e; omega)⟩
        have HNEW : Hid (SwNew b2 sa) := ⟨fun p e => (by have := hnew.1 p e; omega), fun p e => (by have := hnew.2 p e; omega)⟩
        clear hnew
        replace c1 := later hb c1
        replace c2 := later hb c2
        replace f9d := later hb f9d
        replace g4 := g4.later hb
        replace g5 := g5.later hb
        replace g9 := g9.later hb
        replace yo := yo.later hb
        replace hB := hB.trans (hb.mono (by omega))
        have hzz := hb.size
        replace z2 : b2 < w4.heap.size := by omega
        replace z4 : b4 < w4.heap.size := by omega
        replace z5 : b5 < w4.heap.size := by omega
        replace z9 : b9 < w4.heap.size := by omega
        clear hb hzz
        obtain ⟨us, hus⟩ : ∃ s, unS f = s := ⟨_, rfl⟩
        obtain ⟨uc, huc⟩ : ∃ s, unC f = s := ⟨_, rfl⟩
        rw [hus] at hin ⊢
        rw [huc]
        have HUS := Lib.hid hus
        have HUC := Lib.hid huc
        clear hus huc
        go_wp2_with (refine wpList_allocTo 15 rfl rfl _ rfl soft_zero ?_; intro Xv0 a_b15 hb0 hz0; refine Hid.out ?_)
        unfold Hid
        try simp only [Act.put, List.setIfInBounds_toArray, List.set_cons_zero, List.set_cons_succ]
        obtain ⟨b15, e_b15⟩ : ∃ a, w4.heap.size = a := ⟨_, rfl⟩
        have s_b15 : w4.heap.size ≤ b15 := by omega
        have hb := hb0
        rw [e_b15] at a_b15 hz0 ⊢
        clear hb0
        have hz : b15 < Xv0.heap.size := by omega
        clear e_b15 hz0
        go_wp2_with (refine wpList_storeB rfl rfl _ (.tmp 15) _ rfl (b := b15) (q := 0) rfl (n := 23) (v := softV us sa) rfl a_b15 (fun j _ => soft_one _ _ _) soft_size ?_; intro Yv0 t1; refine Hid.out ?_)
        unfold Hid
        replace hb := t1.below _ _ (by omega) hb
        replace a_b15 := t1.blk
        rw [← t1.size] at hz
        clear t1
        replace c1 := later hb c1
        replace c2 := later hb c2
        replace f9d := later hb f9d
        replace g4 := g4.later hb
        replace g5 := g5.later hb
        replace g9 := g9.later hb
        replace yo := yo.later hb
        replace hin := hin.later hb
        replace hB := hB.trans (hb.mono (by omega))
        clear hb hz
        have g15 := a_b15
        clear a_b15
        have n15 : b15 ≠ b4 ∧ b15 ≠ b5 := by omega
        have z15 : b15 < Yv0.heap.size := World.block_lt_of_cell? _ _ (g15.at 0 (by omega)).1
        replace z4 : b4 < Yv0.heap.size := by omega
        replace z5 : b5 < Yv0.heap.size := by omega
        clear s_b15 z2 z9
        go_wp2_with fail
        obtain ⟨fd, hfd⟩ : ∃ d, Dig.ofL f = d := ⟨_, rfl⟩
        have HFD := Lib.hid hfd
        obtain ⟨gn, hgn⟩ : ∃ b, Ld.genu us root h = b := ⟨_, rfl⟩
        have HGN := Lib.hid hgn
        clear hfd hgn
        by_cases huc0 : ¬ uc = 0
        · have HOF : Hid (Ld.okL ls i root h = false) := by
            show _ = _
            rw [HREST.out]
            have h1 := HUC.out
            unfold unC at h1
            by_cases hu : Ld.okU f = true
            · rw [if_pos hu] at h1; exact absurd h1.symm huc0
            · rw [Bool.eq_false_iff.2 hu]; rfl
          have u0 : (uc == 0) = false := by simpa using huc0
          refine wp_region_schedT (T := fun b => b = b4 ∨ b = b5) (fun Z => Z.cell? ⟨b2, 1, none⟩ = some (.int .u64 (num root)) ∧ Z.cell? ⟨b2, 2, none⟩ = some (.int .i64 h) ∧ Z.cell? ⟨b9, 3, none⟩ = some (.int .u64 (num dg)) ∧ Blk Z b4 0 4 (recF zRec) ∧ Blk Z b5 0 23 (softV zSw zA) ∧ Blk Z b9 0 4 (recF ⟨bk, k, nm, dg⟩) ∧ Blk Z b15 0 23 (softV us sa) ∧ OwnsB Yt0.heap.size Z y1 cy1 f ∧ SwIn Z us sa ∧ Below b2 w Z ∧ b4 < Z.heap.size ∧ b5 < Z.heap.size ∧ b2 < Z.heap.size) (.one [0, 1, 2, 3, 4, 5, 7, 8] 6 (.one [9, 10, 11, 12, 13, 14, 15, 16] 17 (.one [18] 19 (.one [] 20 (.done [21]))))) (by kernel_rfl) (by kernel_rfl) (fun _ _ _ _ _ h => h) ⟨by go_simp, by go_simp, by go_simp, g4.later (Below.refl _ _).drew, g5.later (Below.refl _ _).drew, g9.later (Below.refl _ _).drew, g15.later (Below.refl _ _).drew, yo.later (Below.refl _ _).drew, hin.later (Below.refl _ _).drew, hB.drew, ⟨z4, z5, Nat.lt_trans z24 z4⟩⟩ ?_
          clear c1 c2 f9d g4 g5 g9 g15 yo hin hB
          rintro Z ⟨c1, c2, f9d, g4, g5, g9, g15, yo, hin, hB, hzw⟩
          rw [wpSchedT]
          simp only [pick, List.map_cons, List.map_nil, Array.getD_eq_getD_getElem?, List.getElem?_toArray, List.getElem?_cons_succ, List.getElem?_cons_zero, Option.getD_some]
          have k1 := plusT_cell (T := fun b => b = b4 ∨ b = b5) c1 (show ¬ (b2 = b4 ∨ b2 = b5) by omega)
          have k2 := plusT_cell (T := fun b => b = b4 ∨ b = b5) c2 (show ¬ (b2 = b4 ∨ b2 = b5) by omega)
          have k3 := plusT_cell (T := fun b => b = b4 ∨ b = b5) f9d (show ¬ (b9 = b4 ∨ b9 = b5) by omega)
          have r9 := loadN_T (T := fun b => b = b4 ∨ b = b5) (t := 90) g9 (show ¬ (b9 = b4 ∨ b9 = b5) by omega) (fun X h => run_loadRec h)
          have r15 := loadN_T (T := fun b => b = b4 ∨ b = b5) (t := 29) g15 (show ¬ (b15 = b4 ∨ b15 = b5) by omega) (fun X h => run_loadSw h)
          (refine wpQuiet_loadN rfl _ (.tmp 9) rfl (b := b9) (q := 0) rfl r9 ?_; try simp only [Act.put, List.setIfInBounds_toArray, List.set_cons_zero, List.set_cons_succ])
          (refine wpQuiet_loadN rfl _ (.tmp 15) rfl (b := b15) (q := 0) rfl r15 ?_; try simp only [Act.put, List.setIfInBounds_toArray, List.set_cons_zero, List.set_cons_succ])
          iterate 6 (first | go_big_quiet_step (fail) | quiet_step (fail))
          refine wpQuiet_nil ?_
          clear k1 k2 k3 r9 r15
          refine heavyT_skip (by rfl) ?_
          try simp only [Act.put, List.setIfInBounds_toArray, List.set_cons_zero, List.set_cons_succ]
          rw [wpSchedT]
          simp only [pick, List.map_cons, List.map_nil, Array.getD_eq_getD_getElem?, List.getElem?_toArray, List.getElem?_cons_succ, List.getElem?_cons_zero, Option.getD_some]
          have k1 := plusT_cell (T := fun b => b = b4 ∨ b = b5) c1 (show ¬ (b2 = b4 ∨ b2 = b5) by omega)
          have k2 := plusT_cell (T := fun b => b = b4 ∨ b = b5) c2 (show ¬ (b2 = b4 ∨ b2 = b5) by omega)
          have k3 := plusT_cell (T := fun b => b = b4 ∨ b = b5) f9d (show ¬ (b9 = b4 ∨ b9 = b5) by omega)
          have r9 := loadN_T (T := fun b => b = b4 ∨ b = b5) (t := 90) g9 (show ¬ (b9 = b4 ∨ b9 = b5) by omega) (fun X h => run_loadRec h)
          have r15 := loadN_T (T := fun b => b = b4 ∨ b = b5) (t := 29) g15 (show ¬ (b15 = b4 ∨ b15 = b5) by omega) (fun X h => run_loadSw h)
          repeat (first | go_big_quiet_step (fail) | quiet_step (fail))
          refine wpQuiet_nil ?_
          clear k1 k2 k3 r9 r15
          refine heavyT_skip (by rfl) ?_
          try simp only [Act.put, List.setIfInBounds_toArray, List.set_cons_zero, List.set_cons_succ]
          rw [wpSchedT]
          simp only [pick, List.map_cons, List.map_nil, Array.getD_eq_getD_getElem?, List.getElem?_toArray, List.getElem?_cons_succ, List.getElem?_cons_zero, Option.getD_some]
          repeat (first | go_big_quiet_step (fail) | quiet_step (fail))
          refine wpQuiet_nil ?_
          refine heavyT_want (by rfl) (fun K' hK' => ?_)
          refine wp_storeAt rfl _ (.tmp 4) (.tmp 66) rfl (b := b4) (q := 0) rfl (v := recF ⟨bk, k, nm, dg⟩) rfl g4 (fun j _ => rec_one _ _) rec_size ?_
          intro Z3 u4
          refine hK' _ _ (u4.turns _ _ (fun _ => .inl rfl) (Turns.refl _ _)) ?_
          clear hK' K'
          have tn := u4.turns (fun b => b = b4) _ (fun _ => rfl) (Turns.refl _ _)
          have hbe := u4.below b4 _ (Nat.le_refl _) (Below.refl _ _)
          replace g5 := u4.other (.inl (by omega)) g5
          replace g15 := u4.other (.inl (by omega)) g15
          replace hB := u4.below _ _ (by omega) hB
          replace g4 := u4.blk
          replace hin := hin.turn tn (fun p e k => (HI.out.1 p e).1 k) (fun p e k => (HI.out.2 p e).1 k)
          clear u4 tn hbe g9 c1 c2 f9d
          try simp only [Act.put, List.setIfInBounds_toArray, List.set_cons_zero, List.set_cons_succ]
          rw [wpSchedT]
          simp only [pick, List.map_nil, Array.getD_eq_getD_getElem?, List.getElem?_toArray, List.getElem?_cons_succ, List.getElem?_cons_zero, Option.getD_some]
          refine wpQuiet_nil ?_
          refine heavyT_want (by rfl) (fun K' hK' => ?_)
          refine wp_storeAt rfl _ (.tmp 5) (.tmp 67) rfl (b := b5) (q := 0) rfl (v := softV us sa) rfl g5 (fun j _ => soft_one _ _ _) soft_size ?_
          intro Z4 u5
          refine hK' _ _ (u5.turns _ _ (fun _ => .inr rfl) (Turns.refl _ _)) ?_
          clear hK' K'
          have tn := u5.turns (fun b => b = b5) _ (fun _ => rfl) (Turns.refl _ _)
          replace g4 := u5.other (.inl (by omega)) g4
          replace hB := u5.below _ _ (by omega) hB
          replace g5 := u5.blk
          replace hin := hin.turn tn (fun p e k => (HI.out.1 p e).2 k) (fun p e k => (HI.out.2 p e).2 k)
          clear u5 tn g15
          try simp only [Act.put, List.setIfInBounds_toArray, List.set_cons_zero, List.set_cons_succ]
          rw [wpSchedT]
          simp only [pick, List.map_cons, List.map_nil, Array.getD_eq_getD_getElem?, List.getElem?_toArray, List.getElem?_cons_succ, List.getElem?_cons_zero, Option.getD_some]
          repeat (first | go_big_quiet_step (fail) | quiet_step (fail))
          refine wpQuiet_nil ?_
          go_wp2_with fail
          exact lead_ret rfl rfl rfl rfl rfl g4 g5 (.no HOF.out hin (by rw [e2]; exact HNEW.out) (by rw [e2]; exact hB))
        rw [Decidable.not_not] at huc0
        subst huc0
        have HU : Hid (Ld.okU f = true) := by
          show _ = _
          have h1 := HUC.out
          unfold unC at h1
          by_cases hu : Ld.okU f = true
          · exact hu
          · rw [if_neg hu] at h1; cases h1
        have HUX : Hid (us = Ld.swOf f) := by show _ = _; rw [← HUS.out]; unfold unS; rw [if_pos HU.out]
        by_cases hdg : ¬ fd = dg
        · have q1 : (num fd == num dg) = false := by
            rw [beq_eq_false_iff_ne]; intro e; exact hdg (num_inj e)
          have HOF : Hid (Ld.okL ls i root h = false) := by show _ = _; rw [HREST.out, HFD.out, beq_eq_false_iff_ne.2 hdg, Bool.false_and, Bool.and_false]
          refine wp_region_schedT (T := fun b => b = b4 ∨ b = b5) (fun Z => Z.cell? ⟨b2, 1, none⟩ = some (.int .u64 (num root)) ∧ Z.cell? ⟨b2, 2, none⟩ = some (.int .i64 h) ∧ Z.cell? ⟨b9, 3, none⟩ = some (.int .u64 (num dg)) ∧ Blk Z b4 0 4 (recF zRec) ∧ Blk Z b5 0 23 (softV zSw zA) ∧ Blk Z b9 0 4 (recF ⟨bk, k, nm, dg⟩) ∧ Blk Z b15 0 23 (softV us sa) ∧ OwnsB Yt0.heap.size Z y1 cy1 f ∧ SwIn Z us sa ∧ Below b2 w Z ∧ b4 < Z.heap.size ∧ b5 < Z.heap.size ∧ b2 < Z.heap.size) (.one [0, 1, 2, 3, 4, 5, 7, 8] 6 (.one [9, 10, 11, 12, 13, 14, 15, 16] 17 (.one [18] 19 (.one [] 20 (.done [21]))))) (by kernel_rfl) (by kernel_rfl) (fun _ _ _ _ _ h => h) ⟨by go_simp, by go_simp, by go_simp, g4.later (Below.refl _ _).drew, g5.later (Below.refl _ _).drew, g9.later (Below.refl _ _).drew, g15.later (Below.refl _ _).drew, yo.later (Below.refl _ _).drew, hin.later (Below.refl _ _).drew, hB.drew, ⟨z4, z5, Nat.lt_trans z24 z4⟩⟩ ?_
          clear c1 c2 f9d g4 g5 g9 g15 yo hin hB
          rintro Z ⟨c1, c2, f9d, g4, g5, g9, g15, yo, hin, hB, hzw⟩
          rw [wpSchedT]
          simp only [pick, List.map_cons, List.map_nil, Array.getD_eq_getD_getElem?, List.getElem?_toArray, List.getElem?_cons_succ, List.getElem?_cons_zero, Option.getD_some]
          have k1 := plusT_cell (T := fun b => b = b4 ∨ b = b5) c1 (show ¬ (b2 = b4 ∨ b2 = b5) by omega)
          have k2 := plusT_cell (T := fun b => b = b4 ∨ b = b5) c2 (show ¬ (b2 = b4 ∨ b2 = b5) by omega)
          have k3 := plusT_cell (T := fun b => b = b4 ∨ b = b5) f9d (show ¬ (b9 = b4 ∨ b9 = b5) by omega)
          have r9 := loadN_T (T := fun b => b = b4 ∨ b = b5) (t := 90) g9 (show ¬ (b9 = b4 ∨ b9 = b5) by omega) (fun X h => run_loadRec h)
          have r15 := loadN_T (T := fun b => b = b4 ∨ b = b5) (t := 29) g15 (show ¬ (b15 = b4 ∨ b15 = b5) by omega) (fun X h => run_loadSw h)
          (refine wpQuiet_loadN rfl _ (.tmp 9) rfl (b := b9) (q := 0) rfl r9 ?_; try simp only [Act.put, List.setIfInBounds_toArray, List.set_cons_zero, List.set_cons_succ])
          (refine wpQuiet_loadN rfl _ (.tmp 15) rfl (b := b15) (q := 0) rfl r15 ?_; try simp only [Act.put, List.setIfInBounds_toArray, List.set_cons_zero, List.set_cons_succ])
          iterate 6 (first | go_big_quiet_step (fail) | quiet_step (fail))
          refine wpQuiet_nil ?_
          clear k1 k2 k3 r9 r15
          refine heavyT_want (by rfl) (fun K' hK' => ?_)
          go_simp
          refine (of_any y1 f cy1 _ (by have := hfl.out; omega) yo.bts).mono ?_
          rintro e Z1 ⟨rfl, hb⟩
          refine hK' _ _ (Turns.of_below hb (Nat.le_refl _)) ?_
          clear hK' K'
          replace c1 := later hb c1
          replace c2 := later hb c2
          replace f9d := later hb f9d
          replace g4 := g4.later hb
          replace g5 := g5.later hb
          replace g9 := g9.later hb
          replace g15 := g15.later hb
          replace hin := hin.later hb
          replace hB := hB.trans (hb.mono (by omega))
          have hzz := hb.size
          replace hzw : b4 < Z1.heap.size ∧ b5 < Z1.heap.size ∧ b2 < Z1.heap.size := by omega
          clear hb yo hzz
          rw [HFD.out]
          try simp only [Act.put, List.setIfInBounds_toArray, List.set_cons_zero, List.set_cons_succ]
          rw [wpSchedT]
          simp only [pick, List.map_cons, List.map_nil, Array.getD_eq_getD_getElem?, List.getElem?_toArray, List.getElem?_cons_succ, List.getElem?_cons_zero, Option.getD_some]
          have k1 := plusT_cell (T := fun b => b = b4 ∨ b = b5) c1 (show ¬ (b2 = b4 ∨ b2 = b5) by omega)
          have k2 := plusT_cell (T := fun b => b = b4 ∨ b = b5) c2 (show ¬ (b2 = b4 ∨ b2 = b5) by omega)
          have k3 := plusT_cell (T := fun b => b = b4 ∨ b = b5) f9d (show ¬ (b9 = b4 ∨ b9 = b5) by omega)
          have r9 := loadN_T (T := fun b => b = b4 ∨ b = b5) (t := 90) g9 (show ¬ (b9 = b4 ∨ b9 = b5) by omega) (fun X h => run_loadRec h)
          have r15 := loadN_T (T := fun b => b = b4 ∨ b = b5) (t := 29) g15 (show ¬ (b15 = b4 ∨ b15 = b5) by omega) (fun X h => run_loadSw h)
          repeat (first | go_big_quiet_step (fail) | quiet_step (fail))
          refine wpQuiet_nil ?_
          clear k1 k2 k3 r9 r15
          refine heavyT_skip (by rfl) ?_
          try simp only [Act.put, List.setIfInBounds_toArray, List.set_cons_zero, List.set_cons_succ]
          rw [wpSchedT]
          simp only [pick, List.map_cons, List.map_nil, Array.getD_eq_getD_getElem?, List.getElem?_toArray, List.getElem?_cons_succ, List.getElem?_cons_zero, Option.getD_some]
          repeat (first | go_big_quiet_step (fail) | quiet_step (fail))
          refine wpQuiet_nil ?_
          refine heavyT_want (by rfl) (fun K' hK' => ?_)
          refine wp_storeAt rfl _ (.tmp 4) (.tmp 66) rfl (b := b4) (q := 0) rfl (v := recF ⟨bk, k, nm, dg⟩) rfl g4 (fun j _ => rec_one _ _) rec_size ?_
          intro Z3 u4
          refine hK' _ _ (u4.turns _ _ (fun _ => .inl rfl) (Turns.refl _ _)) ?_
          clear hK' K'
          have tn := u4.turns (fun b => b = b4) _ (fun _ => rfl) (Turns.refl _ _)
          have hbe := u4.below b4 _ (Nat.le_refl _) (Below.refl _ _)
          replace g5 := u4.other (.inl (by omega)) g5
          replace g15 := u4.other (.inl (by omega)) g15
          replace hB := u4.below _ _ (by omega) hB
          replace g4 := u4.blk
          replace hin := hin.turn tn (fun p e k => (HI.out.1 p e).1 k) (fun p e k => (HI.out.2 p e).1 k)
          clear u4 tn hbe g9 c1 c2 f9d
          try simp only [Act.put, List.setIfInBounds_toArray, List.set_cons_zero, List.set_cons_succ]
          rw [wpSchedT]
          simp only [pick, List.map_nil, Array.getD_eq_getD_getElem?, List.getElem?_toArray, List.getElem?_cons_succ, List.getElem?_cons_zero, Option.getD_some]
          refine wpQuiet_nil ?_
          refine heavyT_want (by rfl) (fun K' hK' => ?_)
          refine wp_storeAt rfl _ (.tmp 5) (.tmp 67) rfl (b := b5) (q := 0) rfl (v := softV us sa) rfl g5 (fun j _ => soft_one _ _ _) soft_size ?_
          intro Z4 u5
          refine hK' _ _ (u5.turns _ _ (fun _ => .inr rfl) (Turns.refl _ _)) ?_
          clear hK' K'
          have tn := u5.turns (fun b => b = b5) _ (fun _ => rfl) (Turns.refl _ _)
          replace g4 := u5.other (.inl (by omega)) g4
          replace hB := u5.below _ _ (by omega) hB
          replace g5 := u5.blk
          replace hin := hin.turn tn (fun p e k => (HI.out.1 p e).2 k) (fun p e k => (HI.out.2 p e).2 k)
          clear u5 tn g15
          try simp only [Act.put, List.setIfInBounds_toArray, List.set_cons_zero, List.set_cons_succ]
          rw [wpSchedT]
          simp only [pick, List.map_cons, List.map_nil, Array.getD_eq_getD_getElem?, List.getElem?_toArray, List.getElem?_cons_succ, List.getElem?_cons_zero, Option.getD_some]
          repeat (first | go_big_quiet_step (fail) | quiet_step (fail))
          refine wpQuiet_nil ?_
          go_wp2_with fail
          exact lead_ret rfl rfl rfl rfl rfl g4 g5 (.no HOF.out hin (by rw [e2]; exact HNEW.out) (by rw [e2]; exact hB))
        rw [Decidable.not_not] at hdg
        replace hdg := hdg.symm
        subst hdg
        have HOF : Hid (Ld.okL ls i root h = gn) := by show _ = _; rw [HREST.out, HFD.out, HU.out, ← HUX.out, HGN.out, beq_self_eq_true, Bool.true_and, Bool.true_and]
        refine wp_region_schedT (T := fun b => b = b4 ∨ b = b5) (fun Z => Z.cell? ⟨b2, 1, none⟩ = some (.int .u64 (num root)) ∧ Z.cell? ⟨b2, 2, none⟩ = some (.int .i64 h) ∧ Z.cell? ⟨b9, 3, none⟩ = some (.int .u64 (num dg)) ∧ Blk Z b4 0 4 (recF zRec) ∧ Blk Z b5 0 23 (softV zSw zA) ∧ Blk Z b9 0 4 (recF ⟨bk, k, nm, dg⟩) ∧ Blk Z b15 0 23 (softV us sa) ∧ OwnsB Yt0.heap.size Z y1 cy1 f ∧ SwIn Z us sa ∧ Below b2 w Z ∧ b4 < Z.heap.size ∧ b5 < Z.heap.size ∧ b2 < Z.heap.size) (.one [0, 1, 2, 3, 4, 5, 7, 8] 6 (.one [9, 10, 11, 12, 13, 14, 15, 16] 17 (.one [18] 19 (.one [] 20 (.done [21]))))) (by kernel_rfl) (by kernel_rfl) (fun _ _ _ _ _ h => h) ⟨by go_simp, by go_simp, by go_simp, g4.later (Below.refl _ _).drew, g5.later (Below.refl _ _).drew, g9.later (Below.refl _ _).drew, g15.later (Below.refl _ _).drew, yo.later (Below.refl _ _).drew, hin.later (Below.refl _ _).drew, hB.drew, ⟨z4, z5, Nat.lt_trans z24 z4⟩⟩ ?_
        clear c1 c2 f9d g4 g5 g9 g15 yo hin hB
        rintro Z ⟨c1, c2, f9d, g4, g5, g9, g15, yo, hin, hB, hzw⟩
        rw [wpSchedT]
        simp only [pick, List.map_cons, List.map_nil, Array.getD_eq_getD_getElem?, List.getElem?_toArray, List.getElem?_cons_succ, List.getElem?_cons_zero, Option.getD_some]
        have k1 := plusT_cell (T := fun b => b = b4 ∨ b = b5) c1 (show ¬ (b2 = b4 ∨ b2 = b5) by omega)
        have k2 := plusT_cell (T := fun b => b = b4 ∨ b = b5) c2 (show ¬ (b2 = b4 ∨ b2 = b5) by omega)
        have k3 := plusT_cell (T := fun b => b = b4 ∨ b = b5) f9d (show ¬ (b9 = b4 ∨ b9 = b5) by omega)
        have r9 := loadN_T (T := fun b => b = b4 ∨ b = b5) (t := 90) g9 (show ¬ (b9 = b4 ∨ b9 = b5) by omega) (fun X h => run_loadRec h)
        have r15 := loadN_T (T := fun b => b = b4 ∨ b = b5) (t := 29) g15 (show ¬ (b15 = b4 ∨ b15 = b5) by omega) (fun X h => run_loadSw h)
        (refine wpQuiet_loadN rfl _ (.tmp 9) rfl (b := b9) (q := 0) rfl r9 ?_; try simp only [Act.put, List.setIfInBounds_toArray, List.set_cons_zero, List.set_cons_succ])
        (refine wpQuiet_loadN rfl _ (.tmp 15) rfl (b := b15) (q := 0) rfl r15 ?_; try simp only [Act.put, List.setIfInBounds_toArray, List.set_cons_zero, List.set_cons_succ])
        iterate 6 (first | go_big_quiet_step (fail) | quiet_step (fail))
        refine wpQuiet_nil ?_
        clear k1 k2 k3 r9 r15
        refine heavyT_want (by rfl) (fun K' hK' => ?_)
        go_simp
        refine (of_any y1 f cy1 _ (by have := hfl.out; omega) yo.bts).mono ?_
        rintro e Z1 ⟨rfl, hb⟩
        refine hK' _ _ (Turns.of_below hb (Nat.le_refl _)) ?_
        clear hK' K'
        replace c1 := later hb c1
        replace c2 := later hb c2
        replace f9d := later hb f9d
        replace g4 := g4.later hb
        replace g5 := g5.later hb
        replace g9 := g9.later hb
        replace g15 := g15.later hb
        replace hin := hin.later hb
        replace hB := hB.trans (hb.mono (by omega))
        have hzz := hb.size
        replace hzw : b4 < Z1.heap.size ∧ b5 < Z1.heap.size ∧ b2 < Z1.heap.size := by omega
        clear hb yo hzz
        rw [HFD.out]
        try simp only [Act.put, List.setIfInBounds_toArray, List.set_cons_zero, List.set_cons_succ]
        rw [wpSchedT]
        simp only [pick, List.map_cons, List.map_nil, Array.getD_eq_getD_getElem?, List.getElem?_toArray, List.getElem?_cons_succ, List.getElem?_cons_zero, Option.getD_some]
        have k1 := plusT_cell (T := fun b => b = b4 ∨ b = b5) c1 (show ¬ (b2 = b4 ∨ b2 = b5) by omega)
        have k2 := plusT_cell (T := fun b => b = b4 ∨ b = b5) c2 (show ¬ (b2 = b4 ∨ b2 = b5) by omega)
        have k3 := plusT_cell (T := fun b => b = b4 ∨ b = b5) f9d (show ¬ (b9 = b4 ∨ b9 = b5) by omega)
        have r9 := loadN_T (T := fun b => b = b4 ∨ b = b5) (t := 90) g9 (show ¬ (b9 = b4 ∨ b9 = b5) by omega) (fun X h => run_loadRec h)
        have r15 := loadN_T (T := fun b => b = b4 ∨ b = b5) (t := 29) g15 (show ¬ (b15 = b4 ∨ b15 = b5) by omega) (fun X h => run_loadSw h)
        iterate 3 (first | go_big_quiet_step (fail) | quiet_step (fail))
        (refine wpQuiet_loadN rfl _ (.tmp 15) rfl (b := b15) (q := 0) rfl r15 ?_; try simp only [Act.put, List.setIfInBounds_toArray, List.set_cons_zero, List.set_cons_succ])
        iterate 4 (first | go_big_quiet_step (fail) | quiet_step (fail))
        refine wpQuiet_nil ?_
        clear k1 k2 k3 r9 r15
        refine heavyT_want (by rfl) (fun K' hK' => ?_)
        go_simp
        refine (genu_any us sa root h _ hin).mono ?_
        rintro e Z2 ⟨rfl, hb⟩
        refine hK' _ _ (Turns.of_below hb (Nat.le_refl _)) ?_
        clear hK' K'
        replace c1 := later hb c1
        replace c2 := later hb c2
        replace f9d := later hb f9d
        replace g4 := g4.later hb
        replace g5 := g5.later hb
        replace g9 := g9.later hb
        replace g15 := g15.later hb
        replace hin := hin.later hb
        replace hB := hB.trans (hb.mono (by omega))
        have hzz := hb.size
        replace hzw : b4 < Z2.heap.size ∧ b5 < Z2.heap.size ∧ b2 < Z2.heap.size := by omega
        clear hb hzz
        rw [HGN.out]
        try simp only [Act.put, List.setIfInBounds_toArray, List.set_cons_zero, List.set_cons_succ]
        rw [wpSchedT]
        simp only [pick, List.map_cons, List.map_nil, Array.getD_eq_getD_getElem?, List.getElem?_toArray, List.getElem?_cons_succ, List.getElem?_cons_zero, Option.getD_some]
        repeat (first | go_big_quiet_step (fail) | quiet_step (fail))
        refine wpQuiet_nil ?_
        refine heavyT_want (by rfl) (fun K' hK' => ?_)
        refine wp_storeAt rfl _ (.tmp 4) (.tmp 66) rfl (b := b4) (q := 0) rfl (v := recF ⟨bk, k, nm, dg⟩) rfl g4 (fun j _ => rec_one _ _) rec_size ?_
        intro Z3 u4
        refine hK' _ _ (u4.turns _ _ (fun _ => .inl rfl) (Turns.refl _ _)) ?_
        clear hK' K'
        have tn := u4.turns (fun b => b = b4) _ (fun _ => rfl) (Turns.refl _ _)
        have hbe := u4.below b4 _ (Nat.le_refl _) (Below.refl _ _)
        replace g5 := u4.other (.inl (by omega)) g5
        replace g15 := u4.other (.inl (by omega)) g15
        replace hB := u4.below _ _ (by omega) hB
        replace g4 := u4.blk
        replace hin := hin.turn tn (fun p e k => (HI.out.1 p e).1 k) (fun p e k => (HI.out.2 p e).1 k)
        clear u4 tn hbe g9 c1 c2 f9d
        try simp only [Act.put, List.setIfInBounds_toArray, List.set_cons_zero, List.set_cons_succ]
        rw [wpSchedT]
        simp only [pick, List.map_nil, Array.getD_eq_getD_getElem?, List.getElem?_toArray, List.getElem?_cons_succ, List.getElem?_cons_zero, Option.getD_some]
        refine wpQuiet_nil ?_
        refine heavyT_want (by rfl) (fun K' hK' => ?_)
        refine wp_storeAt rfl _ (.tmp 5) (.tmp 67) rfl (b := b5) (q := 0) rfl (v := softV us sa) rfl g5 (fun j _ => soft_one _ _ _) soft_size ?_
        intro Z4 u5
        refine hK' _ _ (u5.turns _ _ (fun _ => .inr rfl) (Turns.refl _ _)) ?_
        clear hK' K'
        have tn := u5.turns (fun b => b = b5) _ (fun _ => rfl) (Turns.refl _ _)
        replace g4 := u5.other (.inl (by omega)) g4
        replace hB := u5.below _ _ (by omega) hB
        replace g5 := u5.blk
        replace hin := hin.turn tn (fun p e k => (HI.out.1 p e).2 k) (fun p e k => (HI.out.2 p e).2 k)
        clear u5 tn g15
        try simp only [Act.put, List.setIfInBounds_toArray, List.set_cons_zero, List.set_cons_succ]
        rw [wpSchedT]
        simp only [pick, List.map_cons, List.map_nil, Array.getD_eq_getD_getElem?, List.getElem?_toArray, List.getElem?_cons_succ, List.getElem?_cons_zero, Option.getD_some]
        repeat (first | go_big_quiet_step (fail) | quiet_step (fail))
        refine wpQuiet_nil ?_
        go_wp2_with fail
        cases gn with
        | false => exact lead_ret rfl rfl rfl rfl rfl g4 g5 (.no (by rw [HOF.out]) hin (by rw [e2]; exact HNEW.out) (by rw [e2]; exact hB))
        | true => exact lead_ret rfl rfl rfl rfl rfl g4 g5 (.yes (by rw [HOF.out]) hin (by rw [e2]; exact HNEW.out) HRR.out.symm (by rw [HSW.out, HUX.out]) (by rw [e2]; exact hB))

end Go.Proofs.YtapefonhgkjgnaaGreat
