/- THE LAW LoaderTells. -/
import Derived.Test.YtapefonhgkjgnaaGreatLdFw
import Derived.Test.YtapefonhgkjgnaaGreatLdX
import Derived.Test.YtapefonhgkjgnaaGreatLdQ
import Derived.Test.YtapefonhgkjgnaaGreatRfG
set_option maxRecDepth 20000
namespace Go.Proofs.YtapefonhgkjgnaaGreat
open Go.RowKit

theorem wpList_appR {ops : Array Oper} {rest : List Oper} {o : Oper} {a : Act} {w : World} {Q : Exit → Act → World → Prop} (hg : o.guard = none) (s x : Operand) (ho : o.op = .call { callee := .builtin .append, args := #[s, x], argTypes := #[31, 31] })
    {B : Nat} {xa : Option Addr} {cap : Nat} {rs : List Rw} (hown : OwnsR B w xa cap rs) (hs : a.eval s = .slice xa rs.length cap)
    {ad : Addr} {u : Rw} {c : Nat} (hx : a.eval x = .slice (some ad) 1 c) (hy : w.cell? (ad.add 0) = some (encR u)) (hl : rs.length ≤ 100000) (hB : B ≤ w.heap.size)
    (h : ∀ x' cap' w', OwnsR B w' x' cap' (rs ++ [u]) → Below B w w' → Turns (RowOf xa) w w' → wpList Tryz.prog ops Q rest (a.put o.dst (.slice x' (rs ++ [u]).length cap')) w') : wpList Tryz.prog ops Q (o :: rest) a w :=
  wpList_plain hg fun _ hK => wp_appR s x ho hown hs hx hy hl hB fun x' cap' w' h1 h2 h3 => hK _ _ (h x' cap' w' h1 h2 h3)
theorem sw_path (ls : List (List UInt8)) (root : D64) (h : Int) : (Ld.swR ls root h).path.length ≤ 100 := by
  unfold Ld.swR
  split
  · next h0 =>
    have ok : ∀ i, Ld.okL ls i root h = true → (Ld.ldS ls i).path.length ≤ 100 := fun i hk => by
      have h1 := ((Ld.okL_iff _ _ _ _).1 hk).2.2.2.1
      unfold Ld.okU at h1
      simp only [Bool.and_eq_true] at h1
      have := ((Ld.Sw.vld_iff _).1 h1.2.2).2.2.2.1
      unfold Ld.ldS
      omega
    have hi : Ld.ixR ls root h = Ld.atR ls root h := by
      unfold Ld.ixR at h0 ⊢
      by_cases hu : Ld.usable ls = true
      · rw [if_pos hu]
      · rw [if_neg hu] at h0; omega
    rw [hi] at h0 ⊢
    unfold Ld.atR at h0 ⊢
    split
    · next e => simp only [Bool.and_eq_true] at e; exact ok 0 e.1
    · split
      · next e => exact ok 1 e
      · next e1 e2 => rw [if_neg e1, if_neg e2] at h0; omega
  · decide
theorem ins_er (ls : List (List UInt8)) (s : Ld.Sw) (root : D64) (h : Int) : ∀ p, p ∈ Ld.insP ls s root h → p.2.1 = false := by
  intro p hp
  unfold Ld.insP at hp
  split at hp
  · unfold Ld.opsP at hp
    rcases List.mem_append.1 hp with hp | hp
    · rw [List.mem_map] at hp
      obtain ⟨j, _, rfl⟩ := hp
      rfl
    · rw [List.mem_singleton] at hp
      subst hp; rfl
  · cases hp
theorem opP_get {os qs : List OpV} (h : os.map Ld.opP = qs.map Ld.opP) (j : Nat) (hj : j < os.length) : (os.getD j op0).blk = (qs.getD j op0).blk ∧ (os.getD j op0).d = (qs.getD j op0).d := by
  have hl : os.length = qs.length := by simpa using congrArg List.length h
  have := congrArg (fun l => l[j]?) h
  simp only [List.getElem?_map, List.getElem?_eq_getElem hj, List.getElem?_eq_getElem (show j < qs.length by omega), Option.map_some, Option.some.injEq] at this
  rw [List.getD_eq_getElem?_getD, List.getD_eq_getElem?_getD, List.getElem?_eq_getElem hj, List.getElem?_eq_getElem (show j < qs.length by omega)]
  unfold Ld.opP at this
  simp only [Prod.mk.injEq] at this
  exact ⟨this.1, this.2.2⟩
theorem opP_er {os : List OpV} {P : List (Int × Bool × List UInt8)} (h : os.map Ld.opP = P) (he : ∀ p, p ∈ P → p.2.1 = false) (j : Nat) (hj : j < os.length) : (os.getD j op0).er = false := by
  have h1 := he (Ld.opP (os.getD j op0)) (by rw [← h]; exact List.mem_map_of_mem (getD_mem _ _ _ hj))
  exact h1
theorem row_get {rs rt : List Rw} (h : rt.map (·.l) = rs.map (·.l)) (j : Nat) (hj : j < rs.length) : (rt.getD j rw0).l = (rs.getD j rw0).l := by
  have hl : rt.length = rs.length := by simpa using congrArg List.length h
  have := congrArg (fun l => l[j]?) h
  simp only [List.getElem?_map, List.getElem?_eq_getElem hj, List.getElem?_eq_getElem (show j < rt.length by omega), Option.map_some, Option.some.injEq] at this
  rw [List.getD_eq_getElem?_getD, List.getD_eq_getElem?_getD, List.getElem?_eq_getElem hj, List.getElem?_eq_getElem (show j < rt.length by omega)]
  exact this

set_option maxHeartbeats 8000000 in
theorem tells_law (x : Option Addr) (rs : List Rw) (c : Nat) (s : Ld.Sw) (a : SwA) (root : D64) (hh : Int) (w : World) (hs : Rws w x rs) (hn : rs.length ≤ 9223372036854775807) (hi : SwIn w s a) :
    Calls Tryz.prog 4 #[.agg #[.slice x rs.length c], aggN 23 (softV s a), .int .u64 (num root), .int .i64 hh] w (YesOf w) := by
  have HF := fun (W : World) (h : Rws W x rs) => few_any x rs c s a W h hn
  have HFEW := Lib.hid (fewB_iff rs s).1
  have HRN := fun (hl : rs.length ≤ 1000) (W : World) (h : Rws W x rs) => running2_any x rs c root hh W h hl
  have HRI := fun (hl : rs.length ≤ 1000) (W : World) (h : Rws W x rs) (h2 : SwIn W s a) => install_any x rs c s a root hh W h hl h2
  have HQN := fun (y : Option Addr) (rt : List Rw) (cy : Nat) (e : rt.map (·.l) = rs.map (·.l)) (hl : rt.length ≤ 1000) (W : World) (h : Rws W y rt) => rrun_any y rt cy root hh W h hl
  have HQI := fun (y : Option Addr) (rt : List Rw) (cy : Nat) (e : rt.map (·.l) = rs.map (·.l)) (hl : rt.length ≤ 1000) (W : World) (h : Rws W y rt) (h2 : SwIn W s a) => rinst_any y rt cy s a root hh W h hl h2
  have HQN' : ∀ (y : Option Addr) (rt : List Rw) (cy : Nat), rt.map (·.l) = rs.map (·.l) → rt.length ≤ 1000 → ∀ W, Rws W y rt → Calls Tryz.prog 18 #[.slice y rt.length cy, .int .u64 (num root), .int .i64 hh] W (RrOf (rs.map (·.l)) root hh W) := fun y rt cy e hl W h => e ▸ HQN y rt cy e hl W h
  have HQI' : ∀ (y : Option Addr) (rt : List Rw) (cy : Nat), rt.map (·.l) = rs.map (·.l) → rt.length ≤ 1000 → ∀ W, Rws W y rt → SwIn W s a → Calls Tryz.prog 20 #[.slice y rt.length cy, aggN 23 (softV s a), .int .u64 (num root), .int .i64 hh] W (RiOf (rs.map (·.l)) s root hh W) := fun y rt cy e hl W h h2 => e ▸ HQI y rt cy e hl W h h2
  have HER := Lib.hid (ins_er (rs.map (·.l)) s root hh)
  have HSP := Lib.hid (sw_path (rs.map (·.l)) root hh)
  clear HQN HQI
  unfold RnOf at HRN
  unfold InsOf at HRI
  unfold RrOf at HQN'
  unfold RiOf at HQI'
  obtain ⟨sw, hsw⟩ : ∃ t, Ld.swR (rs.map (·.l)) root hh = t := ⟨_, rfl⟩
  obtain ⟨ix, hix⟩ : ∃ t, Ld.ixR (rs.map (·.l)) root hh = t := ⟨_, rfl⟩
  obtain ⟨cr, hcr⟩ : ∃ t, Ld.cdR (rs.map (·.l)) root hh = t := ⟨_, rfl⟩
  obtain ⟨ci, hci⟩ : ∃ t, Ld.cdI (rs.map (·.l)) s root hh = t := ⟨_, rfl⟩
  obtain ⟨ip, hip⟩ : ∃ t, Ld.insP (rs.map (·.l)) s root hh = t := ⟨_, rfl⟩
  obtain ⟨rr, hrr⟩ : ∃ t, Ld.rnR (rs.map (·.l)) root hh = t := ⟨_, rfl⟩
  rw [hsw, hix, hcr] at HRN
  rw [hsw, hix, hcr, hrr] at HQN'
  rw [hci, hip] at HRI HQI'
  rw [hip] at HER
  rw [hsw] at HSP
  have HRNH := Lib.hid HRN
  have HRIH := Lib.hid HRI
  have HQNH := Lib.hid HQN'
  have HQIH := Lib.hid HQI'
  obtain ⟨nr, hnr⟩ : ∃ n, rs.length = n := ⟨_, rfl⟩
  have HNR := Lib.hid hnr
  rw [hnr] at HF HRNH HRIH HFEW ⊢
  clear hsw hix hcr hci hip hrr HRN HRI HQN' HQI' hnr hn
  have hB := Below.refl w.heap.size w
  go_enter Tryz.func4, Tryz.ntmps4
  go_wp2_with (refine wpList_boxN (n := 23) (v := softV s a) rfl _ _ rfl rfl ?_; intro W5 a_b5 hb5 hz5; refine Hid.out ?_)
  unfold Hid
  try simp only [Act.put, List.setIfInBounds_toArray, List.set_cons_zero, List.set_cons_succ]
  have hBa := thru (al hB _) hb5
  have c4 := later (a := ⟨w.heap.size, 0, none⟩) (v := .slice x nr c) hb5 (by go_simp)
  simp only [World.size_alloc] at a_b5 hz5
  replace hs := hs.later hBa
  replace hi := hi.later hBa
  replace hB := hBa
  have z4 : w.heap.size < W5.heap.size := World.block_lt_of_cell? _ _ c4
  clear hBa hb5 hz5
  obtain ⟨b4, e4⟩ : ∃ b, w.heap.size = b := ⟨_, rfl⟩
  have HE4 := Lib.hid e4
  rw [e4] at c4 a_b5 hB z4
  obtain ⟨b5, e5⟩ : ∃ b, b4 + 1 = b := ⟨_, rfl⟩
  rw [e5] at a_b5
  simp only [e4, e5]
  clear e4 e5
  go_wp2_with (refine wpList_loadN rfl _ (.tmp 5) rfl (b := b5) (q := 0) rfl (run_loadSw a_b5) ?_)
  refine (HF _ hs).mono ?_
  rintro e w1 ⟨rfl, hb⟩
  replace hs := hs.later hb
  replace hi := hi.later hb
  replace c4 := later hb c4
  replace a_b5 := a_b5.later hb
  replace hB := hB.trans (hb.mono (Nat.le_of_lt z4))
  replace z4 := Nat.lt_of_lt_of_le z4 hb.size
  clear hb
  clear HF
  obtain ⟨fq, hfq⟩ : ∃ b, fewB rs s = b := ⟨_, rfl⟩
  rw [hfq] at HFEW ⊢
  clear hfq
  cases fq with
  | false =>
    clear hs hi c4 a_b5
    go_wp2_with fail
    refine (awake_any _).mono ?_
    rintro e wX ⟨rfl, hb⟩
    have hBX := hB.trans (hb.mono (Nat.le_of_lt z4))
    clear hb
    go_wp2_with fail
    go_ret
    exact ⟨rfl, by rw [HE4.out]; exact hBX⟩
  | true =>
    have hfew := HFEW.out (by first | exact rfl | trivial)
    have HR100 := Lib.hid hfew.1
    have hn40 : nr ≤ 40 := hfew.2.1
    clear hfew HFEW
    obtain ⟨NB, hNB⟩ : ∃ n, w1.heap.size = n := ⟨_, rfl⟩
    have HNB := Lib.hid hNB
    have HHS := Lib.hid hs
    have HHI := Lib.hid hi
    have HC4 := Lib.hid c4
    have HA5 := Lib.hid a_b5
    have HHB := Lib.hid hB
    have HZ4 := Lib.hid z4
    clear hi a_b5 hB hs
    go_wp2_with fail
    clear c4 z4
    go_loopw [9, 36] (fun u9 u36 wr => ∃ (j : Nat) (xj : Option Addr) (cj : Nat) (rw : List Rw), j ≤ nr ∧ u36 = .int .i64 (j : Int) ∧ u9 = .slice xj rw.length cj ∧ OwnsS NB wr xj cj rw ∧ rw.map (·.l) = (rs.map (·.l)).take j ∧ Below NB w1 wr) (fun _ u36 _ => nr - (intOf u36).toNat)
    case atStart => exact ⟨0, none, 0, [], by omega, rfl, rfl, OwnsS.nil _ _, rfl, hNB ▸ Below.refl _ _⟩
    case round =>
      obtain ⟨j, xj, cj, rw, hj, rfl, rfl, ho1, hm, hb⟩ := hrel
      have hbW : Below w1.heap.size w1 wr := by rw [HNB.out]; exact hb
      have hlen : rw.length = j := by have := congrArg List.length hm; simp [HNR.out] at this; omega
      by_cases hlt : j < nr
      · have hki : decide ((j : Int) < (nr : Int)) = true := by simp; omega
        have hki2 : decide (j < nr) = true := by simp; omega
        have jB : (j : Int) < (nr : Int) := by omega
        obtain ⟨b0, o0, rfl, hcj, hrj⟩ := (HHS.out.later hbW).at j (by rw [HNR.out]; exact hlt)
        have hll := HR100.out _ (getD_mem rs j rw0 (by rw [HNR.out]; exact hlt))
        have htk : (rs.map (·.l)).take (j + 1) = (rs.map (·.l)).take j ++ [(rs.getD j rw0).l] := by
          have hj2 : j < rs.length := by rw [HNR.out]; exact hlt
          rw [List.take_succ_eq_append_getElem (by simpa using hj2), List.getD_eq_getElem?_getD, List.getElem?_eq_getElem hj2]; simp
        obtain ⟨rj, hrjv⟩ : ∃ r, rs.getD j rw0 = r := ⟨_, rfl⟩
        rw [hrjv] at hcj hrj hll htk
        replace hcj : wr.cell? ⟨b0, o0 + j, none⟩ = some (.slice rj.x rj.l.length rj.c) := hcj
        have HLOW : Hid ((∀ b, RowOf xj b → b < wr.heap.size) ∧ ∀ r, r ∈ rw → ∀ b, RowOf r.x b → b < wr.heap.size) := ⟨fun b hb => (ho1.row.low b hb).2, fun r hr b hb => ((ho1.each r hr).low b hb).2⟩
        have HT := Lib.hid htk
        have HM := Lib.hid hm
        have HO1 := Lib.hid ho1
        have HLL := Lib.hid hll
        have HRJ := Lib.hid hrj
        have HLN := Lib.hid hlen
        have HBW := Lib.hid hb
        clear htk hm hrjv ho1 hbW hrj hll hlen hb
        go_wp2_with (at_builtin; refine Hid.out ?_)
        unfold Hid
        refine wpList_app rfl (.tmp 41) (.tmp 42) rfl (B := wr.heap.size) (l := []) (OwnsB.made' _ (wr.heap.size) _ (Nat.le_refl _) rfl) rfl (y := rj.x) (m := rj.l) (c := rj.c) rfl (HRJ.out.1.later (al (Below.refl _ wr) _)) HRJ.out.2.1 (by have := HLL.out; simp; omega) (List.nil_append _) (by simp) ?_
        intro xu cu w3 hu hb3 _
        try simp only [Act.put, List.setIfInBounds_toArray, List.set_cons_zero, List.set_cons_succ]
        have hq3 := (al (Below.refl wr.heap.size wr) (.cells #[] 5)).trans hb3
        have HU := Lib.hid hu
        have HQ3 := Lib.hid hq3
        have hz3 := hq3.size
        clear hu hb3 hcj hq3
        go_wp2_with (at_builtin; refine Hid.out ?_)
        unfold Hid
        refine wpList_appR rfl (.tmp 40) (.tmp 44) rfl (B := NB) (rs := rw) (cap := cj) (xa := xj) ((HO1.out.later HQ3.out).later (al (Below.refl _ w3) _)).row rfl (ad := ⟨w3.heap.size, 0, none⟩) (u := ⟨xu, cu, rj.l⟩) (c := 1) rfl (cell_new w3 _ _ _ 0) (by rw [HLN.out]; omega) (by have := HBW.out.size; have := HNB.out; simp; omega) ?_
        intro x' c' w4 h1 h2 h3
        try simp only [Act.put, List.setIfInBounds_toArray, List.set_cons_zero, List.set_cons_succ]
        have ho4 := ((HO1.out.later HQ3.out).later (al (Below.refl _ w3) (.cells #[.slice xu rj.l.length cu] 22))).app h1 h3 ((HU.out.weaken (by have := HBW.out.size; have := HNB.out; omega)).later (al (Below.refl _ w3) _)) (fun r hr b h5 h6 => by have h7 := HLOW.out.2 r hr b h5; have h8 := (HU.out.low b h6).1; omega)
        have hb4 : Below NB w1 w4 := ((HBW.out.trans (HQ3.out.mono (by have := HBW.out.size; have := HNB.out; omega))).alloc (by have := HBW.out.size; have := HNB.out; omega) _).trans h2
        have HO4 := Lib.hid ho4
        clear ho4 h1 h2 h3 hz3
        go_wp2_with fail
        exact ⟨⟨j + 1, x', c', rw ++ [⟨xu, cu, rj.l⟩], by omega, by go_num, rfl, HO4.out, by rw [HT.out, List.map_append, HM.out]; rfl, hb4⟩, by simp [intOf]; omega⟩
      · obtain rfl : j = nr := by omega
        have hki : decide ((j : Int) < (j : Int)) = false := by simp
        have hmm : rw.map (·.l) = rs.map (·.l) := by rw [hm, List.take_of_length_le (by simp [HNR.out])]
        have HMM := Lib.hid hmm
        have hrw := ho1.rws
        have hs := HHS.out.later hbW
        have hi := HHI.out.later hbW
        have c4 := later hbW HC4.out
        have a_b5 := HA5.out.later hbW
        have hB := HHB.out.trans (hbW.mono (Nat.le_of_lt HZ4.out))
        have z4 := Nat.lt_of_lt_of_le HZ4.out hbW.size
        have hl1000 : rw.length ≤ 1000 := by omega
        have HL1000 := Lib.hid hl1000
        have HRL := Lib.hid hlen
        clear hm hmm ho1 hb hbW hlen hl1000 HHS HHI HC4 HA5 HHB HZ4 hlt
        go_wp2_with fail
        refine (HRNH.out (by omega) _ hs).mono ?_
        rintro e w2 ⟨sa1, rfl, i1, _, hb⟩
        replace hs := hs.later hb
        replace hi := hi.later hb
        replace a_b5 := a_b5.later hb
        replace hrw := hrw.later hb
        replace c4 := later hb c4
        replace hB := hB.trans (hb.mono (Nat.le_of_lt z4))
        replace z4 := Nat.lt_of_lt_of_le z4 hb.size
        clear hb
        go_wp2_with (refine wpList_allocTo 12 rfl rfl _ rfl soft_zero ?_; intro Xa0 a_b12 hb0 hz0; refine Hid.out ?_)
        unfold Hid
        try simp only [Act.put, List.setIfInBounds_toArray, List.set_cons_zero, List.set_cons_succ]
        obtain ⟨b12, e_b12⟩ : ∃ a, w2.heap.size = a := ⟨_, rfl⟩
        have s_b12 : w2.heap.size ≤ b12 := by omega
        have hb := hb0
        rw [e_b12] at a_b12 hz0 ⊢
        clear hb0
        have hz : b12 < Xa0.heap.size := by omega
        clear e_b12 hz0
        go_wp2_with (refine wpList_storeB rfl rfl _ (.tmp 12) _ rfl (b := b12) (q := 0) rfl (n := 23) (v := softV sw sa1) rfl a_b12 (fun j _ => soft_one _ _ _) soft_size ?_; intro Ya0 t1; refine Hid.out ?_)
        unfold Hid
        replace hb := t1.below _ _ (by omega) hb
        replace a_b12 := t1.blk
        rw [← t1.size] at hz
        clear t1
        replace hs := hs.later hb
        replace hi := hi.later hb
        replace a_b5 := a_b5.later hb
        replace hrw := hrw.later hb
        replace c4 := later hb c4
        replace i1 := i1.later hb
        replace hB := hB.trans (hb.mono (Nat.le_of_lt z4))
        replace z4 := Nat.lt_of_lt_of_le z4 hb.size
        clear hb hz
        clear s_b12
        go_wp2_with fail
        refine (HQNH.out xj rw cj HMM.out HL1000.out _ hrw).mono ?_
        rintro e w3 ⟨sa2, rfl, i2, _, hb⟩
        replace hs := hs.later hb
        replace hi := hi.later hb
        replace a_b5 := a_b5.later hb
        replace hrw := hrw.later hb
        replace c4 := later hb c4
        replace i1 := i1.later hb
        replace a_b12 := a_b12.later hb
        replace hB := hB.trans (hb.mono (Nat.le_of_lt z4))
        replace z4 := Nat.lt_of_lt_of_le z4 hb.size
        clear hb
        go_wp2_with (refine wpList_allocTo 15 rfl rfl _ rfl soft_zero ?_; intro Xb0 a_b15 hb0 hz0; refine Hid.out ?_)
        unfold Hid
        try simp only [Act.put, List.setIfInBounds_toArray, List.set_cons_zero, List.set_cons_succ]
        obtain ⟨b15, e_b15⟩ : ∃ a, w3.heap.size = a := ⟨_, rfl⟩
        have s_b15 : w3.heap.size ≤ b15 := by omega
        have hb := hb0
        rw [e_b15] at a_b15 hz0 ⊢
        clear hb0
        have hz : b15 < Xb0.heap.size := by omega
        clear e_b15 hz0
        go_wp2_with (refine wpList_storeB rfl rfl _ (.tmp 15) _ rfl (b := b15) (q := 0) rfl (n := 23) (v := softV sw sa2) rfl a_b15 (fun j _ => soft_one _ _ _) soft_size ?_; intro Yb0 t1; refine Hid.out ?_)
        unfold Hid
        replace hb := t1.below _ _ (by omega) hb
        replace a_b15 := t1.blk
        rw [← t1.size] at hz
        clear t1
        replace hs := hs.later hb
        replace hi := hi.later hb
        replace a_b5 := a_b5.later hb
        replace hrw := hrw.later hb
        replace c4 := later hb c4
        replace i1 := i1.later hb
        replace a_b12 := a_b12.later hb
        replace i2 := i2.later hb
        replace hB := hB.trans (hb.mono (Nat.le_of_lt z4))
        replace z4 := Nat.lt_of_lt_of_le z4 hb.size
        clear hb hz
        clear s_b15
        go_wp2_with (refine wpList_loadN rfl _ (.tmp 5) rfl (b := b5) (q := 0) rfl (run_loadSw a_b5) ?_)
        refine (HRIH.out (by omega) _ hs hi).mono ?_
        rintro e w4 ⟨y4, k4, os, rfl, oo, ho4, hb⟩
        replace hs := hs.later hb
        replace hi := hi.later hb
        replace a_b5 := a_b5.later hb
        replace hrw := hrw.later hb
        replace c4 := later hb c4
        replace i1 := i1.later hb
        replace a_b12 := a_b12.later hb
        replace i2 := i2.later hb
        replace a_b15 := a_b15.later hb
        replace hB := hB.trans (hb.mono (Nat.le_of_lt z4))
        replace z4 := Nat.lt_of_lt_of_le z4 hb.size
        clear hb
        go_wp2_with (refine wpList_loadN rfl _ (.tmp 5) rfl (b := b5) (q := 0) rfl (run_loadSw a_b5) ?_)
        refine (HQIH.out xj rw cj HMM.out HL1000.out _ hrw hi).mono ?_
        rintro e w5 ⟨y5, k5, qs, rfl, oq, ho5, hb⟩
        replace hs := hs.later hb
        replace hi := hi.later hb
        replace a_b5 := a_b5.later hb
        replace hrw := hrw.later hb
        replace c4 := later hb c4
        replace i1 := i1.later hb
        replace a_b12 := a_b12.later hb
        replace i2 := i2.later hb
        replace a_b15 := a_b15.later hb
        replace oo := oo.later hb
        replace hB := hB.trans (hb.mono (Nat.le_of_lt z4))
        replace z4 := Nat.lt_of_lt_of_le z4 hb.size
        clear hb
        clear hi a_b5
        have hnob := Nat.le_trans oo.caps.1 oo.caps.2
        have hol : os.length = qs.length := by have h1 := congrArg List.length ho4; have h2 := congrArg List.length ho5; rw [List.length_map] at h1 h2; omega
        have HOP := Lib.hid (ho4.trans ho5.symm)
        have HOE := Lib.hid ho4
        obtain ⟨no, hno⟩ : ∃ n, qs.length = n := ⟨_, rfl⟩
        rw [hno] at hol ⊢
        rw [hol] at hnob ⊢
        have HOL := Lib.hid hol
        have HQL := Lib.hid hno
        clear hol hno ho4 ho5
        have e1 : ((no : Int) != (no : Int)) = false := by simp
        have e2 : (ix != ix) = false := by simp
        have e3 : (cr != cr) = false := by simp
        have e4 : (ci != ci) = false := by simp
        go_wp2_with (first | (refine wpList_loadN rfl _ (.tmp 12) rfl (b := b12) (q := 0) rfl (run_loadSw a_b12) ?_) | (refine wpList_loadN rfl _ (.tmp 15) rfl (b := b15) (q := 0) rfl (run_loadSw a_b15) ?_))
        refine (same_soft sw sa1 sa2 _ i1 i2 HSP.out).mono ?_
        rintro e w6 ⟨rfl, hb⟩
        replace hs := hs.later hb
        replace hrw := hrw.later hb
        replace c4 := later hb c4
        replace i1 := i1.later hb
        replace a_b12 := a_b12.later hb
        replace i2 := i2.later hb
        replace a_b15 := a_b15.later hb
        replace oo := oo.later hb
        replace oq := oq.later hb
        replace hB := hB.trans (hb.mono (Nat.le_of_lt z4))
        replace z4 := Nat.lt_of_lt_of_le z4 hb.size
        clear hb
        clear i1 i2 a_b12 a_b15
        obtain ⟨NC, hNC⟩ : ∃ n, w6.heap.size = n := ⟨_, rfl⟩
        have HNC := Lib.hid hNC
        have HHS := Lib.hid hs
        have HHRW := Lib.hid hrw
        have HOO := Lib.hid oo
        have HOQ := Lib.hid oq
        have HC4 := Lib.hid c4
        have HHB := Lib.hid hB
        have HZ4 := Lib.hid z4
        clear hs hrw oo oq hB z4
        go_wp2_with fail
        clear e1 e2 e3 e4 c4
        go_loopw [109] (fun u109 wq => ∃ i : Nat, i ≤ no ∧ u109 = .int .i64 (i : Int) ∧ Below NC w6 wq) (fun u109 _ => no - (intOf u109).toNat)
        case atStart => exact ⟨0, by omega, rfl, hNC ▸ Below.refl _ _⟩
        case round =>
          obtain ⟨i, hi2, rfl, hb⟩ := hrel
          have hbW : Below w6.heap.size w6 wr := by rw [HNC.out]; exact hb
          by_cases hlt : i < no
          · have hki : decide ((i : Int) < (no : Int)) = true := by simp; omega
            have hki2 : decide (i < no) = true := by simp; omega
            have iB : (i : Int) < (no : Int) := by omega
            obtain ⟨g1, o1, rfl, k0, k1, k2, okk⟩ := (HOO.out.ops.later hbW).at i (by rw [HOL.out]; exact hlt)
            obtain ⟨g2, o2, rfl, q0, q1, q2, okq⟩ := (HOQ.out.later hbW).at i (by rw [HQL.out]; exact hlt)
            obtain ⟨hbe, hde⟩ := opP_get HOP.out i (by rw [HOL.out]; exact hlt)
            have her := opP_er HOE.out HER.out i (by rw [HOL.out]; exact hlt)
            obtain ⟨⟨bk, er, xa, ca, da⟩, hoa⟩ : ∃ r, os.getD i op0 = r := ⟨_, rfl⟩
            obtain ⟨⟨bq, eq_, xq, cq, dq⟩, hoq⟩ : ∃ r, qs.getD i op0 = r := ⟨_, rfl⟩
            rw [hoa] at k0 k1 k2 okk hbe hde her
            rw [hoq] at q0 q1 q2 okq hbe hde
            dsimp only at k0 k1 k2 hbe hde her q0 q1 q2
            subst hbe
            subst hde
            subst her
            have da1 := okk.1
            have dq1 := okq.1
            dsimp only at da1 dq1
            clear hoa hoq okk okq
            obtain ⟨q, hq⟩ : ∃ q : ByteArray, (⟨da.toArray⟩ : ByteArray) = q := ⟨_, rfl⟩
            have HQQ := Lib.hid hq
            have hqq : (q == q) = true := by rw [← hq, str_eq]; exact beq_self_eq_true _
            have HEQ := Lib.hid hqq
            have HDA := Lib.hid da1
            have HDQ := Lib.hid dq1
            have HBW := Lib.hid hb
            have HK := Lib.hid (And.intro q0 q2)
            clear da1 dq1 hbW hb hq hqq
            go_wp2_with fail
            have hbo : Below NC w6 (wr.alloc (.cells #[.int .i64 bk, .bool false, .slice xa da.length ca] 60)) := HBW.out.alloc (by have := HBW.out.size; have := HNC.out; omega) _
            have hba := al (Below.refl wr.heap.size wr) (.cells #[.int .i64 bk, .bool false, .slice xa da.length ca] 60)
            have p0 := cell_new wr #[.int .i64 bk, .bool false, .slice xa da.length ca] 60 (0, 0) 0
            have p1 := cell_new wr #[.int .i64 bk, .bool false, .slice xa da.length ca] 60 (0, 0) 1
            have p2 := cell_new wr #[.int .i64 bk, .bool false, .slice xa da.length ca] 60 (0, 0) 2
            replace q0 := later hba q0
            replace q2 := later hba q2
            have da1 := HDA.out.later hba
            have dq1 := HDQ.out.later hba
            obtain ⟨V, hV⟩ : ∃ V, wr.alloc (.cells #[.int .i64 bk, .bool false, .slice xa da.length ca] 60) = V := ⟨_, rfl⟩
            rw [hV] at hbo p0 p1 p2 q0 q2 da1 dq1 ⊢
            obtain ⟨b25, hb25⟩ : ∃ b, wr.heap.size = b := ⟨_, rfl⟩
            rw [hb25] at p0 p1 p2 ⊢
            clear hV hb25 hba k0 k1 k2 HDA HDQ HK
            replace p0 : V.cell? ⟨b25, 0, none⟩ = some (.int .i64 bk) := p0
            replace p1 : V.cell? ⟨b25, 1, none⟩ = some (.bool false) := p1
            replace p2 : V.cell? ⟨b25, 2, none⟩ = some (.slice xa da.length ca) := p2
            refine wp_region_sched  (fun X => X.cell? ⟨b25, 0, none⟩ = some (.int .i64 bk) ∧ X.cell? ⟨b25, 1, none⟩ = some (.bool false) ∧ X.cell? ⟨b25, 2, none⟩ = some (.slice xa da.length ca) ∧ X.cell? ⟨g2, o2 + i * 3, none⟩ = some (.int .i64 bk) ∧ X.cell? ⟨g2, o2 + i * 3 + 2, none⟩ = some (.slice xq da.length cq) ∧ Bts X xa da ∧ Bts X xq da ∧ Below NC w6 X) (.done [0, 1, 2, 3, 4, 5, 6, 7, 8, 9, 10, 11, 12, 13, 14, 15, 16, 17, 18, 19, 20, 21, 22, 23]) (by kernel_rfl) (by kernel_rfl) (fun _ _ _ _ _ h => h) ⟨by go_simp, by go_simp, by go_simp, by go_simp, by go_simp, da1.later (Below.refl _ _).drew, dq1.later (Below.refl _ _).drew, hbo.drew⟩ ?_
            clear p0 p1 p2 q0 q2 da1 dq1 hbo
            rintro X ⟨p0, p1, p2, q0, q2, da1, dq1, hbo⟩
            rw [wpSched]
            simp only [pick, List.map_cons, List.map_nil, Array.getD_eq_getD_getElem?, List.getElem?_toArray, List.getElem?_cons_succ, List.getElem?_cons_zero, Option.getD_some]
            have kp0 := plusW_cell p0
            have kp1 := plusW_cell p1
            have kp2 := plusW_cell p2
            have kq0 := plusW_cell q0
            have kq2 := plusW_cell q2
            have qa := fun w' (hw : OutOf X w') => run_conv (P := Tryz.prog) Tryz.underlying22 Tryz.underlying5 str_under (da1.later hw.below) ca
            have qb := fun w' (hw : OutOf X w') => run_conv (P := Tryz.prog) Tryz.underlying22 Tryz.underlying5 str_under (dq1.later hw.below) cq
            simp only [HQQ.out] at qa qb
            have hqq := HEQ.out
            have hqn : (q != q) = false := by unfold bne; rw [hqq]; rfl
            have hbn : (bk != bk) = false := by simp
            iterate 15 (first | go_big_quiet_step (fail) | quiet_step (fail))
            (refine wpQuiet_conv (by rfl) _ _ (.tmp 128) rfl (u := .slice xa da.length ca) rfl qa ?_; try simp only [Act.put, List.setIfInBounds_toArray, List.set_cons_zero, List.set_cons_succ])
            iterate 5 (first | go_big_quiet_step (fail) | quiet_step (fail))
            (refine wpQuiet_conv (by rfl) _ _ (.tmp 134) rfl (u := .slice xq da.length cq) rfl qb ?_; try simp only [Act.put, List.setIfInBounds_toArray, List.set_cons_zero, List.set_cons_succ])
            iterate 2 (first | go_big_quiet_step (fail) | quiet_step (fail))
            refine wpQuiet_nil ?_
            clear kp0 kp1 kp2 kq0 kq2 qa qb p0 p1 p2 q0 q2 da1 dq1 hqq hqn hbn
            go_wp2_with fail
            exact ⟨⟨i + 1, by omega, by go_num, hbo⟩, by simp [intOf]; omega⟩
          obtain rfl : i = no := by omega
          have hki : decide ((i : Int) < (i : Int)) = false := by simp
          have c4 := later hbW HC4.out
          have hB := HHB.out.trans (hbW.mono (Nat.le_of_lt HZ4.out))
          have z4 := Nat.lt_of_lt_of_le HZ4.out hbW.size
          have hs := HHS.out.later hbW
          have hrw := HHRW.out.later hbW
          obtain ⟨ND, hND⟩ : ∃ n, wr.heap.size = n := ⟨_, rfl⟩
          obtain ⟨W9, rfl⟩ : ∃ W, W = wr := ⟨_, rfl⟩
          have HND := Lib.hid hND
          have HS9 := Lib.hid hs
          have HR9 := Lib.hid hrw
          have HB9 := Lib.hid hB
          have HZ9 := Lib.hid z4
          clear hs hrw hB z4 hb hbW HHS HHRW HHB HZ4 HOO HOQ HC4 hlt
          go_wp2_with fail
          clear c4
          go_loopw [142] (fun u142 wq => ∃ n : Nat, n ≤ j ∧ u142 = .int .i64 (n : Int) ∧ Below ND W9 wq) (fun u142 _ => j - (intOf u142).toNat)
          case atStart => exact ⟨0, by omega, rfl, hND ▸ Below.refl _ _⟩
          case round =>
            obtain ⟨n, hn2, rfl, hb⟩ := hrel
            have hbW : Below W9.heap.size W9 wr := by rw [HND.out]; exact hb
            by_cases hlt : n < j
            · have hki : decide ((n : Int) < (j : Int)) = true := by simp; omega
              have hki2 : decide (n < j) = true := by simp; omega
              have iB : (n : Int) < (j : Int) := by omega
              obtain ⟨g1, o1, rfl, k1, okk⟩ := (HS9.out.later hbW).at n (by rw [HNR.out]; exact hlt)
              obtain ⟨g2, o2, rfl, q1, okq⟩ := (HR9.out.later hbW).at n (by rw [HRL.out]; exact hlt)
              have hle := row_get HMM.out n (by rw [HNR.out]; exact hlt)
              obtain ⟨⟨xa, ca, da⟩, hoa⟩ : ∃ r, rs.getD n rw0 = r := ⟨_, rfl⟩
              obtain ⟨⟨xq, cq, dq⟩, hoq⟩ : ∃ r, rw.getD n rw0 = r := ⟨_, rfl⟩
              rw [hoa] at k1 okk hle
              rw [hoq] at q1 okq hle
              dsimp only at hle
              subst hle
              replace k1 : wr.cell? ⟨g1, o1 + n, none⟩ = some (.slice xa dq.length ca) := k1
              replace q1 : wr.cell? ⟨g2, o2 + n, none⟩ = some (.slice xq dq.length cq) := q1
              have da1 := okk.1
              have dq1 := okq.1
              dsimp only at da1 dq1
              clear hoa hoq okk okq hbW
              have nB2 : (n : Int) < (rw.length : Int) := by have := HRL.out; omega
              have nB3 : n < rw.length := by have := HRL.out; omega
              obtain ⟨q, hq⟩ : ∃ q : ByteArray, (⟨dq.toArray⟩ : ByteArray) = q := ⟨_, rfl⟩
              have HQQ := Lib.hid hq
              have hqq : (q == q) = true := by rw [← hq, str_eq]; exact beq_self_eq_true _
              have HEQ := Lib.hid hqq
              clear hq hqq
              have HDA := Lib.hid da1
              have HDQ := Lib.hid dq1
              have HBW := Lib.hid hb
              clear da1 dq1 hb
              go_wp2_with fail
              have da1 := HDA.out
              have dq1 := HDQ.out
              have hbo := HBW.out
              refine wp_region_sched  (fun X => X.cell? ⟨g2, o2 + n, none⟩ = some (.slice xq dq.length cq) ∧ Bts X xa dq ∧ Bts X xq dq ∧ Below ND W9 X) (.done [0, 1, 2, 3, 4, 5, 6, 7]) (by kernel_rfl) (by kernel_rfl) (fun _ _ _ _ _ h => h) ⟨by go_simp, da1.later (Below.refl _ _).drew, dq1.later (Below.refl _ _).drew, hbo.drew⟩ ?_
              clear k1 q1 da1 dq1 hbo HDA HDQ HBW
              rintro X ⟨q1, da1, dq1, hbo⟩
              rw [wpSched]
              simp only [pick, List.map_cons, List.map_nil, Array.getD_eq_getD_getElem?, List.getElem?_toArray, List.getElem?_cons_succ, List.getElem?_cons_zero, Option.getD_some]
              have kq1 := plusW_cell q1
              have qa := fun w' (hw : OutOf X w') => run_conv (P := Tryz.prog) Tryz.underlying22 Tryz.underlying5 str_under (da1.later hw.below) ca
              have qb := fun w' (hw : OutOf X w') => run_conv (P := Tryz.prog) Tryz.underlying22 Tryz.underlying5 str_under (dq1.later hw.below) cq
              simp only [HQQ.out] at qa qb
              have hqq := HEQ.out
              have hqn : (q != q) = false := by unfold bne; rw [hqq]; rfl
              (first | go_big_quiet_step (fail) | quiet_step (fail))
              (refine wpQuiet_conv (by rfl) _ _ (.tmp 147) rfl (u := .slice xa dq.length ca) rfl qa ?_; try simp only [Act.put, List.setIfInBounds_toArray, List.set_cons_zero, List.set_cons_succ])
              iterate 4 (first | go_big_quiet_step (fail) | quiet_step (fail))
              (refine wpQuiet_conv (by rfl) _ _ (.tmp 152) rfl (u := .slice xq dq.length cq) rfl qb ?_; try simp only [Act.put, List.setIfInBounds_toArray, List.set_cons_zero, List.set_cons_succ])
              (first | go_big_quiet_step (fail) | quiet_step (fail))
              refine wpQuiet_nil ?_
              clear kq1 qa qb q1 da1 dq1 hqq hqn
              go_wp2_with fail
              exact ⟨⟨n + 1, by omega, by go_num, hbo⟩, by simp [intOf]; omega⟩
            have hki : decide ((n : Int) < (j : Int)) = false := by simp; omega
            have hki2 : decide (n < j) = false := by simp; omega
            have hB := HB9.out.trans (hbW.mono (Nat.le_of_lt HZ9.out))
            have z4 := Nat.lt_of_lt_of_le HZ9.out hbW.size
            clear hb hbW
            go_wp2_with fail
            refine (awake_any _).mono ?_
            rintro e wX ⟨rfl, hb⟩
            have hBX := hB.trans (hb.mono (Nat.le_of_lt z4))
            clear hb
            go_wp2_with fail
            go_ret
            exact ⟨rfl, by rw [HE4.out]; exact hBX⟩

end Go.Proofs.YtapefonhgkjgnaaGreat
