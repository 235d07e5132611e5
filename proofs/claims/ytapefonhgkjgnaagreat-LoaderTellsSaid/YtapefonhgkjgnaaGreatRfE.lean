/- The reference of layer 38: Store, Record. -/
import Derived.Test.YtapefonhgkjgnaaGreatRfC
import Derived.Test.YtapefonhgkjgnaaGreatLdL
import Derived.Test.YtapefonhgkjgnaaGreatLdRb
set_option maxRecDepth 20000
namespace Go.Proofs.YtapefonhgkjgnaaGreat
open Go.RowKit

theorem results_tttct {fn : Func} {x y z p u : Tmp} {ty : TypeId} (h : fn.results = #[.tmp x, .tmp y, .tmp z, .cell p ty, .tmp u]) (tmps : Array Value) (P : Program) (w : World) :
    (results fn tmps).run P w =
      ((asAddr (tmps.getD p undef)).run P w).andThen fun a w₁ => ((loadVar ty a).run P w₁).andThen fun v w₂ => .ok (.tuple #[tmps.getD x undef, tmps.getD y undef, tmps.getD z undef, v, tmps.getD u undef]) w₂ := by
  simp only [results, h]
  simp [Sem.run_bind, Result.andThen]
/-- What Record returns out of its box. -/
theorem rec_ret {fn : Func} {R : Ending → World → Prop} {a : Act} {W : World} {b : Nat} {v : Nat → Value} {v0 v1 v2 v4 : Value} {x y z p u : Tmp}
    (hf : fn.results = #[.tmp x, .tmp y, .tmp z, .cell p 29, .tmp u]) (h0 : a.tmps.getD x undef = v0) (h1 : a.tmps.getD y undef = v1) (h2 : a.tmps.getD z undef = v2) (h3 : a.tmps.getD p undef = .pointer (some ⟨b, 0, none⟩)) (h4 : a.tmps.getD u undef = v4) (hd : a.defers = [])
    (g : Blk W b 0 23 v) (hR : R (.returned (.tuple #[v0, v1, v2, aggN 23 v, v4])) W) : bodyPost Tryz.prog fn R .ret a W := by
  refine bodyPost_ret (v := .tuple #[v0, v1, v2, aggN 23 v, v4]) ?_ hd hR
  rw [results_tttct hf, h0, h1, h2, h3, h4]
  simp [asAddr, Result.andThen]
  rw [run_loadSw g]
theorem bytes_inj {x y : D64} (h : Dig.bytes x = Dig.bytes y) : x = y := by
  have e : ∀ d : D64, Sgn.wd (Dig.bytes d) 0 8 = d := fun d => Sgn.wd_bytes _ _ _ fun i hi => by rw [Nat.zero_add]; exact Sgn.bytes_getD d i hi
  rw [← e x, ← e y, h]
/-- The digest that a record holds is compared byte by byte. -/
theorem dig_eq (fd : D64) (d : List UInt8) (h : d.length = 14) : (Dig.bytes fd == d.drop 6) = (fd == Sgn.wd d 6 8) := by
  have e : d.drop 6 = Dig.bytes (Sgn.wd d 6 8) := by
    rw [Ld.bytes_wd d 6 (by omega), List.take_of_length_le (by rw [List.length_drop]; omega)]
  rw [e, Bool.eq_iff_iff, beq_iff_eq, beq_iff_eq]
  exact ⟨bytes_inj, fun h => by rw [h]⟩
/-- The record and the software that Record returns. -/
def Ld.rcR (ls : List (List UInt8)) (i : Nat) (root : D64) (h : Int) : Ld.Rec := if Ld.okL ls i root h = true then Ld.ldR ls i else zRec
def Ld.rcS (ls : List (List UInt8)) (i : Nat) (root : D64) (h : Int) : Ld.Sw := if Ld.okL ls i root h = true then Ld.ldS ls i else zSw
def RecOf (ls : List (List UInt8)) (i : Nat) (root : D64) (h : Int) (w : World) (e : Ending) (w' : World) : Prop :=
  ∃ a, e = .returned (.tuple #[.int .i64 ((Ld.rcR ls i root h).number : Int), .int .i64 ((Ld.rcR ls i root h).bank : Int), .int .i64 ((Ld.rcR ls i root h).chunks : Int), aggN 23 (softV (Ld.rcS ls i root h) a), .bool (Ld.okL ls i root h)]) ∧ SwIn w' (Ld.rcS ls i root h) a ∧ SwNew w.heap.size a ∧ Below w.heap.size w w'
theorem RecOf.no {ls : List (List UInt8)} {i : Nat} {root : D64} {h : Int} {w w' : World} (hk : Ld.okL ls i root h = false) (hb : Below w.heap.size w w') : RecOf ls i root h w (.returned (.tuple #[.int .i64 0, .int .i64 0, .int .i64 0, aggN 23 (softV zSw zA), .bool false])) w' := by
  have e1 : Ld.rcR ls i root h = zRec := by unfold Ld.rcR; rw [hk]; rfl
  have e2 : Ld.rcS ls i root h = zSw := by unfold Ld.rcS; rw [hk]; rfl
  refine ⟨zA, ?_, ?_, zA_new _, hb⟩
  · rw [e1, e2, hk]; rfl
  · rw [e2]; exact zSw_in _
theorem RecOf.yes {ls : List (List UInt8)} {i : Nat} {root : D64} {h : Int} {w w' : World} {n b m : Nat} {s : Ld.Sw} {a : SwA} (hk : Ld.okL ls i root h = true) (h1 : (Ld.ldR ls i).number = n) (h2 : (Ld.ldR ls i).bank = b) (h3 : (Ld.ldR ls i).chunks = m) (h4 : Ld.ldS ls i = s) (hs : SwIn w' s a) (hw : SwNew w.heap.size a) (hb : Below w.heap.size w w') : RecOf ls i root h w (.returned (.tuple #[.int .i64 (n : Int), .int .i64 (b : Int), .int .i64 (m : Int), aggN 23 (softV s a), .bool true])) w' := by
  have e1 : Ld.rcR ls i root h = Ld.ldR ls i := by unfold Ld.rcR; rw [hk]; rfl
  have e2 : Ld.rcS ls i root h = s := by unfold Ld.rcS; rw [hk, h4]; rfl
  refine ⟨a, ?_, ?_, hw, hb⟩
  · rw [e1, e2, hk, h1, h2, h3]
  · rw [e2]; exact hs
theorem rstore_any (x : Option Addr) (rs : List Rw) (c : Nat) (w : World) (hs : Rws w x rs) (hn : rs.length ≤ 1000) : Calls Tryz.prog 44 #[.slice x rs.length c] w fun e w' => e = .returned (.bool (Ld.usable (rs.map (·.l)))) ∧ w' = w := by
  have HV := refValid_any x rs c w hs hn
  have HU : Hid (Ld.usable (rs.map (·.l)) = (vldS (rs.map (·.l)) && decide (rs.length = 34))) := by show _ = _; unfold Ld.usable; rw [List.length_map]
  rw [HU.out]
  obtain ⟨v, hv⟩ : ∃ v, vldS (rs.map (·.l)) = v := ⟨_, rfl⟩
  rw [hv] at HV ⊢
  obtain ⟨n, hn⟩ : ∃ n, rs.length = n := ⟨_, rfl⟩
  rw [hn] at HV ⊢
  obtain ⟨q, hq⟩ : ∃ q, decide (n = 34) = q := ⟨_, rfl⟩
  have q1 : ((n : Int) == 34) = q := by rw [← hq, Bool.eq_iff_iff, beq_iff_eq, decide_eq_true_iff]; omega
  rw [hq]
  clear hv hn hq HU
  go_enter Tryz.func44, Tryz.ntmps44
  go_wp2_with fail
  refine HV.mono ?_
  rintro e w' ⟨rfl, hw⟩
  obtain rfl : w = w' := hw.symm
  clear hw HV
  cases v
  · go_wp2_with fail
    go_ret
    exact ⟨rfl, rfl⟩
  · go_wp2_with fail
    go_ret
    exact ⟨rfl, rfl⟩
set_option maxHeartbeats 4000000 in
theorem record_any (x : Option Addr) (rs : List Rw) (c : Nat) (i : Nat) (root : D64) (h : Int) (w : World) (hs : Rws w x rs) (hn : rs.length ≤ 1000) :
    Calls Tryz.prog 45 #[.slice x rs.length c, .int .i64 (i : Int), .int .u64 (num root), .int .i64 h] w (RecOf (rs.map (·.l)) i root h w) := by
  have HR := fun (j : Int) (W : World) (hW : Rws W x rs) => refRead_any x rs c j W hW hn
  unfold ReadOf at HR
  obtain ⟨ls, hls⟩ : ∃ ls, rs.map (·.l) = ls := ⟨_, rfl⟩
  rw [hls] at HR ⊢
  obtain ⟨nr, hnr⟩ : ∃ n, rs.length = n := ⟨_, rfl⟩
  rw [hnr] at HR ⊢
  clear hls hnr hn
  have HR0 := HR (i : Int)
  have HOK := @Ld.okL_read ls i root h
  obtain ⟨cd, hcd⟩ : ∃ z, rdC ls (i : Int) = z := ⟨_, rfl⟩
  obtain ⟨d, hd⟩ : ∃ l, rdM ls (i : Int) = l := ⟨_, rfl⟩
  rw [hcd] at HR0 HOK
  rw [hd] at HR0
  have HCD := Lib.hid hcd
  have HD := Lib.hid hd
  clear hcd hd
  go_enter Tryz.func45, Tryz.ntmps45
  go_wp2_with (refine wpList_allocTo 11 rfl rfl _ rfl soft_zero ?_; intro W5 g5 hB hz5; refine Hid.out ?_)
  unfold Hid
  try simp only [Act.put, List.setIfInBounds_toArray, List.set_cons_zero, List.set_cons_succ]
  replace hs := hs.later hB
  obtain ⟨b5, e2⟩ : ∃ b, w.heap.size = b := ⟨_, rfl⟩
  have HE2 := Lib.hid e2
  rw [e2] at g5 hB hz5 ⊢
  clear e2
  have z5 : b5 < W5.heap.size := by omega
  clear hz5
  go_wp2_with fail
  refine (HR0 _ hs).mono ?_
  rintro e w1 ⟨y, cy, rfl, yo, hb⟩
  replace g5 := g5.later hb
  replace hs := hs.later hb
  replace hB := hB.trans (hb.mono (by omega))
  replace z5 := Nat.lt_of_lt_of_le z5 hb.size
  clear hb HR0
  by_cases hc0 : ¬ cd = 0
  · have k0 : (cd == 0) = false := by simpa using hc0
    have k1 : (cd != 0) = true := by simpa using hc0
    clear hs yo
    go_wp2_with (refine wpList_storeB rfl rfl _ (.tmp 11) _ rfl (b := b5) (q := 0) rfl (n := 23) (v := softV zSw zA) rfl g5 (fun j _ => soft_one _ _ _) soft_size ?_; intro Y2 u2; refine Hid.out ?_)
    unfold Hid
    try simp only [Act.put, List.setIfInBounds_toArray, List.set_cons_zero, List.set_cons_succ]
    replace hB := u2.below _ _ (by omega) hB
    replace g5 := u2.blk
    clear u2
    go_wp2_with fail
    exact rec_ret rfl rfl rfl rfl rfl rfl rfl g5 (.no (HOK hc0) (by rw [HE2.out]; exact hB))
  rw [Decidable.not_not] at hc0
  subst hc0
  clear HOK
  by_cases hl0 : ¬ d.length = 14
  · have HN : Hid (Ld.okR d = false) := by show _ = _; unfold Ld.okR; rw [decide_eq_false hl0]; rfl
    obtain ⟨ld, hld⟩ : ∃ n, d.length = n := ⟨_, rfl⟩
    rw [hld] at hl0 ⊢
    have k0 : ((ld : Int) == 14) = false := by rw [beq_eq_false_iff_ne]; omega
    have k1 : ((ld : Int) != 14) = true := by rw [bne_iff_ne]; omega
    clear hld hl0
    clear hs yo
    go_wp2_with (refine wpList_storeB rfl rfl _ (.tmp 11) _ rfl (b := b5) (q := 0) rfl (n := 23) (v := softV zSw zA) rfl g5 (fun j _ => soft_one _ _ _) soft_size ?_; intro Y2 u2; refine Hid.out ?_)
    unfold Hid
    try simp only [Act.put, List.setIfInBounds_toArray, List.set_cons_zero, List.set_cons_succ]
    replace hB := u2.below _ _ (by omega) hB
    replace g5 := u2.blk
    clear u2
    go_wp2_with fail
    exact rec_ret rfl rfl rfl rfl rfl rfl rfl g5 (.no (okL_okR (by rw [HD.out]; exact HN.out)) (by rw [HE2.out]; exact hB))
  rw [Decidable.not_not] at hl0
  have HL := Lib.hid hl0
  rw [hl0]
  obtain ⟨gb, rfl⟩ := yo.some_of (by omega)
  have hcy := yo.le_cap.1
  have db := yo.bts
  rw [hl0] at hcy
  have c4 := db.cell0 4 (by omega)
  have c5 := db.cell0 5 (by omega)
  obtain ⟨bk, hbk⟩ : ∃ n, (d.getD 4 0).toNat = n := ⟨_, rfl⟩
  obtain ⟨m, hm⟩ : ∃ n, (d.getD 5 0).toNat = n := ⟨_, rfl⟩
  have hbk8 : bk < 256 := by rw [← hbk]; exact (d.getD 4 0).toNat_lt
  have hm8 : m < 256 := by rw [← hm]; exact (d.getD 5 0).toNat_lt
  rw [hbk] at c4
  rw [hm] at c5
  have HBK := Lib.hid hbk
  have HM := Lib.hid hm
  clear hbk hm hl0 yo
  by_cases h1 : 1 < bk
  · have HN : Hid (Ld.okR d = false) := by show _ = _; unfold Ld.okR; rw [HBK.out, HM.out, decide_eq_false (show ¬ bk ≤ 1 by omega)]; simp
    have ka : decide ((bk : Int) > 1) = true := by simp; omega
    have kb : decide (bk > 1) = true := by simp; omega
    have kc : decide ((1 : Int) < (bk : Int)) = true := by simp; omega
    have kd : decide (1 < bk) = true := by simp; omega
    clear h1 hbk8 hm8
    clear hs db
    go_wp2_with (refine wpList_storeB rfl rfl _ (.tmp 11) _ rfl (b := b5) (q := 0) rfl (n := 23) (v := softV zSw zA) rfl g5 (fun j _ => soft_one _ _ _) soft_size ?_; intro Y2 u2; refine Hid.out ?_)
    unfold Hid
    try simp only [Act.put, List.setIfInBounds_toArray, List.set_cons_zero, List.set_cons_succ]
    replace hB := u2.below _ _ (by omega) hB
    replace g5 := u2.blk
    clear u2
    go_wp2_with fail
    exact rec_ret rfl rfl rfl rfl rfl rfl rfl g5 (.no (okL_okR (by rw [HD.out]; exact HN.out)) (by rw [HE2.out]; exact hB))
  have pa : decide ((bk : Int) > 1) = false := by simp; omega
  have pb : decide (bk > 1) = false := by simp; omega
  have pc : decide ((1 : Int) < (bk : Int)) = false := by simp; omega
  have pd : decide (1 < bk) = false := by simp; omega
  by_cases h2 : m < 1
  · have HN : Hid (Ld.okR d = false) := by show _ = _; unfold Ld.okR; rw [HBK.out, HM.out, decide_eq_false (show ¬ 1 ≤ m by omega)]; simp
    have ka : decide ((m : Int) < 1) = true := by simp; omega
    have kb : decide (m < 1) = true := by simp; omega
    have kc : decide ((1 : Int) > (m : Int)) = true := by simp; omega
    have kd : decide (1 > m) = true := by simp; omega
    clear h1 h2 hbk8 hm8
    clear hs db
    go_wp2_with (refine wpList_storeB rfl rfl _ (.tmp 11) _ rfl (b := b5) (q := 0) rfl (n := 23) (v := softV zSw zA) rfl g5 (fun j _ => soft_one _ _ _) soft_size ?_; intro Y2 u2; refine Hid.out ?_)
    unfold Hid
    try simp only [Act.put, List.setIfInBounds_toArray, List.set_cons_zero, List.set_cons_succ]
    replace hB := u2.below _ _ (by omega) hB
    replace g5 := u2.blk
    clear u2
    go_wp2_with fail
    exact rec_ret rfl rfl rfl rfl rfl rfl rfl g5 (.no (okL_okR (by rw [HD.out]; exact HN.out)) (by rw [HE2.out]; exact hB))
  have qa : decide ((m : Int) < 1) = false := by simp; omega
  have qb : decide (m < 1) = false := by simp; omega
  have qc : decide ((1 : Int) > (m : Int)) = false := by simp; omega
  have qd : decide (1 > m) = false := by simp; omega
  by_cases h3 : 16 < m
  · have HN : Hid (Ld.okR d = false) := by show _ = _; unfold Ld.okR; rw [HBK.out, HM.out, decide_eq_false (show ¬ m ≤ 16 by omega)]; simp
    have ka : decide ((m : Int) > 16) = true := by simp; omega
    have kb : decide (m > 16) = true := by simp; omega
    have kc : decide ((16 : Int) < (m : Int)) = true := by simp; omega
    have kd : decide (16 < m) = true := by simp; omega
    clear h1 h2 h3 hbk8 hm8
    clear hs db
    go_wp2_with (refine wpList_storeB rfl rfl _ (.tmp 11) _ rfl (b := b5) (q := 0) rfl (n := 23) (v := softV zSw zA) rfl g5 (fun j _ => soft_one _ _ _) soft_size ?_; intro Y2 u2; refine Hid.out ?_)
    unfold Hid
    try simp only [Act.put, List.setIfInBounds_toArray, List.set_cons_zero, List.set_cons_succ]
    replace hB := u2.below _ _ (by omega) hB
    replace g5 := u2.blk
    clear u2
    go_wp2_with fail
    exact rec_ret rfl rfl rfl rfl rfl rfl rfl g5 (.no (okL_okR (by rw [HD.out]; exact HN.out)) (by rw [HE2.out]; exact hB))
  have ra : decide ((m : Int) > 16) = false := by simp; omega
  have rb : decide (m > 16) = false := by simp; omega
  have rc : decide ((16 : Int) < (m : Int)) = false := by simp; omega
  have rd : decide (16 < m) = false := by simp; omega
  have hbk1 : bk ≤ 1 := by omega
  have hm16 : m ≤ 16 := by omega
  have HKR : Hid (Ld.okR d = true) := (Ld.okR_iff d).2 ⟨HL.out, by show (d.getD 4 0).toNat ≤ 1; rw [HBK.out]; exact hbk1, by show 1 ≤ (d.getD 5 0).toNat; rw [HM.out]; omega, by show (d.getD 5 0).toNat ≤ 16; rw [HM.out]; exact hm16⟩
  clear h1 h2 h3 hbk8 hm8
  have HRR : Hid ((Ld.ldR ls i).bank = bk ∧ (Ld.ldR ls i).chunks = m ∧ (Ld.ldR ls i).number = Ld.nat (d.take 4) ∧ (Ld.ldR ls i).dg = Sgn.wd d 6 8) := by
    show _ ∧ _
    unfold Ld.ldR
    rw [HD.out]
    exact ⟨HBK.out, HM.out, rfl, rfl⟩
  obtain ⟨p, hp⟩ : ∃ p, 2 + 16 * bk = p := ⟨_, rfl⟩
  have hp18 : p ≤ 18 := by omega
  have HG := Lib.hid (@Ld.okL_gok ls i root h)
  have HP := Lib.hid hp
  clear hp
  go_wp2_with fail
  clear pa pb pc pd qa qb qc qd ra rb rc rd
  obtain ⟨NV, hNV⟩ : ∃ n, w1.heap.size = n := ⟨_, rfl⟩
  have HNV := Lib.hid hNV
  have hgb : gb < NV := by rw [← hNV]; exact World.block_lt_of_cell? _ _ c4
  have z5N : b5 < NV := by omega
  go_loopw [15, 16] (fun u15 u16 wr => ∃ (k : Nat) (y1 : Option Addr) (cy1 : Nat), k ≤ m ∧ u16 = .int .i64 (k : Int) ∧ u15 = .slice y1 (Ld.gat ls p k).length cy1 ∧ OwnsB NV wr y1 cy1 (Ld.gat ls p k) ∧ Ld.gok ls p k = true ∧ Below NV w1 wr) (fun _ u16 _ => m - (intOf u16).toNat)
  case atStart => exact ⟨0, none, 0, by omega, rfl, rfl, OwnsB.nil _ _, rfl, by rw [← hNV]; exact Below.refl _ _⟩
  case round =>
    obtain ⟨k, y1, cy1, hk, rfl, rfl, yo, hgk, hb⟩ := hrel
    have hbL : Below w1.heap.size w1 wr := by rw [HNV.out]; exact hb
    replace c4 := later hbL c4
    replace c5 := later hbL c5
    replace hs := hs.later hbL
    have hNw := hb.size
    have HNW := Lib.hid (show NV ≤ wr.heap.size by rw [← HNV.out]; exact hNw)
    clear hNw hNV
    by_cases hlt : k < m
    · have hki : decide ((k : Int) < (m : Int)) = true := by simp; omega
      obtain ⟨z, hz⟩ : ∃ z, p + k = z := ⟨_, rfl⟩
      have HRk := HR (z : Int)
      obtain ⟨f, hf⟩ : ∃ f, Ld.gat ls p k = f := ⟨_, rfl⟩
      have hfl := gat_len ls p k
      rw [hf] at yo hfl ⊢
      have hfl := Lib.hid (show f.length ≤ 4080 by omega)
      obtain ⟨q, hq⟩ : ∃ q, rdC ls (z : Int) = q := ⟨_, rfl⟩
      obtain ⟨mm, hmm⟩ : ∃ l, rdM ls (z : Int) = l := ⟨_, rfl⟩
      have hml := rdM_len ls (z : Int)
      rw [hmm] at hml HRk
      rw [hq] at HRk
      have hml := Lib.hid hml
      have HNX : Hid (Ld.gat ls p (k + 1) = f ++ mm) := by show _ = _; unfold Ld.gat; rw [hf, hz, hmm]
      have HGX : Hid (Ld.gok ls p (k + 1) = (q == 0)) := by show _ = _; unfold Ld.gok; rw [hgk, hz, hq]; rfl
      have HZ := Lib.hid hz
      have HQ := Lib.hid hq
      clear hf hq hmm hz hgk
      have HB0 := Lib.hid hb
      clear hb
      go_wp2_with fail
      have hzi : 2 + 16 * (bk : Int) + (k : Int) = (z : Int) := by have := HZ.out; have := HP.out; omega
      rw [hzi]
      clear hzi
      refine (HRk _ hs).mono ?_
      rintro e X2 ⟨y2, cy2, rfl, mo, hb1⟩
      replace yo := yo.later hb1
      have hb := HB0.out.trans (hb1.mono HNW.out)
      have hsz := Nat.le_trans HNW.out hb1.size
      have mb := mo.bts
      have mn := mo.none_cap
      clear HRk mo
      by_cases hq0 : ¬ q = 0
      · have hbw : Below w1.heap.size w1 X2 := by rw [HNV.out]; exact hb
        replace g5 := g5.later hbw
        replace hB := hB.trans (hbw.mono (by omega))
        have zx : b5 < X2.heap.size := by omega
        have q0 : (q == 0) = false := by simpa using hq0
        have q1 : (q != 0) = true := by simpa using hq0
        clear hbw hb hb1
        clear hs yo mb mn c4 c5 db
        go_wp2_with (refine wpList_storeB rfl rfl _ (.tmp 11) _ rfl (b := b5) (q := 0) rfl (n := 23) (v := softV zSw zA) rfl g5 (fun j _ => soft_one _ _ _) soft_size ?_; intro Y2 u2; refine Hid.out ?_)
        unfold Hid
        try simp only [Act.put, List.setIfInBounds_toArray, List.set_cons_zero, List.set_cons_succ]
        replace hB := u2.below _ _ (by omega) hB
        replace g5 := u2.blk
        clear u2
        go_wp2_with fail
        exact rec_ret rfl rfl rfl rfl rfl rfl rfl g5 (.no (HG.out (by rw [HRR.out.1, HRR.out.2.1, HP.out]; exact Ld.gok_no _ _ _ k hlt (by rw [HZ.out, HQ.out]; exact hq0))) (by rw [HE2.out]; exact hB))
      rw [Decidable.not_not] at hq0
      subst hq0
      clear hs c4 c5
      go_wp2_with (at_builtin; refine wpList_app rfl _ _ rfl (B := NV) (l := f) yo rfl (m := mm) rfl mb mn (by have := hfl.out; have := hml.out; omega) (Eq.symm HNX.out) hsz ?_; intro x3 k3 w3 o3 b3 _; refine Hid.out ?_)
      unfold Hid
      have hb3 := hb.trans b3
      have O3 := Lib.hid o3
      clear b3 o3 yo mb mn hb hb1 hsz
      go_wp2_with fail
      exact ⟨⟨k + 1, x3, k3, by omega, by go_num, rfl, O3.out, HGX.out, hb3⟩, by simp [intOf]; omega⟩
    · obtain rfl : k = m := by omega
      have hki : decide ((k : Int) < (k : Int)) = false := by simp
      replace g5 := g5.later hbL
      replace hB := hB.trans (hbL.mono (by omega))
      replace db := db.later hbL
      have z5w : b5 < wr.heap.size := by have := HNW.out; omega
      have hgbw : gb < wr.heap.size := by have := HNW.out; omega
      have hF : Ld.ldF ls i = Ld.gat ls p k := by unfold Ld.ldF; rw [HRR.out.1, HRR.out.2.1, HP.out]
      have hfl := gat_len ls p k
      have hrest : Ld.okL ls i root h = (Ld.okU (Ld.gat ls p k) && ((Dig.ofL (Ld.gat ls p k) == Sgn.wd d 6 8) && Ld.genu (Ld.swOf (Ld.gat ls p k)) root h)) := by
        rw [okL_rest HCD.out (by rw [HD.out]; exact HKR.out) (by rw [HRR.out.1, HRR.out.2.1, HP.out]; exact hgk), hF, HRR.out.2.2.2]; unfold Ld.ldS; rw [hF]
      have hSW : Ld.ldS ls i = Ld.swOf (Ld.gat ls p k) := by unfold Ld.ldS; rw [hF]
      obtain ⟨f, hf⟩ : ∃ f, Ld.gat ls p k = f := ⟨_, rfl⟩
      rw [hf] at yo hfl hrest hSW ⊢
      have hfl := Lib.hid (show f.length ≤ 4080 by omega)
      have HREST := Lib.hid hrest
      have HSW := Lib.hid hSW
      clear hrest hSW hf hF hgk hb hbL hs HR
      go_wp2_with fail
      refine (runpack_any y1 f cy1 _ yo.bts yo.le_cap.1 (by have := hfl.out; omega)).mono ?_
      rintro e w4 ⟨sa, rfl, hin, hnew, hb⟩
      have HI : Hid ((∀ p, sa.xi = some p → p.block ≠ b5) ∧ (∀ p, sa.xp = some p → p.block ≠ b5)) := ⟨fun p e => (by have := hnew.1 p e; omega), fun p e => (by have := hnew.2 p e; omega)⟩
      have HNEW : Hid (SwNew b5 sa) := ⟨fun p e => (by have := hnew.1 p e; omega), fun p e => (by have := hnew.2 p e; omega)⟩
      clear hnew
      replace g5 := g5.later hb
      replace c4 := later hb c4
      replace c5 := later hb c5
      replace yo := yo.later hb
      replace db := db.later hb
      replace hB := hB.trans (hb.mono (by omega))
      have hzz := hb.size
      replace z5w : b5 < w4.heap.size := by omega
      replace hgbw : gb < w4.heap.size := by omega
      clear hb hzz
      obtain ⟨us, hus⟩ : ∃ s, unS f = s := ⟨_, rfl⟩
      obtain ⟨uc, huc⟩ : ∃ s, unC f = s := ⟨_, rfl⟩
      rw [hus] at hin ⊢
      rw [huc]
      have HUS := Lib.hid hus
      have HUC := Lib.hid huc
      clear hus huc
      go_wp2_with (refine wpList_allocTo 19 rfl rfl _ rfl soft_zero ?_; intro Xv0 a_b19 hb0 hz0; refine Hid.out ?_)
      unfold Hid
      try simp only [Act.put, List.setIfInBounds_toArray, List.set_cons_zero, List.set_cons_succ]
      obtain ⟨b19, e_b19⟩ : ∃ a, w4.heap.size = a := ⟨_, rfl⟩
      have s_b19 : w4.heap.size ≤ b19 := by omega
      have hb := hb0
      rw [e_b19] at a_b19 hz0 ⊢
      clear hb0
      have hz : b19 < Xv0.heap.size := by omega
      clear e_b19 hz0
      go_wp2_with (refine wpList_storeB rfl rfl _ (.tmp 19) _ rfl (b := b19) (q := 0) rfl (n := 23) (v := softV us sa) rfl a_b19 (fun j _ => soft_one _ _ _) soft_size ?_; intro Yv0 t1; refine Hid.out ?_)
      unfold Hid
      replace hb := t1.below _ _ (by omega) hb
      replace a_b19 := t1.blk
      rw [← t1.size] at hz
      clear t1
      replace c4 := later hb c4
      replace c5 := later hb c5
      replace g5 := g5.later hb
      replace yo := yo.later hb
      replace db := db.later hb
      replace hin := hin.later hb
      replace hB := hB.trans (hb.mono (by omega))
      clear hb hz
      have g19 := a_b19
      clear a_b19
      have n19 : b19 ≠ b5 := by omega
      have z19 : b19 < Yv0.heap.size := World.block_lt_of_cell? _ _ (g19.at 0 (by omega)).1
      replace z5w : b5 < Yv0.heap.size := by omega
      replace hgbw : gb < Yv0.heap.size := by omega
      clear s_b19
      go_wp2_with fail
      obtain ⟨fd, hfd⟩ : ∃ d, Dig.ofL f = d := ⟨_, rfl⟩
      have HFD := Lib.hid hfd
      obtain ⟨gn, hgn⟩ : ∃ b, Ld.genu us root h = b := ⟨_, rfl⟩
      have HGN := Lib.hid hgn
      obtain ⟨qe, hqe⟩ : ∃ b, (Dig.bytes fd == d.drop 6) = b := ⟨_, rfl⟩
      have HQE : Hid ((fd == Sgn.wd d 6 8) = qe) := by show _ = _; rw [← hqe, dig_eq fd d HL.out]
      have h8 : (d.drop 6).length = 8 := by rw [List.length_drop, HL.out]
      have hb8 := Dig.bytes_length fd
      have HEQ := fun (W : World) (y5 : Option Addr) (c5 : Nat) (h1 : Bts W y5 (Dig.bytes fd)) (h2 : Bts W (some ⟨gb, 0, none⟩) d) => requal_any y5 (subA (some ⟨gb, 0, none⟩) cy 6) (Dig.bytes fd) (d.drop 6) c5 (cy - 6) W h1 (h2.sub (by rw [HL.out]; exact hcy) 6) (by rw [hb8]; omega)
      simp only [h8, hqe] at HEQ
      have HOKQ : Hid (Ld.okL ls i root h = (decide (uc = 0) && (qe && gn))) := by
        show _ = _
        rw [HREST.out, HFD.out, HQE.out, ← HGN.out, ← HUC.out, ← HUS.out]
        unfold unC unS
        by_cases hu : Ld.okU f = true
        · rw [if_pos hu, if_pos hu, hu]; rfl
        · rw [if_neg hu, if_neg hu, Bool.eq_false_iff.2 hu]; rfl
      have HUX : Hid (Ld.okL ls i root h = true → Ld.ldS ls i = us) := fun hk => by
        have h1 := ((Ld.okL_iff _ _ _ _).1 hk).2.2.2.1
        have h2 := HOKQ.out
        rw [hk] at h2
        rw [HSW.out, ← HUS.out]
        unfold unS
        by_cases hu : Ld.okU f = true
        · rw [if_pos hu]
        · exfalso
          have h3 := HUC.out
          unfold unC at h3
          rw [if_neg hu] at h3
          rw [← h3] at h2
          simp at h2
      clear hfd hgn hqe h8
      obtain ⟨ok, hok⟩ : ∃ b, Ld.okL ls i root h = b := ⟨_, rfl⟩
      rw [hok] at HOKQ
      have HOK := Lib.hid hok
      clear hok
      obtain ⟨NY, hNY⟩ : ∃ n, Yv0.heap.size = n := ⟨_, rfl⟩
      have HNY := Lib.hid hNY
      have z19N : b19 < NY := by omega
      have z5N2 : b5 < NY := by omega
      have zgN : gb < NY := by omega
      clear hNY
      refine wp_cutN (fun a' X => Blk X b5 0 23 (softV zSw zA) ∧ Blk X b19 0 23 (softV us sa) ∧ Below NY Yv0 X ∧ ∃ u : Nat → Value, a' = { tmps := #[u 0, u 1, u 2, u 3, u 4, u 5, u 6, u 7, u 8, u 9, u 10, .pointer (some ⟨b5, 0, none⟩), u 12, .slice (some ⟨gb, 0, none⟩) 14 cy, u 14, u 15, u 16, u 17, u 18, .pointer (some ⟨b19, 0, none⟩), u 20, u 21, u 22, u 23, u 24, u 25, u 26, u 27, u 28, u 29, u 30, u 31, u 32, u 33, u 34, u 35, u 36, u 37, u 38, u 39, u 40, u 41, u 42, u 43, u 44, u 45, u 46, u 47, u 48, u 49, u 50, u 51, u 52, u 53, u 54, u 55, u 56, u 57, u 58, u 59, u 60, u 61, u 62, u 63, u 64, u 65, u 66, u 67, u 68, u 69, u 70, u 71, u 72, u 73, u 74, u 75, u 76, u 77, u 78, u 79, u 80, u 81, u 82, u 83, u 84, u 85, u 86, u 87, u 88, u 89, u 90, u 91, u 92, u 93, u 94, u 95, u 96, u 97, u 98, u 99, u 100, u 101, .bool (!ok), u 103, u 104, u 105, u 106, u 107, u 108, u 109, u 110, u 111, u 112, u 113, u 114, u 115], defers := [] }) ?_ ?_
      · by_cases hu0 : ¬ uc = 0
        · have u0 : (uc == 0) = false := by simpa using hu0
          have u1 : (uc != 0) = true := by simpa using hu0
          obtain rfl : ok = false := by rw [HOKQ.out, decide_eq_false hu0]; rfl
          clear HEQ
          refine wp_region_schedB (B := NY) (fun X => Blk X b5 0 23 (softV zSw zA) ∧ Blk X b19 0 23 (softV us sa) ∧ OwnsB NV X y1 cy1 f ∧ Bts X (some ⟨gb, 0, none⟩) d ∧ SwIn X us sa ∧ Below NY Yv0 X ∧ NY ≤ X.heap.size) (.one [0, 1, 2, 3, 6, 7] 4 (.one [] 5 (.one [] 8 (.one [9, 10, 11, 12, 13, 14] 15 (.done [16, 17]))))) (by kernel_rfl) (by kernel_rfl) (fun _ _ _ _ _ h => h) ⟨g5.later (Below.refl _ _).drew, g19.later (Below.refl _ _).drew, yo.later (Below.refl _ _).drew, db.later (Below.refl _ _).drew, hin.later (Below.refl _ _).drew, (Below.refl _ _).drew, Nat.le_of_eq HNY.out.symm⟩ ?_
          clear g5 g19 yo db hin
          rintro X ⟨g5, g19, yo, db, hin, hN, hZ⟩
          rw [wpSchedB]
          simp only [pick, List.map_cons, List.map_nil, Array.getD_eq_getD_getElem?, List.getElem?_toArray, List.getElem?_cons_succ, List.getElem?_cons_zero, Option.getD_some]
          repeat (first | go_big_quiet_step (fail) | quiet_step (fail))
          refine wpQuiet_nil ?_
          refine heavyB_skip (by rfl) ?_
          try simp only [Act.put, List.setIfInBounds_toArray, List.set_cons_zero, List.set_cons_succ]
          rw [wpSchedB]
          simp only [pick, List.map_nil, Array.getD_eq_getD_getElem?, List.getElem?_toArray, List.getElem?_cons_succ, List.getElem?_cons_zero, Option.getD_some]
          refine wpQuiet_nil ?_
          refine heavyB_skip (by rfl) ?_
          try simp only [Act.put, List.setIfInBounds_toArray, List.set_cons_zero, List.set_cons_succ]
          rw [wpSchedB]
          simp only [pick, List.map_nil, Array.getD_eq_getD_getElem?, List.getElem?_toArray, List.getElem?_cons_succ, List.getElem?_cons_zero, Option.getD_some]
          refine wpQuiet_nil ?_
          refine heavyB_skip (by rfl) ?_
          try simp only [Act.put, List.setIfInBounds_toArray, List.set_cons_zero, List.set_cons_succ]
          rw [wpSchedB]
          simp only [pick, List.map_cons, List.map_nil, Array.getD_eq_getD_getElem?, List.getElem?_toArray, List.getElem?_cons_succ, List.getElem?_cons_zero, Option.getD_some]
          repeat (first | go_big_quiet_step (fail) | quiet_step (fail))
          refine wpQuiet_nil ?_
          refine heavyB_skip (by rfl) ?_
          try simp only [Act.put, List.setIfInBounds_toArray, List.set_cons_zero, List.set_cons_succ]
          rw [wpSchedB]
          simp only [pick, List.map_cons, List.map_nil, Array.getD_eq_getD_getElem?, List.getElem?_toArray, List.getElem?_cons_succ, List.getElem?_cons_zero, Option.getD_some]
          repeat (first | go_big_quiet_step (fail) | quiet_step (fail))
          refine wpQuiet_nil ?_
          exact NormQ.mk ⟨g5, g19, hN, ex_frame (by kernel_rfl)⟩
        rw [Decidable.not_not] at hu0
        subst hu0
        cases qe with
        | false =>
          obtain rfl : ok = false := by rw [HOKQ.out]; simp
          refine wp_region_schedB (B := NY) (fun X => Blk X b5 0 23 (softV zSw zA) ∧ Blk X b19 0 23 (softV us sa) ∧ OwnsB NV X y1 cy1 f ∧ Bts X (some ⟨gb, 0, none⟩) d ∧ SwIn X us sa ∧ Below NY Yv0 X ∧ NY ≤ X.heap.size) (.one [0, 1, 2, 3, 6, 7] 4 (.one [] 5 (.one [] 8 (.one [9, 10, 11, 12, 13, 14] 15 (.done [16, 17]))))) (by kernel_rfl) (by kernel_rfl) (fun _ _ _ _ _ h => h) ⟨g5.later (Below.refl _ _).drew, g19.later (Below.refl _ _).drew, yo.later (Below.refl _ _).drew, db.later (Below.refl _ _).drew, hin.later (Below.refl _ _).drew, (Below.refl _ _).drew, Nat.le_of_eq HNY.out.symm⟩ ?_
          clear g5 g19 yo db hin
          rintro X ⟨g5, g19, yo, db, hin, hN, hZ⟩
          rw [wpSchedB]
          simp only [pick, List.map_cons, List.map_nil, Array.getD_eq_getD_getElem?, List.getElem?_toArray, List.getElem?_cons_succ, List.getElem?_cons_zero, Option.getD_some]
          iterate 5 (first | go_big_quiet_step (fail) | quiet_step (fail))
          (refine wpQuiet_subL (by rfl) (.tmp 91) (.const (.int .i64 6)) rfl (x := some ⟨gb, 0, none⟩) (n := 14) (c := cy) rfl 6 8 rfl rfl rfl ?_; try simp only [Act.put, List.setIfInBounds_toArray, List.set_cons_zero, List.set_cons_succ])
          refine wpQuiet_nil ?_
          refine heavyB_want (by rfl) (fun K' hK' => ?_)
          go_simp
          refine (refOf_any y1 f cy1 _ (by have := hfl.out; omega) yo.bts).mono ?_
          rintro e X1 ⟨rfl, rfl⟩
          refine hK' _ _ (Below.refl _ _) ?_
          clear hK' K' yo
          rw [HFD.out]
          try simp only [Act.put, List.setIfInBounds_toArray, List.set_cons_zero, List.set_cons_succ]
          rw [wpSchedB]
          simp only [pick, List.map_nil, Array.getD_eq_getD_getElem?, List.getElem?_toArray, List.getElem?_cons_succ, List.getElem?_cons_zero, Option.getD_some]
          refine wpQuiet_nil ?_
          refine heavyB_want (by rfl) (fun K' hK' => ?_)
          go_simp
          refine (refBytes_any fd _).mono ?_
          rintro e X2 ⟨y5, k5, rfl, o5, hb⟩
          refine hK' _ _ (hb.mono hZ) ?_
          clear hK' K'
          replace g5 := g5.later hb
          replace g19 := g19.later hb
          replace db := db.later hb
          replace hin := hin.later hb
          replace hN := hN.trans (hb.mono hZ)
          replace hZ := Nat.le_trans hZ hb.size
          have o5b := o5.bts
          clear hb o5
          try simp only [Act.put, List.setIfInBounds_toArray, List.set_cons_zero, List.set_cons_succ]
          rw [wpSchedB]
          simp only [pick, List.map_nil, Array.getD_eq_getD_getElem?, List.getElem?_toArray, List.getElem?_cons_succ, List.getElem?_cons_zero, Option.getD_some]
          refine wpQuiet_nil ?_
          refine heavyB_want (by rfl) (fun K' hK' => ?_)
          go_simp
          refine (HEQ _ y5 k5 o5b db).mono ?_
          rintro e X3 ⟨rfl, hb⟩
          refine hK' _ _ (hb.mono hZ) ?_
          clear hK' K' o5b
          replace g5 := g5.later hb
          replace g19 := g19.later hb
          replace db := db.later hb
          replace hin := hin.later hb
          replace hN := hN.trans (hb.mono hZ)
          replace hZ := Nat.le_trans hZ hb.size
          clear hb
          try simp only [Act.put, List.setIfInBounds_toArray, List.set_cons_zero, List.set_cons_succ]
          rw [wpSchedB]
          simp only [pick, List.map_cons, List.map_nil, Array.getD_eq_getD_getElem?, List.getElem?_toArray, List.getElem?_cons_succ, List.getElem?_cons_zero, Option.getD_some]
          repeat (first | go_big_quiet_step (fail) | quiet_step (fail))
          refine wpQuiet_nil ?_
          refine heavyB_skip (by rfl) ?_
          try simp only [Act.put, List.setIfInBounds_toArray, List.set_cons_zero, List.set_cons_succ]
          rw [wpSchedB]
          simp only [pick, List.map_cons, List.map_nil, Array.getD_eq_getD_getElem?, List.getElem?_toArray, List.getElem?_cons_succ, List.getElem?_cons_zero, Option.getD_some]
          repeat (first | go_big_quiet_step (fail) | quiet_step (fail))
          refine wpQuiet_nil ?_
          exact NormQ.mk ⟨g5, g19, hN, ex_frame (by kernel_rfl)⟩
        | true =>
          obtain rfl : ok = gn := by rw [HOKQ.out]; simp
          refine wp_region_schedB (B := NY) (fun X => Blk X b5 0 23 (softV zSw zA) ∧ Blk X b19 0 23 (softV us sa) ∧ OwnsB NV X y1 cy1 f ∧ Bts X (some ⟨gb, 0, none⟩) d ∧ SwIn X us sa ∧ Below NY Yv0 X ∧ NY ≤ X.heap.size) (.one [0, 1, 2, 3, 6, 7] 4 (.one [] 5 (.one [] 8 (.one [9, 10, 11, 12, 13, 14] 15 (.done [16, 17]))))) (by kernel_rfl) (by kernel_rfl) (fun _ _ _ _ _ h => h) ⟨g5.later (Below.refl _ _).drew, g19.later (Below.refl _ _).drew, yo.later (Below.refl _ _).drew, db.later (Below.refl _ _).drew, hin.later (Below.refl _ _).drew, (Below.refl _ _).drew, Nat.le_of_eq HNY.out.symm⟩ ?_
          clear g5 g19 yo db hin
          rintro X ⟨g5, g19, yo, db, hin, hN, hZ⟩
          rw [wpSchedB]
          simp only [pick, List.map_cons, List.map_nil, Array.getD_eq_getD_getElem?, List.getElem?_toArray, List.getElem?_cons_succ, List.getElem?_cons_zero, Option.getD_some]
          iterate 5 (first | go_big_quiet_step (fail) | quiet_step (fail))
          (refine wpQuiet_subL (by rfl) (.tmp 91) (.const (.int .i64 6)) rfl (x := some ⟨gb, 0, none⟩) (n := 14) (c := cy) rfl 6 8 rfl rfl rfl ?_; try simp only [Act.put, List.setIfInBounds_toArray, List.set_cons_zero, List.set_cons_succ])
          refine wpQuiet_nil ?_
          refine heavyB_want (by rfl) (fun K' hK' => ?_)
          go_simp
          refine (refOf_any y1 f cy1 _ (by have := hfl.out; omega) yo.bts).mono ?_
          rintro e X1 ⟨rfl, rfl⟩
          refine hK' _ _ (Below.refl _ _) ?_
          clear hK' K' yo
          rw [HFD.out]
          try simp only [Act.put, List.setIfInBounds_toArray, List.set_cons_zero, List.set_cons_succ]
          rw [wpSchedB]
          simp only [pick, List.map_nil, Array.getD_eq_getD_getElem?, List.getElem?_toArray, List.getElem?_cons_succ, List.getElem?_cons_zero, Option.getD_some]
          refine wpQuiet_nil ?_
          refine heavyB_want (by rfl) (fun K' hK' => ?_)
          go_simp
          refine (refBytes_any fd _).mono ?_
          rintro e X2 ⟨y5, k5, rfl, o5, hb⟩
          refine hK' _ _ (hb.mono hZ) ?_
          clear hK' K'
          replace g5 := g5.later hb
          replace g19 := g19.later hb
          replace db := db.later hb
          replace hin := hin.later hb
          replace hN := hN.trans (hb.mono hZ)
          replace hZ := Nat.le_trans hZ hb.size
          have o5b := o5.bts
          clear hb o5
          try simp only [Act.put, List.setIfInBounds_toArray, List.set_cons_zero, List.set_cons_succ]
          rw [wpSchedB]
          simp only [pick, List.map_nil, Array.getD_eq_getD_getElem?, List.getElem?_toArray, List.getElem?_cons_succ, List.getElem?_cons_zero, Option.getD_some]
          refine wpQuiet_nil ?_
          refine heavyB_want (by rfl) (fun K' hK' => ?_)
          go_simp
          refine (HEQ _ y5 k5 o5b db).mono ?_
          rintro e X3 ⟨rfl, hb⟩
          refine hK' _ _ (hb.mono hZ) ?_
          clear hK' K' o5b
          replace g5 := g5.later hb
          replace g19 := g19.later hb
          replace db := db.later hb
          replace hin := hin.later hb
          replace hN := hN.trans (hb.mono hZ)
          replace hZ := Nat.le_trans hZ hb.size
          clear hb
          try simp only [Act.put, List.setIfInBounds_toArray, List.set_cons_zero, List.set_cons_succ]
          rw [wpSchedB]
          simp only [pick, List.map_cons, List.map_nil, Array.getD_eq_getD_getElem?, List.getElem?_toArray, List.getElem?_cons_succ, List.getElem?_cons_zero, Option.getD_some]
          have r12 := loadN_B (B := NY) (t := 29) g19 z19N (fun X h => run_loadSw h)
          iterate 3 (first | go_big_quiet_step (fail) | quiet_step (fail))
          (refine wpQuiet_loadN rfl _ (.tmp 19) rfl (b := b19) (q := 0) rfl r12 ?_; try simp only [Act.put, List.setIfInBounds_toArray, List.set_cons_zero, List.set_cons_succ])
          iterate 2 (first | go_big_quiet_step (fail) | quiet_step (fail))
          refine wpQuiet_nil ?_
          clear r12
          refine heavyB_want (by rfl) (fun K' hK' => ?_)
          go_simp
          refine (rgenu_any us sa root h _ hin).mono ?_
          rintro e X4 ⟨rfl, hb⟩
          refine hK' _ _ (hb.mono hZ) ?_
          clear hK' K'
          replace g5 := g5.later hb
          replace g19 := g19.later hb
          replace db := db.later hb
          replace hin := hin.later hb
          replace hN := hN.trans (hb.mono hZ)
          replace hZ := Nat.le_trans hZ hb.size
          clear hb
          rw [HGN.out]
          try simp only [Act.put, List.setIfInBounds_toArray, List.set_cons_zero, List.set_cons_succ]
          rw [wpSchedB]
          simp only [pick, List.map_cons, List.map_nil, Array.getD_eq_getD_getElem?, List.getElem?_toArray, List.getElem?_cons_succ, List.getElem?_cons_zero, Option.getD_some]
          repeat (first | go_big_quiet_step (fail) | quiet_step (fail))
          refine wpQuiet_nil ?_
          exact NormQ.mk ⟨g5, g19, hN, ex_frame (by kernel_rfl)⟩
      clear g5 g19 HEQ yo
      rintro a' X ⟨g5, g19, hN, u, rfl⟩
      have hb : Below Yv0.heap.size Yv0 X := by rw [HNY.out]; exact hN
      replace c4 := later hb c4
      replace c5 := later hb c5
      replace db := db.later hb
      replace hin := hin.later hb
      replace hB := hB.trans (hb.mono (by omega))
      replace z5w : b5 < X.heap.size := by have := hb.size; omega
      clear hb hN
      try dsimp only
      cases ok with
      | false =>
        clear db hin g19 c4 c5
        go_wp2_with (refine wpList_storeB rfl rfl _ (.tmp 11) _ rfl (b := b5) (q := 0) rfl (n := 23) (v := softV zSw zA) rfl g5 (fun j _ => soft_one _ _ _) soft_size ?_; intro Y2 u2; refine Hid.out ?_)
        unfold Hid
        try simp only [Act.put, List.setIfInBounds_toArray, List.set_cons_zero, List.set_cons_succ]
        replace hB := u2.below _ _ (by omega) hB
        replace g5 := u2.blk
        clear u2
        go_wp2_with fail
        exact rec_ret rfl rfl rfl rfl rfl rfl rfl g5 (.no (HOK.out) (by rw [HE2.out]; exact hB))
      | true =>
        have hvl := rvalue_any (some ⟨gb, 0, none⟩) (d.take 4) cy
        have h4 : (d.take 4).length = 4 := by rw [List.length_take, HL.out]; rfl
        rw [h4] at hvl
        obtain ⟨nm, hnm⟩ : ∃ n, Ld.nat (d.take 4) = n := ⟨_, rfl⟩
        rw [hnm] at hvl HRR
        clear h4 hnm
        have ngb : ¬ gb = b5 := by
          intro e
          subst e
          have h2 := (g5.at 4 (by omega)).1
          rw [c4] at h2
          cases h2
        go_wp2_with fail
        refine wp_region_schedT (T := fun b => b = b5) (fun Z => Z.cell? ⟨gb, 4, none⟩ = some (.int .u8 (bk : Int)) ∧ Z.cell? ⟨gb, 5, none⟩ = some (.int .u8 (k : Int)) ∧ Blk Z b5 0 23 (softV zSw zA) ∧ Blk Z b19 0 23 (softV us sa) ∧ Bts Z (some ⟨gb, 0, none⟩) d ∧ SwIn Z us sa ∧ Below b5 w Z) (.one [0, 1, 3, 4, 5, 6, 7, 8, 9, 10, 11] 2 (.one [12, 13, 14] 15 (.done [16]))) (by kernel_rfl) (by kernel_rfl) (fun _ _ _ _ _ h => h) ⟨by go_simp, by go_simp, g5.later (Below.refl _ _).drew, g19.later (Below.refl _ _).drew, db.later (Below.refl _ _).drew, hin.later (Below.refl _ _).drew, hB.drew⟩ ?_
        clear c4 c5 g5 g19 db hin hB
        rintro Z ⟨c4, c5, g5, g19, db, hin, hB⟩
        rw [wpSchedT]
        simp only [pick, List.map_cons, List.map_nil, Array.getD_eq_getD_getElem?, List.getElem?_toArray, List.getElem?_cons_succ, List.getElem?_cons_zero, Option.getD_some]
        have r11 := loadN_T (T := fun b => b = b5) (t := 29) g19 n19 (fun X h => run_loadSw h)
        have k4 := plusT_cell (T := fun b => b = b5) c4 ngb
        have k5 := plusT_cell (T := fun b => b = b5) c5 ngb
        (first | go_big_quiet_step (fail) | quiet_step (fail))
        (refine wpQuiet_subH (by rfl) (.tmp 104) (.const (.int .i64 4)) rfl (x := some ⟨gb, 0, none⟩) (n := 14) (c := cy) rfl 4 rfl rfl (by omega) ?_; try simp only [Act.put, List.setIfInBounds_toArray, List.set_cons_zero, List.set_cons_succ])
        iterate 8 (first | go_big_quiet_step (fail) | quiet_step (fail))
        (refine wpQuiet_loadN rfl _ (.tmp 19) rfl (b := b19) (q := 0) rfl r11 ?_; try simp only [Act.put, List.setIfInBounds_toArray, List.set_cons_zero, List.set_cons_succ])
        refine wpQuiet_nil ?_
        clear r11 k4 k5
        refine heavyT_want (by rfl) (fun K' hK' => ?_)
        go_simp
        refine (hvl _ (db.take 4) (Nat.le_refl _)).mono ?_
        rintro e Z1 ⟨rfl, hw⟩
        obtain rfl : Z = Z1 := hw.symm
        refine hK' _ _ (Turns.refl _ _) ?_
        clear hK' K' hw hvl db
        try simp only [Act.put, List.setIfInBounds_toArray, List.set_cons_zero, List.set_cons_succ]
        rw [wpSchedT]
        simp only [pick, List.map_cons, List.map_nil, Array.getD_eq_getD_getElem?, List.getElem?_toArray, List.getElem?_cons_succ, List.getElem?_cons_zero, Option.getD_some]
        repeat (first | go_big_quiet_step (fail) | quiet_step (fail))
        refine wpQuiet_nil ?_
        refine heavyT_want (by rfl) (fun K' hK' => ?_)
        refine wp_storeAt rfl _ (.tmp 11) (.tmp 115) rfl (b := b5) (q := 0) rfl (v := softV us sa) rfl g5 (fun j _ => soft_one _ _ _) soft_size ?_
        intro Z4 u5
        refine hK' _ _ (u5.turns _ _ (fun _ => rfl) (Turns.refl _ _)) ?_
        clear hK' K'
        have tn := u5.turns (fun b => b = b5) _ (fun _ => rfl) (Turns.refl _ _)
        replace hB := u5.below _ _ (by omega) hB
        replace g5 := u5.blk
        replace hin := hin.turn tn (fun p e k => HI.out.1 p e k) (fun p e k => HI.out.2 p e k)
        clear u5 tn g19 c4 c5
        try simp only [Act.put, List.setIfInBounds_toArray, List.set_cons_zero, List.set_cons_succ]
        rw [wpSchedT]
        simp only [pick, List.map_cons, List.map_nil, Array.getD_eq_getD_getElem?, List.getElem?_toArray, List.getElem?_cons_succ, List.getElem?_cons_zero, Option.getD_some]
        repeat (first | go_big_quiet_step (fail) | quiet_step (fail))
        refine wpQuiet_nil ?_
        go_wp2_with fail
        exact rec_ret rfl rfl rfl rfl rfl rfl rfl g5 (.yes HOK.out HRR.out.2.2.1 HRR.out.1 HRR.out.2.1 (HUX.out HOK.out) hin (by rw [HE2.out]; exact HNEW.out) (by rw [HE2.out]; exact hB))

end Go.Proofs.YtapefonhgkjgnaaGreat
