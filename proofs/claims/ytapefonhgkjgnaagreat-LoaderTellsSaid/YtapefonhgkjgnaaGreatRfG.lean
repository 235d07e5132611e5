/- The reference of layer 38: Install. -/
import Derived.Test.YtapefonhgkjgnaaGreatRfF
import Derived.Test.YtapefonhgkjgnaaGreatRfO
import Derived.Test.YtapefonhgkjgnaaGreatLdO
set_option maxRecDepth 20000
namespace Go.Proofs.YtapefonhgkjgnaaGreat
open Go.RowKit

/-- The operations that write the chunks of a form that lies in block gf. -/
def opL (nb gf cf : Nat) (f : List UInt8) (k : Nat) : List OpV := (List.range k).map fun j => ⟨((2 + 16 * nb + j : Nat) : Int), false, some ⟨gf, 48 * j, none⟩, cf - 48 * j, Ld.ck f j⟩
theorem opL_len (nb gf cf : Nat) (f : List UInt8) (k : Nat) : (opL nb gf cf f k).length = k := by simp [opL]
theorem opL_next (nb gf cf : Nat) (f : List UInt8) (k : Nat) : opL nb gf cf f (k + 1) = opL nb gf cf f k ++ [⟨((2 + 16 * nb + k : Nat) : Int), false, some ⟨gf, 48 * k, none⟩, cf - 48 * k, Ld.ck f k⟩] := by simp [opL, List.range_succ]
theorem opL_P (nb gf cf : Nat) (f : List UInt8) (k : Nat) : (opL nb gf cf f k).map Ld.opP = (List.range k).map (Ld.ckO f nb) := by
  unfold opL
  rw [List.map_map]
  rfl
theorem opL_ok {W : World} {gf cf : Nat} {f : List UInt8} (h : Bts W (some ⟨gf, 0, none⟩) f) (hc : f.length ≤ cf ∧ cf ≤ 9223372036854775807) (nb k : Nat) (hb : nb ≤ 1) (hk : 48 * k ≤ f.length + 47) (hk2 : k ≤ 1000) : ∀ q, q ∈ opL nb gf cf f k → OpOk W q := by
  intro q hq
  unfold opL at hq
  rw [List.mem_map] at hq
  obtain ⟨j, hj, rfl⟩ := hq
  rw [List.mem_range] at hj
  have h1 := h.mid (48 * j) 48
  rw [Nat.zero_add] at h1
  have h2 : (Ld.ck f j).length ≤ cf - 48 * j := by
    unfold Ld.ck
    rw [List.length_take, List.length_drop]
    omega
  refine ⟨h1, ?_, ?_, ?_, ?_, ?_⟩
  · intro e; cases e
  · exact h2
  · show cf - 48 * j ≤ _; omega
  · show _ ≤ ((2 + 16 * nb + j : Nat) : Int); omega
  · show ((2 + 16 * nb + j : Nat) : Int) ≤ _; omega
def RiOf (ls : List (List UInt8)) (s : Ld.Sw) (root : D64) (h : Int) (w : World) (e : Ending) (w' : World) : Prop :=
  ∃ y cy os, e = .returned (.tuple #[.slice y os.length cy, .int .i64 (Ld.cdI ls s root h)]) ∧ Ops w' y os ∧ os.map Ld.opP = Ld.insP ls s root h ∧ Below w.heap.size w w'
theorem RiOf.no {ls : List (List UInt8)} {s : Ld.Sw} {root : D64} {h : Int} {w w' : World} {cd : Int} (hc : Ld.cdI ls s root h = cd) (h0 : cd ≠ 0) (hb : Below w.heap.size w w') : RiOf ls s root h w (.returned (.tuple #[.slice none 0 0, .int .i64 cd])) w' :=
  ⟨none, 0, [], by rw [hc]; rfl, ⟨.inl rfl, fun q hq => by cases hq⟩, by unfold Ld.insP; rw [if_neg (by rw [hc]; exact h0)]; rfl, hb⟩
theorem RiOf.yes {ls : List (List UInt8)} {s : Ld.Sw} {root : D64} {h : Int} {w w' : World} {y : Option Addr} {n cy : Nat} {os : List OpV} {z : Value} (hz : z = .int .i64 0) (hc : Ld.cdI ls s root h = 0) (hn : os.length = n) (ho : Ops w' y os) (hm : os.map Ld.opP = Ld.insP ls s root h) (hb : Below w.heap.size w w') : RiOf ls s root h w (.returned (.tuple #[.slice y n cy, z])) w' :=
  ⟨y, cy, os, by rw [hc, hn, hz], ho, hm, hb⟩
theorem ci_bad {ls : List (List UInt8)} {s : Ld.Sw} {root : D64} {h : Int} (hu : (Ld.usable ls && s.vld) = false) : Ld.cdI ls s root h = 2 := by unfold Ld.cdI; rw [hu]; rfl
theorem ci_gen {ls : List (List UInt8)} {s : Ld.Sw} {root : D64} {h : Int} (hu : Ld.usable ls = true) (hv : s.vld = true) (hg : Ld.genu s root h = false) : Ld.cdI ls s root h = 381 := by unfold Ld.cdI; rw [hu, hv, hg]; rfl
theorem ci_none {ls : List (List UInt8)} {s : Ld.Sw} {root : D64} {h : Int} (hu : Ld.usable ls = true) (hv : s.vld = true) (hg : Ld.genu s root h = true) (ha : Ld.atR ls root h = -1) : Ld.cdI ls s root h = 0 ∧ Ld.nBank ls root h = 0 ∧ Ld.nNum ls root h = 1 ∧ Ld.nTo ls root h = 0 := by
  refine ⟨?_, ?_, ?_, ?_⟩
  · unfold Ld.cdI; rw [hu, hv, hg, ha]; rfl
  · unfold Ld.nBank; rw [ha]; rfl
  · unfold Ld.nNum; rw [ha]; rfl
  · unfold Ld.nTo; rw [ha]; rfl
theorem ci_at {ls : List (List UInt8)} {s : Ld.Sw} {root : D64} {h : Int} (hu : Ld.usable ls = true) (hv : s.vld = true) (hg : Ld.genu s root h = true) (i : Nat) (ha : Ld.atR ls root h = (i : Int)) :
    Ld.cdI ls s root h = (if s.ver ≤ (Ld.ldS ls i).ver then 382 else if (Ld.ldR ls i).number = 4294967295 then 4 else 0) ∧ Ld.nBank ls root h = 1 - (Ld.ldR ls i).bank ∧ Ld.nNum ls root h = (Ld.ldR ls i).number + 1 ∧ Ld.nTo ls root h = 1 - i := by
  have h0 : (0 : Int) ≤ (i : Int) := by omega
  refine ⟨?_, ?_, ?_, ?_⟩
  · unfold Ld.cdI; rw [hu, hv, hg, ha, if_pos h0, Int.toNat_natCast]; rfl
  · unfold Ld.nBank; rw [ha, if_pos h0, Int.toNat_natCast]
  · unfold Ld.nNum; rw [ha, if_pos h0, Int.toNat_natCast]
  · unfold Ld.nTo; rw [ha, if_pos h0, Int.toNat_natCast]
theorem run_min (a b : Int) (c : Nat) (h : (c : Int) = if a ≤ b then a else b) (ts : Array TypeId) (t : TypeId) (W : World) : (Builtin.min_ ts t #[.int .i64 a, .int .i64 b]).run Tryz.prog W = .ok (.int .i64 (c : Int)) W := by
  rw [h]
  by_cases hab : a ≤ b
  · rw [if_pos hab]
    simp [Builtin.min_, Builtin.min2]
    try omega
  · rw [if_neg hab]
    simp [Builtin.min_, Builtin.min2]
    try omega

set_option maxHeartbeats 8000000 in
theorem rinst_any (x : Option Addr) (rs : List Rw) (c : Nat) (s : Ld.Sw) (a : SwA) (root : D64) (h : Int) (w : World) (hs : Rws w x rs) (hn : rs.length ≤ 1000) (hi : SwIn w s a) :
    Calls Tryz.prog 20 #[.slice x rs.length c, aggN 23 (softV s a), .int .u64 (num root), .int .i64 h] w (RiOf (rs.map (·.l)) s root h w) := by
  have HU := fun (W : World) (hW : Rws W x rs) => rstore_any x rs c W hW hn
  have HR := fun (W : World) (hW : Rws W x rs) => rrun_any x rs c root h W hW hn
  have HV := rvsoft_any s a
  have HG := rgenu_any s a root h
  obtain ⟨ls, hls⟩ : ∃ ls, rs.map (·.l) = ls := ⟨_, rfl⟩
  rw [hls] at HU HR ⊢
  obtain ⟨nr, hnr⟩ : ∃ n, rs.length = n := ⟨_, rfl⟩
  rw [hnr] at HU HR ⊢
  clear hls hnr hn
  unfold RrOf at HR
  have HBAD := Lib.hid (@ci_bad ls s root h)
  have HGEN := Lib.hid (@ci_gen ls s root h)
  have HNONE := Lib.hid (@ci_none ls s root h)
  have HAT := Lib.hid (@ci_at ls s root h)
  have HRN := Lib.hid (@rr_none ls root h)
  have HRA := Lib.hid (@rr_at ls root h)
  have HBND := Lib.hid (@ldR_bounds ls root h)
  have HNB := Lib.hid (nat_bound ls)
  obtain ⟨us, hus⟩ : ∃ b, Ld.usable ls = b := ⟨_, rfl⟩
  rw [hus] at HU HBAD HGEN HNONE HAT HRN HRA
  obtain ⟨vs, hvs⟩ : ∃ b, s.vld = b := ⟨_, rfl⟩
  rw [hvs] at HV HBAD HGEN HNONE HAT
  obtain ⟨gs, hgs⟩ : ∃ b, Ld.genu s root h = b := ⟨_, rfl⟩
  rw [hgs] at HG HGEN HNONE HAT
  have HVS := Lib.hid hvs
  clear hus hvs hgs
  go_enter Tryz.func20, Tryz.ntmps20
  go_wp2_with (refine wpList_boxN rfl _ _ rfl rfl ?_; intro W5 g5 hB hz5; refine Hid.out ?_)
  unfold Hid
  try simp only [Act.put, List.setIfInBounds_toArray, List.set_cons_zero, List.set_cons_succ]
  replace hs := hs.later hB
  replace hi := hi.later hB
  obtain ⟨b5, e5⟩ : ∃ b, w.heap.size = b := ⟨_, rfl⟩
  have HE5 := Lib.hid e5
  rw [e5] at g5 hB hz5 ⊢
  clear e5 hz5
  go_wp2_with fail
  refine (HU _ hs).mono ?_
  rintro e w1 ⟨rfl, hw⟩
  obtain rfl : W5 = w1 := hw.symm
  clear hw HU
  cases us with
  | false =>
    clear hs hi g5 HV HG HR
    go_wp2_with fail
    refine bodyPost_ret (v := .tuple #[.slice none 0 0, .int .i64 2]) (by simp [results, Tryz.f20, go_sem]) rfl ?_
    exact .no (HBAD.out (by first | exact rfl | trivial)) (by decide) (by rw [HE5.out]; exact hB)
  | true =>
    have z5 : b5 < W5.heap.size := World.block_lt_of_cell? _ _ (g5.at 0 (by decide)).1
    go_wp2_with (refine wpList_loadN_w rfl _ (.tmp 5) rfl (b := b5) (q := 0) rfl (run_loadSw g5) ?_)
    refine (HV _ hi).mono ?_
    rintro e w2 ⟨rfl, hb⟩
    replace hs := hs.later hb
    replace hi := hi.later hb
    replace g5 := g5.later hb
    replace hB := hB.trans (hb.mono (Nat.le_of_lt z5))
    replace z5 := Nat.lt_of_lt_of_le z5 hb.size
    clear hb
    clear HV
    cases vs with
    | false =>
      clear hs hi g5 HG HR
      go_wp2_with fail
      refine bodyPost_ret (v := .tuple #[.slice none 0 0, .int .i64 2]) (by simp [results, Tryz.f20, go_sem]) rfl ?_
      exact .no (HBAD.out (by first | exact rfl | trivial)) (by decide) (by rw [HE5.out]; exact hB)
    | true =>
      go_wp2_with (refine wpList_loadN rfl _ (.tmp 5) rfl (b := b5) (q := 0) rfl (run_loadSw g5) ?_)
      refine (HG _ hi).mono ?_
      rintro e w3 ⟨rfl, hb⟩
      replace hs := hs.later hb
      replace hi := hi.later hb
      replace g5 := g5.later hb
      replace hB := hB.trans (hb.mono (Nat.le_of_lt z5))
      replace z5 := Nat.lt_of_lt_of_le z5 hb.size
      clear hb
      clear HG
      cases gs with
      | false =>
        clear hs hi g5 HR
        go_wp2_with fail
        refine bodyPost_ret (v := .tuple #[.slice none 0 0, .int .i64 381]) (by simp [results, Tryz.f20, go_sem]) rfl ?_
        exact .no (HGEN.out (by first | exact rfl | trivial) (by first | exact rfl | trivial) (by first | exact rfl | trivial)) (by decide) (by rw [HE5.out]; exact hB)
      | true =>
        go_wp2_with fail
        refine (HR _ hs).mono ?_
        rintro e w4 ⟨sa, rfl, io, _, hb⟩
        replace hi := hi.later hb
        replace g5 := g5.later hb
        replace hB := hB.trans (hb.mono (Nat.le_of_lt z5))
        replace z5 := Nat.lt_of_lt_of_le z5 hb.size
        clear hb
        clear HR hs
        obtain ⟨so, hso⟩ : ∃ q, Ld.swR ls root h = q := ⟨_, rfl⟩
        obtain ⟨ro, hro⟩ : ∃ q, Ld.rnR ls root h = q := ⟨_, rfl⟩
        obtain ⟨⟨bk, ck_, n0, d0⟩, hro2⟩ : ∃ q, ro = q := ⟨_, rfl⟩
        rw [hro2] at hro
        obtain ⟨ix, hix⟩ : ∃ q, Ld.ixR ls root h = q := ⟨_, rfl⟩
        obtain ⟨ce, hce⟩ : ∃ q, Ld.cdR ls root h = q := ⟨_, rfl⟩
        rw [hso] at io HRN HRA ⊢
        rw [hro] at HRN HRA ⊢
        rw [hix] at HRN HRA ⊢
        rw [hce] at HRN HRA ⊢
        clear hso hro hro2 hix hce
        dsimp only
        go_wp2_with (refine wpList_allocTo 10 rfl rfl _ rfl soft_zero ?_; intro Xq0 a_b10 hb0 hz0; refine Hid.out ?_)
        unfold Hid
        try simp only [Act.put, List.setIfInBounds_toArray, List.set_cons_zero, List.set_cons_succ]
        obtain ⟨b10, e_b10⟩ : ∃ a, w4.heap.size = a := ⟨_, rfl⟩
        have s_b10 : w4.heap.size ≤ b10 := by omega
        have hb := hb0
        rw [e_b10] at a_b10 hz0 ⊢
        clear hb0
        have hz : b10 < Xq0.heap.size := by omega
        clear e_b10 hz0
        go_wp2_with (refine wpList_storeB rfl rfl _ (.tmp 10) _ rfl (b := b10) (q := 0) rfl (n := 23) (v := softV so sa) rfl a_b10 (fun j _ => soft_one _ _ _) soft_size ?_; intro Yq0 t1; refine Hid.out ?_)
        unfold Hid
        replace hb := t1.below _ _ (by omega) hb
        replace a_b10 := t1.blk
        rw [← t1.size] at hz
        clear t1
        replace hi := hi.later hb
        replace g5 := g5.later hb
        replace hB := hB.trans (hb.mono (Nat.le_of_lt z5))
        replace z5 := Nat.lt_of_lt_of_le z5 hb.size
        clear hb hz
        clear s_b10
        have c10 := a_b10.ver
        have c5 := g5.ver
        clear a_b10
        clear io
        by_cases hat : Ld.atR ls root h = -1
        · obtain ⟨rfl, rfl, rfl, hz⟩ := HRN.out (by first | exact rfl | trivial) hat
          have HCI := Lib.hid (HNONE.out (by first | exact rfl | trivial) (by first | exact rfl | trivial) (by first | exact rfl | trivial) hat)
          simp only [zRec, Ld.Rec.mk.injEq] at hz
          obtain ⟨hbk, _, hn0, _⟩ := hz
          obtain ⟨nb, hnb⟩ : ∃ n, n = bk := ⟨_, rfl⟩
          subst hnb
          have hnb1 : nb ≤ 1 := by omega
          have hn0b : n0 ≤ 4294967294 := by omega
          replace HCI : Hid (Ld.cdI ls s root h = 0 ∧ Ld.nBank ls root h = nb ∧ Ld.nNum ls root h = n0 + 1 ∧ Ld.nTo ls root h = 0) := by
            show _ ∧ _
            rw [hbk, hn0]
            exact HCI.out
          clear hbk hn0 c10 c5 hat
          have HFM := Lib.hid (Ld.form_max s HVS.out)
          go_wp2_with (refine wpList_loadN rfl _ (.tmp 5) rfl (b := b5) (q := 0) rfl (run_loadSw g5) ?_)
          refine (rpack_any s a _ hi HVS.out).mono ?_
          rintro e w6 ⟨yf, cf, rfl, fo, hb⟩
          replace hB := hB.trans (hb.mono (Nat.le_of_lt z5))
          replace z5 := Nat.lt_of_lt_of_le z5 hb.size
          clear hb hi g5
          have HIP : Hid (Ld.insP ls s root h = Ld.opsP (Ld.form s) nb (Ld.ckN (Ld.form s)) 0 (Ld.rbytes ⟨nb, Ld.ckN (Ld.form s), n0 + 1, Dig.ofL (Ld.form s)⟩)) := by
            show _ = _
            obtain ⟨h1, h2, h3, h4⟩ := HCI.out
            unfold Ld.insP Ld.nRec
            rw [if_pos h1, h2, h3, h4]
          obtain ⟨f, hf⟩ : ∃ f, Ld.form s = f := ⟨_, rfl⟩
          rw [hf] at fo HFM HIP ⊢
          clear hf
          have hl1 := HFM.out.1
          have hl2 := HFM.out.2
          obtain ⟨gf, rfl⟩ := fo.some_of (by omega)
          have fb := fo.bts
          have fc := fo.le_cap
          obtain ⟨lf, hlf⟩ : ∃ n, f.length = n := ⟨_, rfl⟩
          have HLF := Lib.hid hlf
          rw [hlf] at hl1 hl2 fc ⊢
          have HFC := Lib.hid fc
          obtain ⟨fc1, _⟩ := fc
          clear hlf fo
          obtain ⟨m, hm⟩ : ∃ m, Ld.ckN f = m := ⟨_, rfl⟩
          have hmm : 48 * m ≤ lf + 47 ∧ lf ≤ 48 * m ∧ m ≤ 14 := by
            rw [← hm]
            unfold Ld.ckN
            rw [HLF.out]
            omega
          have HMM := Lib.hid hmm
          rw [hm] at HIP
          clear hm
          obtain ⟨W6, rfl⟩ : ∃ W, W = w6 := ⟨_, rfl⟩
          have zf : gf < W6.heap.size := by
            obtain ⟨b, o2, e, hc⟩ := fb.at (by rw [HLF.out]; omega)
            cases e
            exact World.block_lt_of_cell? _ _ (hc 0 (by rw [HLF.out]; omega))
          have HB6 := Lib.hid hB
          have HZ6 := Lib.hid z5
          have HFB := Lib.hid fb
          clear hB z5 fb
          go_wp2_with fail
          go_loopw [17, 18] (fun u17 u18 wr => ∃ (k : Nat) (y1 : Option Addr) (cy1 : Nat), k ≤ m ∧ u18 = .int .i64 (k : Int) ∧ u17 = .slice y1 k cy1 ∧ OwnsP W6.heap.size wr y1 cy1 (opL nb gf cf f k) ∧ Below W6.heap.size W6 wr) (fun _ u18 _ => m - (intOf u18).toNat)
          case atStart => exact ⟨0, none, 0, by omega, rfl, rfl, OwnsP.nil _ _, Below.refl _ _⟩
          case round =>
            obtain ⟨k, y1, cy1, hk, rfl, rfl, yo, hb⟩ := hrel
            by_cases hlt : k < m
            · have hki : decide (48 * (k : Int) < (lf : Int)) = true := by simp; omega
              have hki2 : decide (48 * k < lf) = true := by simp; omega
              obtain ⟨e, he⟩ : ∃ e, (Ld.ck f k).length = e := ⟨_, rfl⟩
              have he2 : e = min 48 (lf - 48 * k) := by rw [← he]; unfold Ld.ck; rw [List.length_take, List.length_drop, HLF.out]
              have he1 : 1 ≤ e ∧ 48 * k + e ≤ lf := by omega
              have hmin := run_min (48 * (k : Int) + 48) (lf : Int) (48 * k + e) (by split <;> omega)
              have HE := Lib.hid he
              have hci : ((48 * k + e : Nat) : Int) ≤ (cf : Int) := by omega
              have hc2 : 48 * k + e ≤ cf := by omega
              have hne : ¬ cf = 48 * k := by omega
              have hp0 : (0 : Int) ≤ 48 * (k : Int) := by omega
              have hp1 : 48 * (k : Int) ≤ ((48 * k + e : Nat) : Int) := by omega
              have hp2 : 48 * (k : Int) ≤ 48 * (k : Int) + (e : Int) := by omega
              have hp3 : 48 * (k : Int) + (e : Int) ≤ (cf : Int) := by omega
              clear he he2 he1
              obtain ⟨z, hz⟩ : ∃ z, 2 + 16 * nb + k = z := ⟨_, rfl⟩
              have HZ := Lib.hid hz
              clear hz
              have HNX := Lib.hid (opL_next nb gf cf f k)
              rw [HZ.out] at HNX
              have HLN := Lib.hid (opL_len nb gf cf f k)
              have HYO := Lib.hid yo
              have hbs := hb.size
              have HKK := Lib.hid hlt
              clear yo
              go_wp2_with (at_builtin; refine Hid.out ?_)
              unfold Hid
              refine wpList_appP rfl (.tmp 65) (.tmp 82) rfl (B := W6.heap.size) (xa := y1) (cap := cy1) (os := opL nb gf cf f k) (HYO.out.later (al (Below.refl _ wr) _)) (by rw [HLN.out]; rfl) (b := wr.heap.size) (c := 1) (u := ⟨(z : Int), false, some ⟨gf, 48 * k, none⟩, cf - 48 * k, Ld.ck f k⟩) rfl (by rw [← HZ.out]; go_simp) (by go_simp) (by rw [HE.out]; go_simp) (by rw [HLN.out]; have := HMM.out; omega) (by simp; omega) (m := k + 1) (by rw [HLN.out]) ?_
              intro x' c' w3 h1 h2 _
              try simp only [Act.put, List.setIfInBounds_toArray, List.set_cons_zero, List.set_cons_succ]
              have HN := Lib.hid h1
              have hB4 := (al hb _).trans h2
              clear h1 h2 hb hbs hmin hci hc2 hne hp0 hp1 hp2 hp3
              go_wp2_with fail
              exact ⟨⟨k + 1, x', c', by omega, by go_num, rfl, by rw [HNX.out]; exact HN.out, hB4⟩, by simp [intOf]; omega⟩
            obtain rfl : k = m := by omega
            have hki : decide (48 * (k : Int) < (lf : Int)) = false := by simp; omega
            have hki2 : decide (48 * k < lf) = false := by simp; omega
            have fb := HFB.out.later hb
            have hB := HB6.out.trans (hb.mono (Nat.le_of_lt HZ6.out))
            have HYO := Lib.hid yo
            have HBB := Lib.hid hb
            clear yo hb
            obtain ⟨nm, hnm⟩ : ∃ q, n0 + 1 = q := ⟨_, rfl⟩
            rw [hnm] at HIP
            have HNM := Lib.hid hnm
            clear hnm
            have HZW := Lib.hid (Nat.le_trans (Nat.le_of_lt HZ6.out) HBB.out.size)
            obtain ⟨dg, hdg⟩ : ∃ q, Dig.ofL f = q := ⟨_, rfl⟩
            rw [hdg] at HIP
            have HOF := fun (W : World) (hW : Bts W (some ⟨gf, 0, none⟩) f) => refOf_any (some ⟨gf, 0, none⟩) f cf W (by rw [HLF.out]; omega) hW
            simp only [HLF.out, hdg] at HOF
            obtain ⟨ub, hub⟩ : ∃ u : UInt8, UInt8.ofNat nb = u := ⟨_, rfl⟩
            obtain ⟨um, hum⟩ : ∃ u : UInt8, UInt8.ofNat k = u := ⟨_, rfl⟩
            have hubn : ub.toNat = nb := by rw [← hub, UInt8.toNat_ofNat']; omega
            have humn : um.toNat = k := by rw [← hum, UInt8.toNat_ofNat']; have := HMM.out; omega
            have HBT : Hid (∀ (W : World) (t : TypeId) (p : Nat × Nat), Bts (W.alloc (.cells #[.int .u8 (nb : Int), .int .u8 (k : Int)] t p)) (some ⟨W.heap.size, 0, none⟩) [ub, um]) := fun W t p => by
              rw [← hubn, ← humn]
              exact bts_new W [ub, um] t p
            obtain ⟨l7, hl7⟩ : ∃ l, Ld.le nm 4 = l := ⟨_, rfl⟩
            have h74 : l7.length = 4 := by rw [← hl7, Ld.le_len]
            obtain ⟨l8, hl8⟩ : ∃ l, l7 ++ [ub, um] = l := ⟨_, rfl⟩
            have h86 : l8.length = 6 := by rw [← hl8, List.length_append, h74]; rfl
            obtain ⟨rb, hrb⟩ : ∃ l, Ld.rbytes ⟨nb, k, nm, dg⟩ = l := ⟨_, rfl⟩
            have HRB : Hid (l8 ++ Dig.bytes dg = rb) := by show _ = _; rw [← hrb, ← hl8, ← hl7, ← hub, ← hum]; rfl
            have HRL : Hid (rb.length = 14) := by show _ = _; rw [← hrb, Ld.rbytes_len]
            rw [hrb] at HIP
            have H8 := Lib.hid hl8
            have H74 := Lib.hid h74
            have H86 := Lib.hid h86
            have HNUM := fun (W : World) => rnumber_any nm 4 W (by omega) (by have := HNM.out; omega)
            simp only [hl7] at HNUM
            clear hdg hub hum hubn humn hl7 h74 hl8 h86 hrb
            go_wp2_with fail
            have hn1 : (n0 : Int) + 1 = (nm : Int) := by have := HNM.out; omega
            rw [hn1]
            refine (HNUM _).mono ?_
            rintro e w7 ⟨y7, c7, rfl, o7, hq⟩
            clear hn1 HNUM
            have O7 := Lib.hid o7
            clear o7
            go_wp2_with (at_builtin; refine Hid.out ?_)
            unfold Hid
            refine wpList_app rfl (.tmp 86) (.tmp 92) rfl (B := wr.heap.size) (l := l7) (O7.out.later (al (Below.refl _ w7) _)) rfl (y := some ⟨w7.heap.size, 0, none⟩) (m := [ub, um]) (c := 2) rfl (HBT.out _ _ _) (fun e => by cases e) (by rw [H74.out]; simp) (lm := l8) H8.out (by have := hq.size; simp; omega) ?_
            intro x8 k8 w8 o8 b8 _
            try simp only [Act.put, List.setIfInBounds_toArray, List.set_cons_zero, List.set_cons_succ]
            replace hq := (al hq _).trans b8
            have O8 := Lib.hid o8
            clear o8 b8 O7 HBT
            go_wp2_with fail
            refine (HOF _ (fb.later hq)).mono ?_
            rintro e w9 ⟨rfl, hw⟩
            obtain rfl : w8 = w9 := hw.symm
            clear hw HOF
            go_wp2_with fail
            refine (refBytes_any dg _).mono ?_
            rintro e w10 ⟨y10, k10, rfl, o10, hb⟩
            have O8b := Lib.hid (O8.out.later hb)
            replace hq := hq.trans (hb.mono hq.size)
            have hsz := hq.size
            have o10b := o10.bts
            have o10n := o10.none_cap
            clear hb O8 o10
            go_wp2_with (at_builtin; refine wpList_app rfl _ _ rfl (B := wr.heap.size) (l := l8) O8b.out rfl (m := Dig.bytes dg) rfl o10b o10n (by rw [H86.out, Dig.bytes_length]; decide) (lm := rb) HRB.out hsz ?_; intro x11 k11 w11 o11 b11 _; refine Hid.out ?_)
            unfold Hid
            replace hq := hq.trans b11
            have O11 := Lib.hid o11
            clear o11 b11 O8b o10b o10n hsz
            have HLN := Lib.hid (opL_len nb gf cf f k)
            have HQ := Lib.hid hq
            have hqs := hq.size
            clear hq
            go_wp2_with (at_builtin; refine Hid.out ?_)
            unfold Hid
            refine wpList_appP rfl (.tmp 99) (.tmp 103) rfl (B := W6.heap.size) (xa := y1) (cap := cy1) (os := opL nb gf cf f k) ((HYO.out.later HQ.out).later (al (Below.refl _ w11) _)) (by rw [HLN.out]; rfl) (b := w11.heap.size) (c := 1) (u := ⟨(0 : Int), false, x11, k11, rb⟩) rfl (by go_simp) (by go_simp) (by go_simp) (by rw [HLN.out]; have := HMM.out; omega) (by have := HBB.out.size; simp; omega) (m := k + 1) (by rw [HLN.out]) ?_
            intro x' c' w12 h1 h2 ht
            try simp only [Act.put, List.setIfInBounds_toArray, List.set_cons_zero, List.set_cons_succ]
            have HN := Lib.hid h1
            have HQ1 := Lib.hid (al (Below.refl w11.heap.size w11) (.cells #[.int .i64 (0 : Int), .bool false, .slice x11 rb.length k11] 61))
            have HQ2 := Lib.hid h2
            have HRT := Lib.hid ((O11.out.later HQ1.out).bts.turn ht (fun p e k => by have h3 := (HYO.out.low _ k).2; have h4 := (O11.out.low p.block (rowOf_sm e)).1; omega))
            clear h1 h2 ht
            go_wp2_with fail
            refine bodyPost_ret (v := .tuple #[.slice x' (k + 1) c', .int .i64 0]) (by simp [results, Tryz.f20, go_sem]) rfl ?_
            have hw6 := HBB.out.size
            have hw7 := HQ.out.size
            have hall := ((HBB.out.trans (HQ.out.mono hw6)).trans (HQ1.out.mono (Nat.le_trans hw6 hw7))).trans HQ2.out
            refine RiOf.yes rfl HCI.out.1 (os := opL nb gf cf f k ++ [⟨(0 : Int), false, x11, k11, rb⟩]) (by rw [List.length_append, opL_len]; rfl) (HN.out.ops (fun q hq => ?_)) ?_ (by rw [HE5.out]; exact HB6.out.trans (hall.mono (Nat.le_of_lt HZ6.out)))
            · rcases List.mem_append.1 hq with hq | hq
              · exact opL_ok (HFB.out.later hall) (by rw [HLF.out]; exact HFC.out) nb k hnb1 (by rw [HLF.out]; exact HMM.out.1) (Nat.le_trans HMM.out.2.2 (by decide)) q hq
              · rw [List.mem_singleton] at hq
                subst hq
                exact ⟨HRT.out, O11.out.none_cap, O11.out.le_cap.1, O11.out.le_cap.2, by show _ ≤ (0 : Int); omega, by show (0 : Int) ≤ _; omega⟩
            · rw [HIP.out, List.map_append, opL_P]
              rfl
        obtain ⟨i, hi0, hi1⟩ : ∃ i : Nat, Ld.atR ls root h = (i : Int) ∧ i ≤ 1 := by
          rcases atR_cases ls root h with e | e | e
          · exact ⟨0, e, by omega⟩
          · exact ⟨1, e, by omega⟩
          · exact absurd e hat
        obtain ⟨rfl, rfl, rfl, hrr⟩ := HRA.out (by first | exact rfl | trivial) i hi0
        have hbd := (HBND.out (by rw [hi0]; omega)).1
        rw [hi0, Int.toNat_natCast, ← hrr] at hbd
        have hnbd := HNB.out i
        rw [← hrr] at hnbd
        have hbk1 : bk ≤ 1 := hbd
        have hn32 : n0 < 4294967296 := hnbd
        have HCA := Lib.hid (HAT.out (by first | exact rfl | trivial) (by first | exact rfl | trivial) (by first | exact rfl | trivial) i hi0)
        rw [← hrr] at HCA
        clear hbd hnbd hrr hat
        obtain ⟨vo, hvo⟩ : ∃ v, (Ld.ldS ls i).ver = v := ⟨_, rfl⟩
        rw [hvo] at c10 HCA
        obtain ⟨vn, hvn⟩ : ∃ v, s.ver = v := ⟨_, rfl⟩
        rw [hvn] at c5 HCA
        clear hvo hvn
        by_cases hle : vn ≤ vo
        · have q1 : decide (vn ≤ vo) = true := decide_eq_true hle
          have HC : Hid (Ld.cdI ls s root h = 382) := by show _ = _; rw [HCA.out.1, if_pos hle]
          clear hle hi g5
          go_wp2_with fail
          refine bodyPost_ret (v := .tuple #[.slice none 0 0, .int .i64 382]) (by simp [results, Tryz.f20, go_sem]) rfl ?_
          exact .no (HC.out) (by decide) (by rw [HE5.out]; exact hB)
        have q1 : decide (vn ≤ vo) = false := decide_eq_false hle
        by_cases hfull : n0 = 4294967295
        · have HC : Hid (Ld.cdI ls s root h = 4) := by show _ = _; rw [HCA.out.1, if_neg hle, if_pos hfull]
          have q2 : ((n0 : Int) == 4294967295) = true := by rw [beq_iff_eq]; omega
          clear hle hi g5 hfull hn32
          go_wp2_with fail
          refine bodyPost_ret (v := .tuple #[.slice none 0 0, .int .i64 4]) (by simp [results, Tryz.f20, go_sem]) rfl ?_
          exact .no (HC.out) (by decide) (by rw [HE5.out]; exact hB)
        have q2 : ((n0 : Int) == 4294967295) = false := by rw [beq_eq_false_iff_ne]; omega
        have hn0b : n0 ≤ 4294967294 := by omega
        obtain ⟨nb, hnb⟩ : ∃ n, 1 - bk = n := ⟨_, rfl⟩
        obtain ⟨to, hto⟩ : ∃ n, 1 - i = n := ⟨_, rfl⟩
        have hnb1 : nb ≤ 1 := by omega
        have hto1 : to ≤ 1 := by omega
        have HCI : Hid (Ld.cdI ls s root h = 0 ∧ Ld.nBank ls root h = nb ∧ Ld.nNum ls root h = n0 + 1 ∧ Ld.nTo ls root h = to) := by
          show _ ∧ _
          rw [HCA.out.1, if_neg hle, if_neg hfull, HCA.out.2.1, HCA.out.2.2.1, HCA.out.2.2.2]
          exact ⟨rfl, hnb, rfl, hto⟩
        have HWB := Lib.hid (show 1 - (bk : Int) = (nb : Int) by omega)
        have HWT := Lib.hid (show 1 - (i : Int) = (to : Int) by omega)
        have HT1 := Lib.hid hto1
        clear hle hfull hnb hto hn32 HCA hi0
        have HFM := Lib.hid (Ld.form_max s HVS.out)
        go_wp2_with (refine wpList_loadN rfl _ (.tmp 5) rfl (b := b5) (q := 0) rfl (run_loadSw g5) ?_)
        rw [HWB.out, HWT.out]
        clear c5 c10 q1 q2 HWB HWT
        refine (rpack_any s a _ hi HVS.out).mono ?_
        rintro e w6 ⟨yf, cf, rfl, fo, hb⟩
        replace hB := hB.trans (hb.mono (Nat.le_of_lt z5))
        replace z5 := Nat.lt_of_lt_of_le z5 hb.size
        clear hb hi g5
        have HIP : Hid (Ld.insP ls s root h = Ld.opsP (Ld.form s) nb (Ld.ckN (Ld.form s)) to (Ld.rbytes ⟨nb, Ld.ckN (Ld.form s), n0 + 1, Dig.ofL (Ld.form s)⟩)) := by
          show _ = _
          obtain ⟨h1, h2, h3, h4⟩ := HCI.out
          unfold Ld.insP Ld.nRec
          rw [if_pos h1, h2, h3, h4]
        obtain ⟨f, hf⟩ : ∃ f, Ld.form s = f := ⟨_, rfl⟩
        rw [hf] at fo HFM HIP ⊢
        clear hf
        have hl1 := HFM.out.1
        have hl2 := HFM.out.2
        obtain ⟨gf, rfl⟩ := fo.some_of (by omega)
        have fb := fo.bts
        have fc := fo.le_cap
        obtain ⟨lf, hlf⟩ : ∃ n, f.length = n := ⟨_, rfl⟩
        have HLF := Lib.hid hlf
        rw [hlf] at hl1 hl2 fc ⊢
        have HFC := Lib.hid fc
        obtain ⟨fc1, _⟩ := fc
        clear hlf fo
        obtain ⟨m, hm⟩ : ∃ m, Ld.ckN f = m := ⟨_, rfl⟩
        have hmm : 48 * m ≤ lf + 47 ∧ lf ≤ 48 * m ∧ m ≤ 14 := by
          rw [← hm]
          unfold Ld.ckN
          rw [HLF.out]
          omega
        have HMM := Lib.hid hmm
        rw [hm] at HIP
        clear hm
        obtain ⟨W6, rfl⟩ : ∃ W, W = w6 := ⟨_, rfl⟩
        have zf : gf < W6.heap.size := by
          obtain ⟨b, o2, e, hc⟩ := fb.at (by rw [HLF.out]; omega)
          cases e
          exact World.block_lt_of_cell? _ _ (hc 0 (by rw [HLF.out]; omega))
        have HB6 := Lib.hid hB
        have HZ6 := Lib.hid z5
        have HFB := Lib.hid fb
        clear hB z5 fb
        go_wp2_with fail
        go_loopw [17, 18] (fun u17 u18 wr => ∃ (k : Nat) (y1 : Option Addr) (cy1 : Nat), k ≤ m ∧ u18 = .int .i64 (k : Int) ∧ u17 = .slice y1 k cy1 ∧ OwnsP W6.heap.size wr y1 cy1 (opL nb gf cf f k) ∧ Below W6.heap.size W6 wr) (fun _ u18 _ => m - (intOf u18).toNat)
        case atStart => exact ⟨0, none, 0, by omega, rfl, rfl, OwnsP.nil _ _, Below.refl _ _⟩
        case round =>
          obtain ⟨k, y1, cy1, hk, rfl, rfl, yo, hb⟩ := hrel
          by_cases hlt : k < m
          · have hki : decide (48 * (k : Int) < (lf : Int)) = true := by simp; omega
            have hki2 : decide (48 * k < lf) = true := by simp; omega
            obtain ⟨e, he⟩ : ∃ e, (Ld.ck f k).length = e := ⟨_, rfl⟩
            have he2 : e = min 48 (lf - 48 * k) := by rw [← he]; unfold Ld.ck; rw [List.length_take, List.length_drop, HLF.out]
            have he1 : 1 ≤ e ∧ 48 * k + e ≤ lf := by omega
            have hmin := run_min (48 * (k : Int) + 48) (lf : Int) (48 * k + e) (by split <;> omega)
            have HE := Lib.hid he
            have hci : ((48 * k + e : Nat) : Int) ≤ (cf : Int) := by omega
            have hc2 : 48 * k + e ≤ cf := by omega
            have hne : ¬ cf = 48 * k := by omega
            have hp0 : (0 : Int) ≤ 48 * (k : Int) := by omega
            have hp1 : 48 * (k : Int) ≤ ((48 * k + e : Nat) : Int) := by omega
            have hp2 : 48 * (k : Int) ≤ 48 * (k : Int) + (e : Int) := by omega
            have hp3 : 48 * (k : Int) + (e : Int) ≤ (cf : Int) := by omega
            clear he he2 he1
            obtain ⟨z, hz⟩ : ∃ z, 2 + 16 * nb + k = z := ⟨_, rfl⟩
            have HZ := Lib.hid hz
            clear hz
            have HNX := Lib.hid (opL_next nb gf cf f k)
            rw [HZ.out] at HNX
            have HLN := Lib.hid (opL_len nb gf cf f k)
            have HYO := Lib.hid yo
            have hbs := hb.size
            have HKK := Lib.hid hlt
            clear yo
            go_wp2_with (at_builtin; refine Hid.out ?_)
            unfold Hid
            refine wpList_appP rfl (.tmp 65) (.tmp 82) rfl (B := W6.heap.size) (xa := y1) (cap := cy1) (os := opL nb gf cf f k) (HYO.out.later (al (Below.refl _ wr) _)) (by rw [HLN.out]; rfl) (b := wr.heap.size) (c := 1) (u := ⟨(z : Int), false, some ⟨gf, 48 * k, none⟩, cf - 48 * k, Ld.ck f k⟩) rfl (by rw [← HZ.out]; go_simp) (by go_simp) (by rw [HE.out]; go_simp) (by rw [HLN.out]; have := HMM.out; omega) (by simp; omega) (m := k + 1) (by rw [HLN.out]) ?_
            intro x' c' w3 h1 h2 _
            try simp only [Act.put, List.setIfInBounds_toArray, List.set_cons_zero, List.set_cons_succ]
            have HN := Lib.hid h1
            have hB4 := (al hb _).trans h2
            clear h1 h2 hb hbs hmin hci hc2 hne hp0 hp1 hp2 hp3
            go_wp2_with fail
            exact ⟨⟨k + 1, x', c', by omega, by go_num, rfl, by rw [HNX.out]; exact HN.out, hB4⟩, by simp [intOf]; omega⟩
          obtain rfl : k = m := by omega
          have hki : decide (48 * (k : Int) < (lf : Int)) = false := by simp; omega
          have hki2 : decide (48 * k < lf) = false := by simp; omega
          have fb := HFB.out.later hb
          have hB := HB6.out.trans (hb.mono (Nat.le_of_lt HZ6.out))
          have HYO := Lib.hid yo
          have HBB := Lib.hid hb
          clear yo hb
          obtain ⟨nm, hnm⟩ : ∃ q, n0 + 1 = q := ⟨_, rfl⟩
          rw [hnm] at HIP
          have HNM := Lib.hid hnm
          clear hnm
          have HZW := Lib.hid (Nat.le_trans (Nat.le_of_lt HZ6.out) HBB.out.size)
          obtain ⟨dg, hdg⟩ : ∃ q, Dig.ofL f = q := ⟨_, rfl⟩
          rw [hdg] at HIP
          have HOF := fun (W : World) (hW : Bts W (some ⟨gf, 0, none⟩) f) => refOf_any (some ⟨gf, 0, none⟩) f cf W (by rw [HLF.out]; omega) hW
          simp only [HLF.out, hdg] at HOF
          obtain ⟨ub, hub⟩ : ∃ u : UInt8, UInt8.ofNat nb = u := ⟨_, rfl⟩
          obtain ⟨um, hum⟩ : ∃ u : UInt8, UInt8.ofNat k = u := ⟨_, rfl⟩
          have hubn : ub.toNat = nb := by rw [← hub, UInt8.toNat_ofNat']; omega
          have humn : um.toNat = k := by rw [← hum, UInt8.toNat_ofNat']; have := HMM.out; omega
          have HBT : Hid (∀ (W : World) (t : TypeId) (p : Nat × Nat), Bts (W.alloc (.cells #[.int .u8 (nb : Int), .int .u8 (k : Int)] t p)) (some ⟨W.heap.size, 0, none⟩) [ub, um]) := fun W t p => by
            rw [← hubn, ← humn]
            exact bts_new W [ub, um] t p
          obtain ⟨l7, hl7⟩ : ∃ l, Ld.le nm 4 = l := ⟨_, rfl⟩
          have h74 : l7.length = 4 := by rw [← hl7, Ld.le_len]
          obtain ⟨l8, hl8⟩ : ∃ l, l7 ++ [ub, um] = l := ⟨_, rfl⟩
          have h86 : l8.length = 6 := by rw [← hl8, List.length_append, h74]; rfl
          obtain ⟨rb, hrb⟩ : ∃ l, Ld.rbytes ⟨nb, k, nm, dg⟩ = l := ⟨_, rfl⟩
          have HRB : Hid (l8 ++ Dig.bytes dg = rb) := by show _ = _; rw [← hrb, ← hl8, ← hl7, ← hub, ← hum]; rfl
          have HRL : Hid (rb.length = 14) := by show _ = _; rw [← hrb, Ld.rbytes_len]
          rw [hrb] at HIP
          have H8 := Lib.hid hl8
          have H74 := Lib.hid h74
          have H86 := Lib.hid h86
          have HNUM := fun (W : World) => rnumber_any nm 4 W (by omega) (by have := HNM.out; omega)
          simp only [hl7] at HNUM
          clear hdg hub hum hubn humn hl7 h74 hl8 h86 hrb
          go_wp2_with fail
          have hn1 : (n0 : Int) + 1 = (nm : Int) := by have := HNM.out; omega
          rw [hn1]
          refine (HNUM _).mono ?_
          rintro e w7 ⟨y7, c7, rfl, o7, hq⟩
          clear hn1 HNUM
          have O7 := Lib.hid o7
          clear o7
          go_wp2_with (at_builtin; refine Hid.out ?_)
          unfold Hid
          refine wpList_app rfl (.tmp 86) (.tmp 92) rfl (B := wr.heap.size) (l := l7) (O7.out.later (al (Below.refl _ w7) _)) rfl (y := some ⟨w7.heap.size, 0, none⟩) (m := [ub, um]) (c := 2) rfl (HBT.out _ _ _) (fun e => by cases e) (by rw [H74.out]; simp) (lm := l8) H8.out (by have := hq.size; simp; omega) ?_
          intro x8 k8 w8 o8 b8 _
          try simp only [Act.put, List.setIfInBounds_toArray, List.set_cons_zero, List.set_cons_succ]
          replace hq := (al hq _).trans b8
          have O8 := Lib.hid o8
          clear o8 b8 O7 HBT
          go_wp2_with fail
          refine (HOF _ (fb.later hq)).mono ?_
          rintro e w9 ⟨rfl, hw⟩
          obtain rfl : w8 = w9 := hw.symm
          clear hw HOF
          go_wp2_with fail
          refine (refBytes_any dg _).mono ?_
          rintro e w10 ⟨y10, k10, rfl, o10, hb⟩
          have O8b := Lib.hid (O8.out.later hb)
          replace hq := hq.trans (hb.mono hq.size)
          have hsz := hq.size
          have o10b := o10.bts
          have o10n := o10.none_cap
          clear hb O8 o10
          go_wp2_with (at_builtin; refine wpList_app rfl _ _ rfl (B := wr.heap.size) (l := l8) O8b.out rfl (m := Dig.bytes dg) rfl o10b o10n (by rw [H86.out, Dig.bytes_length]; decide) (lm := rb) HRB.out hsz ?_; intro x11 k11 w11 o11 b11 _; refine Hid.out ?_)
          unfold Hid
          replace hq := hq.trans b11
          have O11 := Lib.hid o11
          clear o11 b11 O8b o10b o10n hsz
          have HLN := Lib.hid (opL_len nb gf cf f k)
          have HQ := Lib.hid hq
          have hqs := hq.size
          clear hq
          go_wp2_with (at_builtin; refine Hid.out ?_)
          unfold Hid
          refine wpList_appP rfl (.tmp 99) (.tmp 103) rfl (B := W6.heap.size) (xa := y1) (cap := cy1) (os := opL nb gf cf f k) ((HYO.out.later HQ.out).later (al (Below.refl _ w11) _)) (by rw [HLN.out]; rfl) (b := w11.heap.size) (c := 1) (u := ⟨(to : Int), false, x11, k11, rb⟩) rfl (by go_simp) (by go_simp) (by go_simp) (by rw [HLN.out]; have := HMM.out; omega) (by have := HBB.out.size; simp; omega) (m := k + 1) (by rw [HLN.out]) ?_
          intro x' c' w12 h1 h2 ht
          try simp only [Act.put, List.setIfInBounds_toArray, List.set_cons_zero, List.set_cons_succ]
          have HN := Lib.hid h1
          have HQ1 := Lib.hid (al (Below.refl w11.heap.size w11) (.cells #[.int .i64 (to : Int), .bool false, .slice x11 rb.length k11] 61))
          have HQ2 := Lib.hid h2
          have HRT := Lib.hid ((O11.out.later HQ1.out).bts.turn ht (fun p e k => by have h3 := (HYO.out.low _ k).2; have h4 := (O11.out.low p.block (rowOf_sm e)).1; omega))
          clear h1 h2 ht
          go_wp2_with fail
          refine bodyPost_ret (v := .tuple #[.slice x' (k + 1) c', .int .i64 0]) (by simp [results, Tryz.f20, go_sem]) rfl ?_
          have hw6 := HBB.out.size
          have hw7 := HQ.out.size
          have hall := ((HBB.out.trans (HQ.out.mono hw6)).trans (HQ1.out.mono (Nat.le_trans hw6 hw7))).trans HQ2.out
          refine RiOf.yes rfl HCI.out.1 (os := opL nb gf cf f k ++ [⟨(to : Int), false, x11, k11, rb⟩]) (by rw [List.length_append, opL_len]; rfl) (HN.out.ops (fun q hq => ?_)) ?_ (by rw [HE5.out]; exact HB6.out.trans (hall.mono (Nat.le_of_lt HZ6.out)))
          · rcases List.mem_append.1 hq with hq | hq
            · exact opL_ok (HFB.out.later hall) (by rw [HLF.out]; exact HFC.out) nb k hnb1 (by rw [HLF.out]; exact HMM.out.1) (Nat.le_trans HMM.out.2.2 (by decide)) q hq
            · rw [List.mem_singleton] at hq
              subst hq
              exact ⟨HRT.out, O11.out.none_cap, O11.out.le_cap.1, O11.out.le_cap.2, by show _ ≤ (to : Int); omega, by show (to : Int) ≤ _; omega⟩
          · rw [HIP.out, List.map_append, opL_P]
            rfl

end Go.Proofs.YtapefonhgkjgnaaGreat
