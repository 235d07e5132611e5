/- WALKS of the loader: content, Digest, Pack, Genuine. -/
import Derived.Test.YtapefonhgkjgnaaGreatLdF
set_option maxRecDepth 20000
namespace Go.Proofs.YtapefonhgkjgnaaGreat
open Go.RowKit

set_option maxHeartbeats 1000000 in
theorem cont_any (s : Ld.Sw) (a : SwA) (w : World) (hi : SwIn w s a) (hv : s.vld = true) : Calls Tryz.prog 28 #[aggN 23 (softV s a)] w (OwnOf (Ld.cont s) w) := by
  obtain ⟨⟨a1, a2⟩, ⟨b1, b2⟩, c5, _⟩ := (Ld.Sw.vld_iff s).1 hv
  have hq : (⟨s.name.toArray⟩ : ByteArray).size = s.name.length := by show s.name.toArray.size = _; rw [List.size_toArray]
  obtain ⟨q, hqe⟩ : ∃ q : ByteArray, (⟨s.name.toArray⟩ : ByteArray) = q := ⟨_, rfl⟩
  rw [hqe] at hq
  have HQ := Lib.hid hqe
  obtain ⟨v, hve⟩ : ∃ v : Nat, s.ver = (v : Int) := ⟨s.ver.toNat, (Int.toNat_of_nonneg b1).symm⟩
  have hv20 : v ≤ 1048576 := by omega
  have HC : Hid ([UInt8.ofNat s.name.length] ++ s.name ++ Ld.le v 4 ++ Ld.le s.img.length 2 ++ s.img = Ld.cont s) := by show _ = _; unfold Ld.cont; rw [hve, Int.toNat_natCast]
  have l4 := Ld.le_len 4 v
  have l2 := Ld.le_len 2 s.img.length
  have li4 := little_any v 4
  have li2 := little_any s.img.length 2
  obtain ⟨A4, hA4⟩ : ∃ A, Ld.le v 4 = A := ⟨_, rfl⟩
  obtain ⟨A2, hA2⟩ : ∃ A, Ld.le s.img.length 2 = A := ⟨_, rfl⟩
  obtain ⟨out, hout⟩ : ∃ A, Ld.cont s = A := ⟨_, rfl⟩
  rw [hA4] at l4 li4 HC
  rw [hA2] at l2 li2 HC
  rw [hout] at HC ⊢
  go_enter Tryz.func28, Tryz.ntmps28
  go_wp2_with (refine wpList_boxN rfl _ _ rfl rfl ?_; intro W g hB hz; refine Hid.out ?_)
  unfold Hid
  have c0 := g.name
  have c1 := g.ver
  have c2 := g.img
  rw [hqe] at c0
  rw [hve] at c1
  have HI := Lib.hid hi.1
  have hi2 := Lib.hid hi.2.1
  clear g hi hqe hve hv hA4 hA2 hout
  obtain ⟨nm, hnm⟩ : ∃ m, s.name = m := ⟨_, rfl⟩
  obtain ⟨im, him⟩ : ∃ m, s.img = m := ⟨_, rfl⟩
  rw [hnm] at HQ HC hq a1 a2
  rw [him] at HC c2 HI li2 c5
  obtain ⟨m, hm⟩ : ∃ m, nm.length = m := ⟨_, rfl⟩
  obtain ⟨n, hn⟩ : ∃ n, im.length = n := ⟨_, rfl⟩
  rw [hm] at hq HC a1 a2
  rw [hn] at c2 li2 c5
  obtain ⟨u, hu⟩ : ∃ u, UInt8.ofNat m = u := ⟨_, rfl⟩
  have hwk : IntKind.u8.wrap (m : Int) = (u.toNat : Int) := by
    rw [← hu, UInt8.toNat_ofNat', Nat.mod_eq_of_lt (by omega)]
    simp [IntKind.wrap, IntKind.bits, IntKind.signed]; omega
  have hwv : IntKind.u32.wrap (v : Int) = (v : Int) := by simp [IntKind.wrap, IntKind.bits, IntKind.signed]; omega
  have hwn : IntKind.u32.wrap (n : Int) = (n : Int) := by simp [IntKind.wrap, IntKind.bits, IntKind.signed]; omega
  rw [hu] at HC
  obtain ⟨p1, hp1⟩ : ∃ p, [u] ++ nm = p := ⟨_, rfl⟩
  rw [hp1] at HC
  obtain ⟨p2, hp2⟩ : ∃ p, p1 ++ A4 = p := ⟨_, rfl⟩
  rw [hp2] at HC
  obtain ⟨p3, hp3⟩ : ∃ p, p2 ++ A2 = p := ⟨_, rfl⟩
  rw [hp3] at HC
  have z1 := Lib.hid (show p1.length ≤ 100 by rw [← hp1, List.length_append, hm]; simp; omega)
  have z2 := Lib.hid (show p2.length ≤ 200 by rw [← hp2, List.length_append]; have := z1.out; omega)
  have z3 := Lib.hid (show p3.length ≤ 300 by rw [← hp3, List.length_append]; have := z2.out; omega)
  have H1 := Lib.hid hp1
  have H2 := Lib.hid hp2
  have H3 := Lib.hid hp3
  have HM := Lib.hid hm
  have HN := Lib.hid hn
  have L4 := Lib.hid l4
  have L2 := Lib.hid l2
  have z0 : w.heap.size < W.heap.size := by omega
  have C1 := Lib.hid c1
  have C2 := Lib.hid c2
  clear hp1 hp2 hp3 hm hn hu hnm him l4 l2 hz
  go_wp2_with (refine wpList_appStr rfl _ _ rfl (B := W.heap.size) (l := [u]) (OwnsB.whole W.heap.size W.heap.size W [u] _ rfl (Nat.le_refl _) rfl (by simp)) rfl (m := nm) (by rw [HQ.out]; rfl) (by have := HM.out; simp; omega) H1.out (by simp) ?_; intro x1 k1 w1 o1 b1 _; refine Hid.out ?_)
  unfold Hid
  have hB1 := (al (Below.refl W.heap.size W) (.cells #[.int .u8 (u.toNat : Int)] 5)).trans b1
  have d1 := later hB1 c1
  have O1 := Lib.hid o1
  have zB1 := Nat.lt_of_lt_of_le z0 hB1.size
  clear c0 c1 c2 b1 o1
  go_wp2_with fail
  refine (li4 _ (by omega)).mono ?_
  rintro e w2 ⟨y2, cy2, rfl, y2o, hb2⟩
  have hB2 := hB1.trans (hb2.mono hB1.size)
  have O2 := Lib.hid (O1.out.later hb2)
  clear d1 hB1 O1 hb2 li4 zB1
  go_wp2_with (at_builtin; refine wpList_app rfl _ _ rfl (B := W.heap.size) (l := p1) O2.out rfl (m := A4) rfl y2o.bts y2o.none_cap (by have := z1.out; have := L4.out; omega) H2.out hB2.size ?_; intro x3 k3 w3 o3 b3 _; refine Hid.out ?_)
  unfold Hid
  have hB3 := hB2.trans b3
  have d2 := later hB3 C2.out
  have O3 := Lib.hid o3
  have zB3 := Nat.lt_of_lt_of_le z0 hB3.size
  clear b3 o3 hB2 O2 y2o
  go_wp2_with fail
  refine (li2 _ (by omega)).mono ?_
  rintro e w4 ⟨y4, cy4, rfl, y4o, hb4⟩
  have hB4 := hB3.trans (hb4.mono hB3.size)
  have O4 := Lib.hid (O3.out.later hb4)
  clear d2 hB3 O3 hb4 li2 zB3
  go_wp2_with (at_builtin; refine wpList_app rfl _ _ rfl (B := W.heap.size) (l := p2) O4.out rfl (m := A2) rfl y4o.bts y4o.none_cap (by have := z2.out; have := L2.out; omega) H3.out hB4.size ?_; intro x5 k5 w5 o5 b5 _; refine Hid.out ?_)
  unfold Hid
  have hB5 := hB4.trans b5
  have d2 := later hB5 C2.out
  have I5 := HI.out.later (thru hB hB5)
  have O5 := Lib.hid o5
  have zB5 := Nat.lt_of_lt_of_le z0 hB5.size
  clear b5 o5 hB4 O4 y4o
  go_wp2_with (at_builtin; refine wpList_app rfl _ _ rfl (B := W.heap.size) (l := p3) O5.out rfl (m := im) (by rw [HN.out]; rfl) I5 hi2.out (by have := z3.out; have := HN.out; omega) HC.out hB5.size ?_; intro x6 k6 w6 o6 b6 _; refine Hid.out ?_)
  unfold Hid
  have hB6 := thru hB (hB5.trans b6)
  have O6 := Lib.hid o6
  clear b6 o6 hB5 O5 d2 zB5 I5
  go_wp2_with fail
  go_ret
  exact ⟨x6, k6, rfl, O6.out.weaken hB.size, hB6⟩

def dgV (s : Ld.Sw) : D64 := if s.vld = true then Dig.ofL (Ld.cont s) else 0#64
def dgC (s : Ld.Sw) : Int := if s.vld = true then 0 else 2
theorem digest_any (s : Ld.Sw) (a : SwA) (w : World) (hi : SwIn w s a) : Calls Tryz.prog 8 #[aggN 23 (softV s a)] w fun e w' => e = .returned (.tuple #[.int .u64 (num (dgV s)), .int .i64 (dgC s)]) ∧ Below w.heap.size w w' := by
  have HV := vsoft_any s a
  have HD := cont_any s a
  have hlen := Ld.cont_len s
  have hvi := Ld.Sw.vld_iff s
  by_cases hv : s.vld = true
  · have HG : Hid (num (Dig.ofL (Ld.cont s)) = num (dgV s)) := by show _ = _; unfold dgV; rw [if_pos hv]
    have e2 : dgC s = 0 := if_pos hv
    rw [e2]
    obtain ⟨⟨a1, a2⟩, _, c5, _⟩ := hvi.1 hv
    rw [hv] at HV
    obtain ⟨l, hl⟩ : ∃ l, Ld.cont s = l := ⟨_, rfl⟩
    rw [hl] at HD HG hlen
    have HL := Lib.hid (show (l.length : Int) ≤ 100000 by omega)
    have HVV := Lib.hid hv
    clear hvi hv hl hlen
    go_enter Tryz.func8, Tryz.ntmps8
    go_wp2_with (refine wpList_boxN rfl _ _ rfl rfl ?_; intro W g hB hz; refine Hid.out ?_)
    unfold Hid
    clear hz
    go_wp2_with (refine wpList_loadN rfl _ _ rfl (b := w.heap.size) (q := 0) rfl (run_loadSw g) ?_)
    refine (HV _ (hi.later hB)).mono ?_
    rintro e w1 ⟨rfl, hb1⟩
    have g1 := g.later hb1
    replace hB := thru hB hb1
    clear hb1 g HV
    go_wp2_with (refine wpList_loadN rfl _ _ rfl (b := w.heap.size) (q := 0) rfl (run_loadSw g1) ?_)
    refine (HD _ (hi.later hB) HVV.out).mono ?_
    rintro e w2 ⟨y, cy, rfl, ho, hb2⟩
    replace hB := thru hB hb2
    clear hb2 g1 HD hi
    go_wp2_with fail
    refine (of_any y l cy w2 HL.out ho.bts).mono ?_
    rintro e w3 ⟨rfl, hb3⟩
    replace hB := thru hB hb3
    clear hb3 ho
    go_wp2_with fail
    go_ret2
    exact ⟨by rw [HG.out]; rfl, hB⟩
  · have e1 : dgV s = 0#64 := if_neg hv
    have e2 : dgC s = 2 := if_neg hv
    have hv2 : s.vld = false := by simpa using hv
    rw [e1, e2, show num 0#64 = 0 from rfl]
    rw [hv2] at HV
    clear hvi HD hlen hv2 e1 e2 hv
    go_enter Tryz.func8, Tryz.ntmps8
    go_wp2_with (refine wpList_boxN rfl _ _ rfl rfl ?_; intro W g hB hz; refine Hid.out ?_)
    unfold Hid
    clear hz
    go_wp2_with (refine wpList_loadN rfl _ _ rfl (b := w.heap.size) (q := 0) rfl (run_loadSw g) ?_)
    refine (HV _ (hi.later hB)).mono ?_
    rintro e w1 ⟨rfl, hb1⟩
    replace hB := thru hB hb1
    clear hb1 g HV hi
    go_wp2_with fail
    go_ret2
    exact ⟨rfl, hB⟩

def pkV (s : Ld.Sw) : List UInt8 := if s.vld = true then Ld.form s else []
theorem pack_any (s : Ld.Sw) (a : SwA) (w : World) (hi : SwIn w s a) : Calls Tryz.prog 9 #[aggN 23 (softV s a)] w fun e w' => ∃ y cy, e = .returned (.tuple #[.slice y (pkV s).length cy, .int .i64 (dgC s)]) ∧ OwnsB w.heap.size w' y cy (pkV s) ∧ Below w.heap.size w w' := by
  have HV := vsoft_any s a
  have HD := cont_any s a
  have HE := senc_any s a
  have hvi := Ld.Sw.vld_iff s
  by_cases hv : s.vld = true
  · obtain ⟨⟨a1, a2⟩, _, c5, p6, k0, k1⟩ := hvi.1 hv
    have hg : vldG (s.path.length : Int) s.key = true := (Ld.vldG_iff _ _).2 ⟨p6, k0, k1⟩
    have e2 : dgC s = 0 := if_pos hv
    have e3 : pkV s = Ld.form s := if_pos hv
    have e4 : sgC s = 0 := if_pos hg
    have e5 : sgB s = Sgn.enc s.key.toNat s.ch s.path := if_pos hg
    have hlen := Ld.form_max s hv
    rw [e4, e5] at HE
    rw [e2, e3]
    rw [hv] at HV
    have hf : Ld.cont s ++ Sgn.enc s.key.toNat s.ch s.path = Ld.form s := rfl
    obtain ⟨l, hl⟩ : ∃ l, Ld.cont s = l := ⟨_, rfl⟩
    obtain ⟨m, hm⟩ : ∃ l, Sgn.enc s.key.toNat s.ch s.path = l := ⟨_, rfl⟩
    obtain ⟨f, hff⟩ : ∃ l, Ld.form s = l := ⟨_, rfl⟩
    rw [hl, hm, hff] at hf
    rw [hl] at HD
    rw [hm] at HE
    rw [hff] at hlen ⊢
    have hlm : l.length + m.length = f.length := by rw [← hf, List.length_append]
    have HL := Lib.hid (show l.length + m.length ≤ 10000000 by omega)
    have HVV := Lib.hid hv
    have HF := Lib.hid hf
    clear hvi hv hl hm hff hlen hlm hf e2 e3 e4 e5 hg
    go_enter Tryz.func9, Tryz.ntmps9
    go_wp2_with (refine wpList_boxN rfl _ _ rfl rfl ?_; intro W g hB hz; refine Hid.out ?_)
    unfold Hid
    clear hz
    go_wp2_with (refine wpList_loadN rfl _ _ rfl (b := w.heap.size) (q := 0) rfl (run_loadSw g) ?_)
    refine (HV _ (hi.later hB)).mono ?_
    rintro e w1 ⟨rfl, hb1⟩
    have g1 := g.later hb1
    replace hB := thru hB hb1
    clear hb1 g HV
    have g3 := g1.sig
    go_wp2_with (refine wpList_loadN rfl _ _ rfl (b := w.heap.size) (q := 3) rfl (run_loadSg g3) ?_)
    refine (HE _ (hi.later hB)).mono ?_
    rintro e w2 ⟨y, cy, rfl, ho, hb2⟩
    have g2 := g1.later hb2
    replace hB := thru hB hb2
    clear hb2 g1 g3 HE
    go_wp2_with (refine wpList_loadN rfl _ _ rfl (b := w.heap.size) (q := 0) rfl (run_loadSw g2) ?_)
    refine (HD _ (hi.later hB) HVV.out).mono ?_
    rintro e w3 ⟨y3, cy3, rfl, ho3, hb3⟩
    have hB3 := thru hB hb3
    have ho2 := ho.bts.later hb3
    have hnc := Lib.hid ho.none_cap
    have O3 := Lib.hid ho3
    have hb3s := hb3.size
    have hb3k := Lib.hid hb3
    clear hb3 g2 HD hi ho ho3
    go_wp2_with (at_builtin; refine wpList_app rfl _ _ rfl (B := w2.heap.size) (l := l) O3.out rfl (m := m) rfl ho2 hnc.out HL.out HF.out hb3s ?_; intro x6 k6 w6 o6 b6 _; refine Hid.out ?_)
    unfold Hid
    have hB6 := thru hB (hb3k.out.trans b6)
    have O6 := Lib.hid (o6.weaken hB.size)
    clear b6 o6 O3 ho2 hB3
    go_wp2_with fail
    go_ret2
    exact ⟨x6, k6, rfl, O6.out, hB6⟩
  · have e2 : dgC s = 2 := if_neg hv
    have e3 : pkV s = [] := if_neg hv
    have hv2 : s.vld = false := by simpa using hv
    rw [e2, e3]
    rw [hv2] at HV
    clear hvi HD HE hv2 e2 e3 hv
    go_enter Tryz.func9, Tryz.ntmps9
    go_wp2_with (refine wpList_boxN rfl _ _ rfl rfl ?_; intro W g hB hz; refine Hid.out ?_)
    unfold Hid
    clear hz
    go_wp2_with (refine wpList_loadN rfl _ _ rfl (b := w.heap.size) (q := 0) rfl (run_loadSw g) ?_)
    refine (HV _ (hi.later hB)).mono ?_
    rintro e w1 ⟨rfl, hb1⟩
    replace hB := thru hB hb1
    clear hb1 g HV hi
    go_wp2_with fail
    go_ret2
    exact ⟨none, 0, rfl, OwnsB.nil _ _, hB⟩

/-- Verify over whole software. -/
theorem verif_any (s : Ld.Sw) (a : SwA) (root d : D64) (h : Int) (w : World) (hi : SwIn w s a) : Calls Tryz.prog 38 #[.int .u64 (num root), .int .i64 h, .int .u64 (num d), aggN 20 (sigV s.key s.ch a.xp s.path.length a.cp)] w fun e w' => e = .returned (.bool (vldG (s.path.length : Int) s.key && (decide ((s.path.length : Int) = h) && (Sgn.vfy d s.key.toNat s.ch s.path == root)))) ∧ Below w.heap.size w w' := by
  by_cases hh : (s.path.length : Int) = h
  · by_cases hv : vldG (s.path.length : Int) s.key = true
    · obtain ⟨h6, k0, k1⟩ := (Ld.vldG_iff _ _).1 hv
      have hk : s.key = (s.key.toNat : Int) := (Int.toNat_of_nonneg k0).symm
      have hkn : s.key.toNat < 2 ^ s.path.length := by
        have : ((s.key.toNat : Nat) : Int) < ((2 ^ s.path.length : Nat) : Int) := by rw [← hk]; simpa using k1
        exact_mod_cast this
      have h1 := verify_yes root d s.key.toNat s.ch s.path a.xp a.cp w hi.2.2 h6 hkn
      rw [← hk, hh] at h1
      rw [hh] at hv ⊢
      rw [hv, decide_eq_true rfl, Bool.true_and, Bool.true_and]
      exact h1
    · have hv2 : vldG (s.path.length : Int) s.key = false := by simpa using hv
      have h1 := verify_no root h d s.key s.ch a.xp s.path.length a.cp w (.inl (by rw [← hh]; exact hv2))
      rw [hv2, Bool.false_and]
      exact h1
  · have h1 := verify_no root h d s.key s.ch a.xp s.path.length a.cp w (.inr hh)
    rw [decide_eq_false hh, Bool.false_and, Bool.and_false]
    exact h1
set_option maxHeartbeats 400000 in
theorem genu_any (s : Ld.Sw) (a : SwA) (root : D64) (h : Int) (w : World) (hi : SwIn w s a) : Calls Tryz.prog 14 #[aggN 23 (softV s a), .int .u64 (num root), .int .i64 h] w fun e w' => e = .returned (.bool (Ld.genu s root h)) ∧ Below w.heap.size w w' := by
  have HD := digest_any s a
  have HF := fun d => verif_any s a root d h
  by_cases hv : s.vld = true
  · have e1 : dgV s = Dig.ofL (Ld.cont s) := if_pos hv
    have e2 : dgC s = 0 := if_pos hv
    obtain ⟨_, _, _, p6, k0, k1⟩ := (Ld.Sw.vld_iff s).1 hv
    have hg : vldG (s.path.length : Int) s.key = true := (Ld.vldG_iff _ _).2 ⟨p6, k0, k1⟩
    have HG : Hid (Ld.genu s root h = (decide ((s.path.length : Int) = h) && (Sgn.vfy (Dig.ofL (Ld.cont s)) s.key.toNat s.ch s.path == root))) := by show _ = _; unfold Ld.genu; rw [hv, Bool.true_and]
    rw [e1, e2] at HD
    replace HF := HF (Dig.ofL (Ld.cont s))
    rw [hg, Bool.true_and, ← HG.out] at HF
    obtain ⟨r, hr⟩ : ∃ r, Ld.genu s root h = r := ⟨_, rfl⟩
    rw [hr] at HF ⊢
    obtain ⟨d, hd⟩ : ∃ d, Dig.ofL (Ld.cont s) = d := ⟨_, rfl⟩
    rw [hd] at HD HF
    clear hv hr hd hg e1 e2 HG p6 k0 k1
    go_enter Tryz.func14, Tryz.ntmps14
    go_wp2_with (refine wpList_boxN rfl _ _ rfl rfl ?_; intro W g hB hz; refine Hid.out ?_)
    unfold Hid
    clear hz
    go_wp2_with (refine wpList_loadN rfl _ _ rfl (b := w.heap.size) (q := 0) rfl (run_loadSw g) ?_)
    refine (HD _ (hi.later hB)).mono ?_
    rintro e w1 ⟨rfl, hb1⟩
    have g3 := (g.later hb1).sig
    replace hB := thru hB hb1
    clear hb1 g HD
    go_wp2_with (refine wpList_loadN_w rfl _ _ rfl (b := w.heap.size) (q := 3) rfl (run_loadSg g3) ?_)
    refine (HF _ (hi.later hB)).mono ?_
    rintro e w2 ⟨rfl, hb2⟩
    replace hB := thru hB hb2
    clear hb2 g3 HF hi
    go_wp2_with fail
    go_ret
    exact ⟨rfl, hB⟩
  · have e2 : dgC s = 2 := if_neg hv
    have hv2 : s.vld = false := by simpa using hv
    have hg : Ld.genu s root h = false := by unfold Ld.genu; rw [hv2, Bool.false_and]
    rw [e2] at HD
    rw [hg]
    obtain ⟨d, hd⟩ : ∃ d, dgV s = d := ⟨_, rfl⟩
    rw [hd] at HD
    clear hv hv2 hg hd HF e2
    go_enter Tryz.func14, Tryz.ntmps14
    go_wp2_with (refine wpList_boxN rfl _ _ rfl rfl ?_; intro W g hB hz; refine Hid.out ?_)
    unfold Hid
    clear hz
    go_wp2_with (refine wpList_loadN rfl _ _ rfl (b := w.heap.size) (q := 0) rfl (run_loadSw g) ?_)
    refine (HD _ (hi.later hB)).mono ?_
    rintro e w1 ⟨rfl, hb1⟩
    replace hB := thru hB hb1
    clear hb1 g HD hi
    go_wp2_with fail
    go_ret
    exact ⟨rfl, hB⟩

end Go.Proofs.YtapefonhgkjgnaaGreat
