/- LAW SignJudges. -/
import Derived.Test.YtjpicnfkmfjnoaaSgnRb
import Derived.Test.YtjpicnfkmfjnoaaSgnY
import Derived.Test.YtjpicnfkmfjnoaaSgnZ
import Derived.BigQuiet
namespace Go.Proofs.Ytjpicnfkmfjnoaa
open Go.RowKit

section
variable {P : Program} {ops : Array Oper} {rest : List Oper} {o : Oper} {a : Act} {C : World → Prop} {Q : Act → Prop}
theorem wpQuiet_run (hw : Region.wanted o (yielded ops a.tmps) = true) {v : Value} (hrun : ∀ w', C w' → (execOp a.eval o).run P w' = .ok (.value v) w') (h : wpQuiet P ops C Q rest (a.put o.dst v)) : wpQuiet P ops C Q (o :: rest) a :=
  wpQuiet_step fun K hK => by
    rw [if_pos hw]
    exact ⟨v, fun w' hw' => by
      unfold Oper.quietAt
      rw [hrun w' hw']
      exact ⟨rfl, rfl⟩, hK _ h⟩
theorem wpQuiet_loadN (hw : Region.wanted o (yielded ops a.tmps) = true) (t : TypeId) (p : Operand) (ho : o.op = .load t p) {b q : Nat} (hp : a.eval p = .pointer (some ⟨b, q, none⟩)) {v : Value} (hrun : ∀ w', C w' → (loadVar t ⟨b, q, none⟩).run P w' = .ok v w')
    (h : wpQuiet P ops C Q rest (a.put o.dst v)) : wpQuiet P ops C Q (o :: rest) a :=
  wpQuiet_run hw (fun w' hw' => by simp [execOp, ho, hp, Instr.loadAt, Instr.sureAddr, hrun w' hw', Result.andThen]) h
theorem wpQuiet_conv (hw : Region.wanted o (yielded ops a.tmps) = true) (src dst : TypeId) (x : Operand) (ho : o.op = .convert src dst x) {u v : Value} (hx : a.eval x = u) (hrun : ∀ w', C w' → (Go.convert src dst u).run P w' = .ok v w')
    (h : wpQuiet P ops C Q rest (a.put o.dst v)) : wpQuiet P ops C Q (o :: rest) a :=
  wpQuiet_run hw (fun w' hw' => by simp [execOp, ho, hx, hrun w' hw', Result.andThen]) h
end
def EncR (le : List UInt8) (er : Int) (W : World) (e : Ending) (w' : World) : Prop := ∃ y cy, e = .returned (.tuple #[.slice y le.length cy, .int .i64 er]) ∧ Bts w' y le ∧ Below W.heap.size W w'
def DecR (kd : Int) (fd : Nat → D64) (pd : List D64) (er : Int) (W : World) (e : Ending) (w' : World) : Prop := ∃ y cy, e = .returned (.tuple #[aggN 20 (sigV kd fd y pd.length cy), .int .i64 er]) ∧ Wts w' y pd ∧ Below W.heap.size W w'
theorem vld_nat {n : Nat} {key : Int} (h : vldS (n : Int) key = true) : n ≤ 6 ∧ ∃ k : Nat, key = (k : Int) ∧ k < 2 ^ n := by
  unfold vldS at h
  obtain ⟨_, h6, k0, kn⟩ := of_decide_eq_true h
  rw [Int.toNat_natCast] at kn
  refine ⟨by omega, key.toNat, by omega, ?_⟩
  have h5 : key < ((2 ^ n : Nat) : Int) := by simpa using kn
  omega
theorem enc_both (key : Int) (f : Nat → D64) (x : Option Addr) (p : List D64) (c : Nat) : ∃ le er, (∀ W, Wts W x p → Calls Try.prog 28 #[aggN 20 (sigV key f x p.length c)] W (EncR le er W)) ∧ (∀ W, Wts W x p → Calls Try.prog 29 #[aggN 20 (sigV key f x p.length c)] W (EncR le er W)) := by
  cases hv : vldS (p.length : Int) key with
  | false =>
    refine ⟨[], 2, fun W _ => (encode_bad key f x p.length c W hv).mono ?_, fun W _ => (refEncode_bad key f x p.length c W hv).mono ?_⟩
    · rintro e w' ⟨rfl, hb⟩; exact ⟨none, 0, rfl, .inl rfl, hb⟩
    · rintro e w' ⟨rfl, hb⟩; exact ⟨none, 0, rfl, .inl rfl, hb⟩
  | true =>
    obtain ⟨h6, k, rfl, hk⟩ := vld_nat hv
    refine ⟨Sgn.enc k f p, 0, fun W h => (encode_ok k f p x c W h h6 hk).mono ?_, fun W h => (refEncode_ok k f p x c W h h6 hk).mono ?_⟩
    · rintro e w' ⟨y, cy, rfl, ho, hb⟩; exact ⟨y, cy, rfl, ho.bts, hb⟩
    · rintro e w' ⟨y, cy, rfl, ho, hb⟩; exact ⟨y, cy, rfl, ho.bts, hb⟩
theorem dec_both (x : Option Addr) (l : List UInt8) (c : Nat) : ∃ kd fd pd er, pd.length ≤ 6 ∧ (∀ W, Bts W x l → Calls Try.prog 30 #[.slice x l.length c] W (DecR kd fd pd er W)) ∧ (∀ W, Bts W x l → Calls Try.prog 31 #[.slice x l.length c] W (DecR kd fd pd er W)) := by
  cases hd : decN l with
  | false =>
    refine ⟨0, fun _ => 0#64, [], 60, by simp, fun W h => (decode_no x l c W h hd).mono ?_, fun W h => (refDecode_no x l c W h hd).mono ?_⟩
    · rintro e w' ⟨rfl, hb⟩; exact ⟨none, 0, rfl, .inl rfl, hb⟩
    · rintro e w' ⟨rfl, hb⟩; exact ⟨none, 0, rfl, .inl rfl, hb⟩
  | true =>
    unfold decN at hd
    simp only [Bool.and_eq_true, decide_eq_true_eq] at hd
    obtain ⟨⟨_, hv⟩, hl⟩ := hd
    have h6 := (vld_nat hv).1
    have hw := Sgn.wds_length l (l.getD 1 0).toNat
    refine ⟨((l.getD 0 0).toNat : Int), fun i => Sgn.wd l (2 + 8 * i) 8, Sgn.wds l (l.getD 1 0).toNat, 0, by omega, fun W h => (decode_ok x l c W h hv hl).mono ?_, fun W h => (refDecode_ok x l c W h hv hl).mono ?_⟩
    · rintro e w' ⟨y, cy, rfl, ho, hb⟩; exact ⟨y, cy, by rw [hw], ho.wts, hb⟩
    · rintro e w' ⟨y, cy, rfl, ho, hb⟩; exact ⟨y, cy, by rw [hw], ho.wts, hb⟩
theorem vfy_both (root d : D64) (h key : Int) (f : Nat → D64) (x : Option Addr) (p : List D64) (c : Nat) : ∃ vb, (∀ W, Wts W x p → Calls Try.prog 23 #[.int .u64 (num root), .int .i64 h, .int .u64 (num d), aggN 20 (sigV key f x p.length c)] W fun e w' => e = .returned (.bool vb) ∧ Below W.heap.size W w') ∧
    (∀ W, Wts W x p → Calls Try.prog 32 #[.int .u64 (num root), .int .i64 h, .int .u64 (num d), aggN 20 (sigV key f x p.length c)] W fun e w' => e = .returned (.bool vb) ∧ Below W.heap.size W w') := by
  by_cases hn : vldS h key = false ∨ (p.length : Int) ≠ h
  · exact ⟨false, fun W _ => verify_no root h d key f x p.length c W hn, fun W _ => refVerify_no root h d key f x p.length c W hn⟩
  · have hv : vldS h key = true := by
      cases hq : vldS h key with
      | true => rfl
      | false => exact absurd (.inl hq) hn
    have hh : (p.length : Int) = h := Classical.byContradiction fun e => hn (.inr e)
    subst hh
    obtain ⟨h6, k, rfl, hk⟩ := vld_nat hv
    exact ⟨_, fun W hp => verify_yes root d k f p x c W hp h6 hk, fun W hp => refVerify_yes root d k f p x c W hp h6 hk⟩
set_option maxRecDepth 20000 in
set_option maxHeartbeats 4000000 in
theorem judges_law (root : D64) (h : Int) (d : D64) (key : Int) (f : Nat → D64) (x : Option Addr) (p : List D64) (c : Nat) (xd : Option Addr) (ld : List UInt8) (cd : Nat) (w : World) (hp : Wts w x p) (hd : Bts w xd ld) :
    Calls Try.prog 7 #[.int .u64 (num root), .int .i64 h, .int .u64 (num d), aggN 20 (sigV key f x p.length c), .slice xd ld.length cd] w (YesOf w) := by
  by_cases hbig : 10 < p.length ∨ 300 < ld.length
  · have hor : (decide (10 < p.length) = true ∧ decide ((10 : Int) < (p.length : Int)) = true) ∨ ((decide (10 < p.length) = false ∧ decide ((10 : Int) < (p.length : Int)) = false) ∧ (decide (300 < ld.length) = true ∧ decide ((300 : Int) < (ld.length : Int)) = true)) := by
      by_cases h1 : 10 < p.length
      · exact .inl ⟨decide_eq_true h1, decide_eq_true (by omega)⟩
      · exact .inr ⟨⟨decide_eq_false h1, decide_eq_false (by omega)⟩, decide_eq_true (by omega), decide_eq_true (by omega)⟩
    obtain ⟨n, hn⟩ : ∃ n, p.length = n := ⟨_, rfl⟩
    obtain ⟨m, hm⟩ : ∃ n, ld.length = n := ⟨_, rfl⟩
    rw [hn] at hor ⊢
    rw [hm] at hor ⊢
    clear hbig hn hm hp hd
    rcases hor with ⟨d1, d1i⟩ | ⟨⟨d1, d1i⟩, d2, d2i⟩
    all_goals
      go_enter Try.func7, Try.ntmps7
      go_wp2_with (refine wpList_boxN rfl _ _ rfl (v := sigV key f x n c) rfl ?_; intro W g hB hz; refine Hid.out ?_)
      unfold Hid
      have c19 : W.cell? ⟨w.heap.size, 19, none⟩ = some (.slice x n c) := (g.at 19 (by omega)).1
      clear g hz
      go_wp2_with fail
      refine (awake_any _).mono ?_
      rintro e w' ⟨rfl, hb⟩
      go_wp2_with fail
      go_ret
      exact ⟨rfl, thru hB hb⟩
  · obtain ⟨le, er, HE1, HE2⟩ := enc_both key f x p c
    obtain ⟨kd, fd, pd, dr, hpd, HD1, HD2⟩ := dec_both xd ld cd
    obtain ⟨vb, HV1, HV2⟩ := vfy_both root d h key f x p c
    have d1 : decide (10 < p.length) = false := decide_eq_false (by omega)
    have d2 : decide (300 < ld.length) = false := decide_eq_false (by omega)
    have d1i : decide ((10 : Int) < (p.length : Int)) = false := decide_eq_false (by omega)
    have d2i : decide ((300 : Int) < (ld.length : Int)) = false := decide_eq_false (by omega)
    have HS : ∀ (W : World) (xa xb : Option Addr) (ca cb : Nat), Wts W xa pd → Wts W xb pd → Calls Try.prog 20 #[aggN 20 (sigV kd fd xa pd.length ca), aggN 20 (sigV kd fd xb pd.length cb)] W (YesOf W) := fun W xa xb ca cb h1 h2 => same_yes kd fd fd (fun _ _ => rfl) xa xb pd ca cb W h1 h2 (by omega)
    obtain ⟨n, hn⟩ : ∃ n, p.length = n := ⟨_, rfl⟩
    obtain ⟨m, hm⟩ : ∃ n, ld.length = n := ⟨_, rfl⟩
    obtain ⟨np, hnp⟩ : ∃ n, pd.length = n := ⟨_, rfl⟩
    unfold DecR at HD1 HD2
    rw [hn] at HE1 HE2 HV1 HV2 d1 d1i ⊢
    rw [hm] at HD1 HD2 d2 d2i ⊢
    rw [hnp] at HD1 HD2 HS
    have E1 := Lib.hid HE1
    have E2 := Lib.hid HE2
    have D1 := Lib.hid HD1
    have D2 := Lib.hid HD2
    have V1 := Lib.hid HV1
    have V2 := Lib.hid HV2
    have S1 := Lib.hid HS
    clear hbig hn hm hnp HE1 HE2 HD1 HD2 HV1 HV2 HS hpd
    go_enter Try.func7, Try.ntmps7
    go_wp2_with (refine wpList_boxN rfl _ _ rfl (v := sigV key f x n c) rfl ?_; intro W g hB hz; refine Hid.out ?_)
    unfold Hid
    try simp only [Act.put, List.setIfInBounds_toArray, List.set_cons_zero, List.set_cons_succ]
    have gp := hp.later hB
    have gd := hd.later hB
    obtain ⟨b8, hb8⟩ : ∃ a, w.heap.size = a := ⟨_, rfl⟩
    rw [hb8] at g ⊢
    have a_b8 := g
    have c19 : W.cell? ⟨b8, 19, none⟩ = some (.slice x n c) := (g.at 19 (by omega)).1
    have l8 := run_loadS a_b8
    clear hp hd hz hb8 g
    go_wp2_with (refine wpList_loadN rfl _ (.tmp 8) rfl (b := b8) (q := 0) rfl l8 ?_)
    refine (E1.out _ gp).mono ?_
    rintro e W1 ⟨ya, ca, rfl, ba, hb⟩
    clear l8 c19
    replace gp := gp.later hb
    replace gd := gd.later hb
    replace a_b8 := a_b8.later hb
    replace hB := thru hB hb
    clear hb
    have l8 := run_loadS a_b8
    go_wp2_with (refine wpList_loadN rfl _ (.tmp 8) rfl (b := b8) (q := 0) rfl l8 ?_)
    refine (E2.out _ gp).mono ?_
    rintro e W2 ⟨yb, cb, rfl, bb, hb⟩
    clear l8
    replace gp := gp.later hb
    replace gd := gd.later hb
    replace a_b8 := a_b8.later hb
    replace ba := ba.later hb
    replace hB := thru hB hb
    clear hb
    go_wp2_with fail
    refine (D1.out _ gd).mono ?_
    rintro e W3 ⟨yc, cc, rfl, wc, hb⟩
    replace gp := gp.later hb
    replace gd := gd.later hb
    replace a_b8 := a_b8.later hb
    replace ba := ba.later hb
    replace bb := bb.later hb
    replace hB := thru hB hb
    clear hb
    go_wp2_with (refine wpList_allocTo 15 rfl rfl _ rfl sig_zero ?_; intro Xp0 a_b15 hb0 hz0; refine Hid.out ?_)
    unfold Hid
    try simp only [Act.put, List.setIfInBounds_toArray, List.set_cons_zero, List.set_cons_succ]
    obtain ⟨b15, e_b15⟩ : ∃ a, W3.heap.size = a := ⟨_, rfl⟩
    have s_b15 : W3.heap.size ≤ b15 := by omega
    have hb := hb0
    rw [e_b15] at a_b15 hz0 ⊢
    clear hb0
    have hz : b15 < Xp0.heap.size := by omega
    clear e_b15 hz0
    go_wp2_with (refine wpList_storeB rfl rfl _ (.tmp 15) _ rfl (b := b15) (q := 0) rfl (n := 20) (v := sigV kd fd yc np cc) rfl a_b15 (fun j _ => sig_one _ _ _ _ _ j) sig_size ?_; intro Yp0 t1; refine Hid.out ?_)
    unfold Hid
    replace hb := t1.below _ _ (by omega) hb
    replace a_b15 := t1.blk
    rw [← t1.size] at hz
    clear t1
    replace gp := gp.later hb
    replace gd := gd.later hb
    replace a_b8 := a_b8.later hb
    replace ba := ba.later hb
    replace bb := bb.later hb
    replace wc := wc.later hb
    replace hB := thru hB hb
    clear hb hz
    go_wp2_with fail
    refine (D2.out _ gd).mono ?_
    rintro e W4 ⟨yd, cd2, rfl, wd, hb⟩
    replace gp := gp.later hb
    replace a_b8 := a_b8.later hb
    replace ba := ba.later hb
    replace bb := bb.later hb
    replace wc := wc.later hb
    replace a_b15 := a_b15.later hb
    replace hB := thru hB hb
    clear hb gd
    go_wp2_with (refine wpList_allocTo 17 rfl rfl _ rfl sig_zero ?_; intro Xq0 a_b17 hb0 hz0; refine Hid.out ?_)
    unfold Hid
    try simp only [Act.put, List.setIfInBounds_toArray, List.set_cons_zero, List.set_cons_succ]
    obtain ⟨b17, e_b17⟩ : ∃ a, W4.heap.size = a := ⟨_, rfl⟩
    have s_b17 : W4.heap.size ≤ b17 := by omega
    have hb := hb0
    rw [e_b17] at a_b17 hz0 ⊢
    clear hb0
    have hz : b17 < Xq0.heap.size := by omega
    clear e_b17 hz0
    go_wp2_with (refine wpList_storeB rfl rfl _ (.tmp 17) _ rfl (b := b17) (q := 0) rfl (n := 20) (v := sigV kd fd yd np cd2) rfl a_b17 (fun j _ => sig_one _ _ _ _ _ j) sig_size ?_; intro Yq0 t1; refine Hid.out ?_)
    unfold Hid
    replace hb := t1.below _ _ (by omega) hb
    replace a_b17 := t1.blk
    rw [← t1.size] at hz
    clear t1
    replace gp := gp.later hb
    replace a_b8 := a_b8.later hb
    replace ba := ba.later hb
    replace bb := bb.later hb
    replace wc := wc.later hb
    replace wd := wd.later hb
    replace a_b15 := a_b15.later hb
    replace hB := thru hB hb
    clear hb hz
    go_wp2_with fail
    obtain ⟨U, hU⟩ : ∃ U, Yq0 = U := ⟨_, rfl⟩
    rw [hU] at gp a_b8 ba bb wc wd a_b15 a_b17 hB ⊢
    clear hU
    obtain ⟨ll, hll⟩ : ∃ k, le.length = k := ⟨_, rfl⟩
    have hca : ∀ W, Below U.heap.size U W → (Go.convert 56 9 (.slice ya ll ca)).run Try.prog W = .ok (.string ⟨le.toArray⟩) W := fun W hW => by rw [← hll]; exact run_conv Try.underlying56 Try.underlying5 (by kernel_rfl) (ba.later hW) ca
    have hcb : ∀ W, Below U.heap.size U W → (Go.convert 56 9 (.slice yb ll cb)).run Try.prog W = .ok (.string ⟨le.toArray⟩) W := fun W hW => by rw [← hll]; exact run_conv Try.underlying56 Try.underlying5 (by kernel_rfl) (bb.later hW) cb
    obtain ⟨sv, hsv⟩ : ∃ s : ByteArray, (⟨le.toArray⟩ : ByteArray) = s := ⟨_, rfl⟩
    rw [hsv] at hca hcb
    rw [hll]
    clear hll hsv ba bb
    have hsvv : (sv.toList == sv.toList) = true := by simp
    refine wp_region_sched (fun W => True ∧ Below U.heap.size U W) (.one [0, 1, 2, 3, 5, 6, 7, 8] 4 (.one [] 9 (.one [10, 11, 12, 13, 14, 15, 16, 17, 18, 19, 20, 21, 22, 23, 24, 25] 26 (.one [27, 28, 29, 30, 31, 32, 33] 34 (.done [35, 36]))))) (by kernel_rfl) (by kernel_rfl) (fun _ _ _ _ _ h => h) ⟨trivial, (Below.refl _ _).drew⟩ ?_
    rintro V ⟨-, hUV⟩
    rw [wpSched]
    simp only [pick, List.map_cons, List.map_nil, Array.getD_eq_getD_getElem?, List.getElem?_toArray, List.getElem?_cons_succ, List.getElem?_cons_zero, Option.getD_some]
    have q8 : ∀ w', OutOf V w' → (loadVar 34 ⟨b8, 0, none⟩).run Try.prog w' = .ok (aggN 20 (sigV key f x n c)) w' := fun w' hw' => run_loadS (a_b8.later (thru hUV hw'.below))
    repeat (first | (refine wpQuiet_loadN rfl _ (.tmp 8) rfl (b := b8) (q := 0) rfl q8 ?_; try simp only [Act.put, List.setIfInBounds_toArray, List.set_cons_zero, List.set_cons_succ]) | go_big_quiet_step (fail) | quiet_step (fail))
    refine wpQuiet_nil ?_
    refine heavy_want (by rfl) (fun K' hK' => ?_)
    go_simp
    refine (V1.out _ (gp.later hUV)).mono ?_
    rintro e V1' ⟨rfl, hb⟩
    refine hK' _ _ hb ?_
    clear hK' K' q8
    replace hUV := thru hUV hb
    clear hb
    try simp only [Act.put, List.setIfInBounds_toArray, List.set_cons_zero, List.set_cons_succ]
    rw [wpSched]
    simp only [pick, List.map_nil, Array.getD_eq_getD_getElem?, List.getElem?_toArray, List.getElem?_cons_succ, List.getElem?_cons_zero, Option.getD_some]
    refine wpQuiet_nil ?_
    refine heavy_want (by rfl) (fun K' hK' => ?_)
    go_simp
    refine (V2.out _ (gp.later hUV)).mono ?_
    rintro e V2' ⟨rfl, hb⟩
    refine hK' _ _ hb ?_
    clear hK' K'
    replace hUV := thru hUV hb
    clear hb
    try simp only [Act.put, List.setIfInBounds_toArray, List.set_cons_zero, List.set_cons_succ]
    rw [wpSched]
    simp only [pick, List.map_cons, List.map_nil, Array.getD_eq_getD_getElem?, List.getElem?_toArray, List.getElem?_cons_succ, List.getElem?_cons_zero, Option.getD_some]
    have q15 : ∀ w', OutOf V2' w' → (loadVar 34 ⟨b15, 0, none⟩).run Try.prog w' = .ok (aggN 20 (sigV kd fd yc np cc)) w' := fun w' hw' => run_loadS (a_b15.later (thru hUV hw'.below))
    have q17 : ∀ w', OutOf V2' w' → (loadVar 34 ⟨b17, 0, none⟩).run Try.prog w' = .ok (aggN 20 (sigV kd fd yd np cd2)) w' := fun w' hw' => run_loadS (a_b17.later (thru hUV hw'.below))
    have qa : ∀ w', OutOf V2' w' → (Go.convert 56 9 (.slice ya ll ca)).run Try.prog w' = .ok (.string sv) w' := fun w' hw' => hca _ (thru hUV hw'.below)
    have qb : ∀ w', OutOf V2' w' → (Go.convert 56 9 (.slice yb ll cb)).run Try.prog w' = .ok (.string sv) w' := fun w' hw' => hcb _ (thru hUV hw'.below)
    repeat (first | (refine wpQuiet_loadN rfl _ (.tmp 15) rfl (b := b15) (q := 0) rfl q15 ?_; try simp only [Act.put, List.setIfInBounds_toArray, List.set_cons_zero, List.set_cons_succ]) | (refine wpQuiet_loadN rfl _ (.tmp 17) rfl (b := b17) (q := 0) rfl q17 ?_; try simp only [Act.put, List.setIfInBounds_toArray, List.set_cons_zero, List.set_cons_succ]) | (refine wpQuiet_conv rfl _ _ (.tmp 61) rfl rfl qa ?_; try simp only [Act.put, List.setIfInBounds_toArray, List.set_cons_zero, List.set_cons_succ]) | (refine wpQuiet_conv rfl _ _ (.tmp 63) rfl rfl qb ?_; try simp only [Act.put, List.setIfInBounds_toArray, List.set_cons_zero, List.set_cons_succ]) | go_big_quiet_step (fail) | quiet_step (fail))
    refine wpQuiet_nil ?_
    clear q15 q17 qa qb
    refine heavy_want (by rfl) (fun K' hK' => ?_)
    go_simp
    refine (S1.out _ yc yd cc cd2 (wc.later hUV) (wd.later hUV)).mono ?_
    rintro e V3' ⟨rfl, hb⟩
    refine hK' _ _ hb ?_
    clear hK' K'
    replace hUV := thru hUV hb
    clear hb
    try simp only [Act.put, List.setIfInBounds_toArray, List.set_cons_zero, List.set_cons_succ]
    rw [wpSched]
    simp only [pick, List.map_cons, List.map_nil, Array.getD_eq_getD_getElem?, List.getElem?_toArray, List.getElem?_cons_succ, List.getElem?_cons_zero, Option.getD_some]
    repeat (first | go_big_quiet_step (fail) | quiet_step (fail))
    refine wpQuiet_nil ?_
    refine heavy_want (by rfl) (fun K' hK' => ?_)
    go_simp
    refine (awake_any _).mono ?_
    rintro e V4' ⟨rfl, hb⟩
    refine hK' _ _ hb ?_
    clear hK' K'
    replace hUV := thru hUV hb
    clear hb
    try simp only [Act.put, List.setIfInBounds_toArray, List.set_cons_zero, List.set_cons_succ]
    rw [wpSched]
    simp only [pick, List.map_cons, List.map_nil, Array.getD_eq_getD_getElem?, List.getElem?_toArray, List.getElem?_cons_succ, List.getElem?_cons_zero, Option.getD_some]
    repeat (first | go_big_quiet_step (fail) | quiet_step (fail))
    refine wpQuiet_nil ?_
    go_wp2_with fail
    go_ret
    exact ⟨rfl, thru hB hUV⟩

end Go.Proofs.Ytjpicnfkmfjnoaa
