/- The reference of layer 38: Unpack. -/
import Derived.Test.YtapefonhgkjgnaaGreatRfB
import Derived.Test.YtapefonhgkjgnaaGreatRfP
import Derived.Test.YtapefonhgkjgnaaGreatRfS
set_option maxRecDepth 20000
namespace Go.Proofs.YtapefonhgkjgnaaGreat
open Go.RowKit

def RupOf (d : List UInt8) (w : World) (e : Ending) (w' : World) : Prop := ∃ a, e = .returned (.tuple #[aggN 23 (softV (unS d) a), .int .i64 (unC d)]) ∧ SwIn w' (unS d) a ∧ SwNew w.heap.size a ∧ Below w.heap.size w w'
theorem un_no {d : List UInt8} (h : ¬ Ld.okU d = true) : unS d = zSw ∧ unC d = 380 := ⟨if_neg h, if_neg h⟩
theorem un_yes {d : List UInt8} (h : Ld.okU d = true) : unS d = Ld.swOf d ∧ unC d = 0 := ⟨if_pos h, if_pos h⟩
theorem wr7 {n : Nat} (h : n < 70000) : wrap64 (7 + (n : Int)) = 7 + (n : Int) := wrap64_id (by omega)
theorem wr5 {n : Nat} (h : n < 70000) : wrap64 (5 + (n : Int)) = 5 + (n : Int) := wrap64_id (by omega)
theorem wJ7 {n : Nat} (h : n < 70000) : IntKind.i64.wrap (7 + (n : Int)) = 7 + (n : Int) := by simp [IntKind.wrap, IntKind.bits, IntKind.signed]; omega
theorem wJ5 {n : Nat} (h : n < 70000) : IntKind.i64.wrap (5 + (n : Int)) = 5 + (n : Int) := by simp [IntKind.wrap, IntKind.bits, IntKind.signed]; omega
theorem wJ1 {n : Nat} (h : n < 70000) : IntKind.i64.wrap (1 + (n : Int)) = 1 + (n : Int) := by simp [IntKind.wrap, IntKind.bits, IntKind.signed]; omega
theorem wJ7z {n z : Nat} (h : n < 70000) (h2 : z < 70000) : IntKind.i64.wrap (7 + (n : Int) + (z : Int)) = 7 + (n : Int) + (z : Int) := by simp [IntKind.wrap, IntKind.bits, IntKind.signed]; omega
theorem wr7j {n z j : Nat} (h : n < 70000) (h2 : z < 70000) (hj : 7 + n + z = j) : wrap64 (7 + (n : Int) + (z : Int)) = (j : Int) := by rw [wrap64_id (by omega)]; omega
theorem wJ7j {n z j : Nat} (h : n < 70000) (h2 : z < 70000) (hj : 7 + n + z = j) : IntKind.i64.wrap (7 + (n : Int) + (z : Int)) = (j : Int) := (wJ7z h h2).trans (by omega)
theorem lt65 {n z : Nat} (h : z < 256 ^ (7 + n - (5 + n))) : z < 65536 := by rw [show 7 + n - (5 + n) = 2 by omega] at h; exact h
theorem n256 {n : Nat} (h : n < 2 ^ 8) : n < 70000 := Nat.lt_trans h (by decide)
theorem z65 {n : Nat} (h : n < 65536) : n < 70000 := Nat.lt_trans h (by decide)
theorem wrB {n : Nat} (h : n < 256) : IntKind.i64.wrap (n : Int) = (n : Int) := by simp [IntKind.wrap, IntKind.bits, IntKind.signed]; omega
def RdecOf (l : List UInt8) (w : World) (e : Ending) (w' : World) : Prop := ∃ y cy, e = .returned (.tuple #[aggN 20 (sigV (Ld.dKey l) (Ld.dCh l) y (Ld.dPath l).length cy), .int .i64 (dC l)]) ∧ OwnsW w.heap.size w' y cy (Ld.dPath l) ∧ Below w.heap.size w w'
theorem rdec_any (x : Option Addr) (l : List UInt8) (c : Nat) (w : World) (hx : Bts w x l) : Calls Tryz.prog 35 #[.slice x l.length c] w (RdecOf l w) := by
  unfold RdecOf
  by_cases hd : decN l = true
  · obtain ⟨_, hv, hl⟩ := (Ld.decN_iff l).1 hd
    refine (refDecode_ok x l c w hx hv hl).mono ?_
    rintro e w' ⟨y, cy, rfl, ho, hb⟩
    have e1 : Ld.dKey l = ((l.getD 0 0).toNat : Int) := if_pos hd
    have e2 : Ld.dCh l = Ld.cut18 (fun i => Sgn.wd l (2 + 8 * i) 8) := if_pos hd
    have e3 : Ld.dPath l = Sgn.wds l (l.getD 1 0).toNat := if_pos hd
    have e4 : dC l = 0 := if_pos hd
    rw [e1, e2, e3, e4]
    refine ⟨y, cy, ?_, ho, hb⟩
    rw [Sgn.wds_length]
    refine congrArg (fun v => Ending.returned (.tuple #[v, .int .i64 0])) ?_
    refine aggN_congr fun j hj => ?_
    unfold sigV
    split
    · rfl
    · split
      · rw [Ld.cut18_lt _ _ (by omega)]
      · rfl
  · refine (refDecode_no x l c w hx (by simpa using hd)).mono ?_
    rintro e w' ⟨rfl, hb⟩
    have e1 : Ld.dKey l = 0 := if_neg hd
    have e2 : Ld.dCh l = fun _ => 0#64 := if_neg hd
    have e3 : Ld.dPath l = [] := if_neg hd
    have e4 : dC l = 60 := if_neg hd
    rw [e1, e2, e3, e4]
    exact ⟨none, 0, rfl, World.ownsRow_nil _ _ _ _, hb⟩
theorem Bts.ofs {w : World} {g o : Nat} {l : List UInt8} (h : Bts w (some ⟨g, o, none⟩) l) (k : Nat) : Bts w (some ⟨g, o + k, none⟩) (l.drop k) := by
  have := h.mid k (l.drop k).length
  rwa [List.take_length] at this
theorem rowOf_sm {x : Option Addr} {p : Addr} (h : x = some p) : RowOf x p.block := by subst h; rfl
/-- Bytes of the call's own stay where a software's box is written. -/
theorem OwnsB.aside {B : Nat} {X X' : World} {x : Option Addr} {c : Nat} {l : List UInt8} (h : OwnsB B X x c l) {b : Nat} {s : Ld.Sw} {a : SwA} (g : Blk X b 0 23 (softV s a)) (ht : Turns (fun i => i = b) X X') : Bts X' x l := by
  by_cases h0 : l.length = 0
  · exact .inl (List.eq_nil_of_length_eq_zero h0)
  · obtain ⟨q, rfl⟩ := h.some_of (by omega)
    refine h.bts.turn ht (fun p e k => ?_)
    cases e
    have k' : q = b := k
    subst k'
    obtain ⟨b2, o2, e2, hc⟩ := h.bts.at (by omega)
    cases e2
    have h1 := hc 0 (by omega)
    have h2 := g.name
    rw [Nat.zero_add, h2] at h1
    cases h1

set_option maxHeartbeats 8000000 in
theorem runpack_any (x : Option Addr) (d : List UInt8) (c : Nat) (w : World) (hx : Bts w x d) (hc : d.length ≤ c) (hl : d.length ≤ 50000) : Calls Tryz.prog 11 #[.slice x d.length c] w (RupOf d w) := by
  have HROK := Lib.hid (Ld.rok_iff d)
  have HL := Lib.hid hl
  go_enter Tryz.func11, Tryz.ntmps11
  go_wp2_with (refine wpList_allocTo 2 rfl rfl _ rfl soft_zero ?_; intro X g2 hB hz; refine Hid.out ?_)
  unfold Hid
  try simp only [Act.put, List.setIfInBounds_toArray, List.set_cons_zero, List.set_cons_succ]
  obtain ⟨b2, e2⟩ : ∃ a, w.heap.size = a := ⟨_, rfl⟩
  have s2 : w.heap.size ≤ b2 := by omega
  have hx1 := hx.later hB
  rw [e2] at g2 hz ⊢
  clear e2 hx
  by_cases h1 : d.length < 1
  · have HNO := Lib.hid (un_no (d := d) (fun h => by have := (HROK.out.2 h).1.1; omega))
    obtain ⟨n, hn⟩ : ∃ n, d.length = n := ⟨_, rfl⟩
    rw [hn] at h1 ⊢
    have q1 : decide ((n : Int) < 1) = true := by simp; omega
    have q2 : decide (n < 1) = true := by simp; omega
    clear hn hx1 hc hl h1
    go_wp2_with (refine wpList_storeB rfl rfl _ (.tmp 2) _ rfl (b := b2) (q := 0) rfl (n := 23) (v := softV zSw zA) rfl g2 (fun j _ => soft_one _ _ _) soft_size ?_; intro Y1 t1; refine Hid.out ?_)
    unfold Hid
    have hBE := t1.below w.heap.size w s2 hB
    have l1 := run_loadSw t1.blk
    clear t1 g2 hB
    go_wp2_with fail
    refine bodyPost_ret (v := .tuple #[aggN 23 (softV zSw zA), .int .i64 380]) ?_ rfl ⟨zA, by rw [HNO.out.1, HNO.out.2], by rw [HNO.out.1]; exact zSw_in _, zA_new _, hBE⟩
    rw [results_cell_tmp rfl]
    simp [asAddr, Result.andThen]
    rw [l1]
  obtain ⟨g, o, rfl, hcl⟩ := hx1.at (by omega)
  have k0 := hcl 0 (by omega)
  rw [Nat.add_zero] at k0
  obtain ⟨v0, hv0⟩ : ∃ v, d.getD 0 0 = v := ⟨_, rfl⟩
  have hrn : Ld.rN d = v0.toNat := by unfold Ld.rN; rw [hv0]
  have hvb := v0.toNat_lt
  rw [hv0] at k0
  obtain ⟨n, hn⟩ : ∃ n, v0.toNat = n := ⟨_, rfl⟩
  rw [hn] at k0 hrn hvb
  have HRN := Lib.hid hrn
  obtain ⟨L, hL⟩ : ∃ n, d.length = n := ⟨_, rfl⟩
  have HLL := Lib.hid hL
  rw [hL] at hc hl h1 ⊢
  clear hn hv0 hrn hL
  have q1 : decide ((L : Int) < 1) = false := by simp; omega
  have q2 : decide (L < 1) = false := by simp; omega
  have w0 : IntKind.i64.wrap (n : Int) = (n : Int) := wrB hvb
  by_cases h2 : L < 7 + n
  · have p0 : 0 < L := by omega
    have p0i : (0 : Int) < (L : Int) := by omega
    have HNO := Lib.hid (un_no (d := d) (fun h => by have := (HROK.out.2 h).1.2.1; rw [HRN.out, HLL.out] at this; omega))
    have q3 : decide ((L : Int) < 7 + (n : Int)) = true := by simp; omega
    have w7 : wrap64 (7 + (n : Int)) = 7 + (n : Int) := wr7 (by omega)
    clear hx1 hc hl h1 h2 hcl hvb
    go_wp2_with (refine wpList_storeB rfl rfl _ (.tmp 2) _ rfl (b := b2) (q := 0) rfl (n := 23) (v := softV zSw zA) rfl g2 (fun j _ => soft_one _ _ _) soft_size ?_; intro Y1 t1; refine Hid.out ?_)
    unfold Hid
    have hBE := t1.below w.heap.size w s2 hB
    have l1 := run_loadSw t1.blk
    clear t1 g2 hB
    go_wp2_with fail
    refine bodyPost_ret (v := .tuple #[aggN 23 (softV zSw zA), .int .i64 380]) ?_ rfl ⟨zA, by rw [HNO.out.1, HNO.out.2], by rw [HNO.out.1]; exact zSw_in _, zA_new _, hBE⟩
    rw [results_cell_tmp rfl]
    simp [asAddr, Result.andThen]
    rw [l1]
  have p0 : 0 < L := by omega
  have p0i : (0 : Int) < (L : Int) := by omega
  have q3 : decide ((L : Int) < 7 + (n : Int)) = false := by simp; omega
  have p1 : (0 : Int) ≤ 5 + (n : Int) := by omega
  have p2 : 5 + (n : Int) ≤ 7 + (n : Int) := by omega
  have p3 : 7 + (n : Int) ≤ (c : Int) := by omega
  have HH2 := Lib.hid h2
  clear h2
  have w7 : wrap64 (7 + (n : Int)) = 7 + (n : Int) := wr7 (by omega)
  have w5 : wrap64 (5 + (n : Int)) = 5 + (n : Int) := wr5 (by omega)
  go_wp2_with fail
  have hlen4 : ((d.drop (5 + n)).take 2).length = 7 + n - (5 + n) := by rw [List.length_take, List.length_drop, HLL.out]; have := HH2.out; omega
  have hV := rvalue_any (some ⟨g, o + (5 + n), none⟩) ((d.drop (5 + n)).take 2) (c - (5 + n)) X (hx1.mid (5 + n) 2) (by rw [hlen4]; omega)
  have hzb := Ld.nat_lt ((d.drop (5 + n)).take 2)
  rw [hlen4] at hV hzb
  have hz : Ld.rZ d = Ld.nat ((d.drop (5 + n)).take 2) := by unfold Ld.rZ; rw [HRN.out]
  obtain ⟨z, hze⟩ : ∃ z, Ld.nat ((d.drop (5 + n)).take 2) = z := ⟨_, rfl⟩
  rw [hze] at hV hz hzb
  have HRZ := Lib.hid hz
  replace hzb := lt65 hzb
  clear hlen4 hze hz
  refine hV.mono ?_
  rintro e X1 ⟨rfl, hw⟩
  obtain rfl : X = X1 := hw.symm
  clear hw hV
  clear p1 p2 p3 w5 hcl k0
  obtain ⟨j, hj⟩ : ∃ j, 7 + n + z = j := ⟨_, rfl⟩
  have w7z := wr7j (n256 hvb) (z65 hzb) hj
  have j7z := wJ7j (n256 hvb) (z65 hzb) hj
  have HJ := Lib.hid hj
  clear hj
  by_cases h3 : L < j
  · have HNO := Lib.hid (un_no (d := d) (fun h => by have := (HROK.out.2 h).1.2.2; rw [HRN.out, HRZ.out, HLL.out, HJ.out] at this; omega))
    have q4 : decide ((L : Int) < (j : Int)) = true := by simp; omega
    have q4b : decide (L < j) = true := by simp; omega
    clear hx1 hc hl h1 h3 hvb hzb j7z
    go_wp2_with (refine wpList_storeB rfl rfl _ (.tmp 2) _ rfl (b := b2) (q := 0) rfl (n := 23) (v := softV zSw zA) rfl g2 (fun j _ => soft_one _ _ _) soft_size ?_; intro Y1 t1; refine Hid.out ?_)
    unfold Hid
    have hBE := t1.below w.heap.size w s2 hB
    have l1 := run_loadSw t1.blk
    clear t1 g2 hB
    go_wp2_with fail
    refine bodyPost_ret (v := .tuple #[aggN 23 (softV zSw zA), .int .i64 380]) ?_ rfl ⟨zA, by rw [HNO.out.1, HNO.out.2], by rw [HNO.out.1]; exact zSw_in _, zA_new _, hBE⟩
    rw [results_cell_tmp rfl]
    simp [asAddr, Result.andThen]
    rw [l1]
  have HH3 := Lib.hid (show j ≤ L ∧ L ≤ c by omega)
  have j7 := wJ7 (n := n) (n256 hvb)
  have j1 := wJ1 (n := n) (n256 hvb)
  have j5 := wJ5 (n := n) (n256 hvb)
  have HN256 := Lib.hid hvb
  clear hvb hzb q1 q2 q3 hl
  by_cases hcj : c = j
  · have hLj : L = j := by omega
    subst hLj
    subst hcj
    clear h3 hc h1
    go_wp2_with fail
    have hrr : Ld.rRest d = [] := by unfold Ld.rRest; rw [HRN.out, HRZ.out, HJ.out]; exact List.drop_eq_nil_of_le (Nat.le_of_eq HLL.out)
    have hdec : Calls Tryz.prog 35 #[.slice (some ⟨g, o, none⟩) 0 0] X (RdecOf (Ld.rRest d) X) := by rw [hrr]; exact rdec_any (some ⟨g, o, none⟩) [] 0 X (.inl rfl)
    clear hrr
    refine hdec.mono ?_
    rintro e X2 ⟨xp, cp, rfl, ow, hb⟩
    clear hdec
    replace hx1 := hx1.later hb
    replace g2 := g2.later hb
    have pb := ow.wts
    have lp : ∀ a, xp = some a → w.heap.size ≤ a.block := fun a e => Nat.le_trans hB.size (ow.low a.block (rowOf_sm e)).1
    have NXP : Hid (∀ a, xp = some a → a.block ≠ b2) := fun a e k => Nat.lt_irrefl b2 (Nat.lt_of_lt_of_le (show b2 < X.heap.size by rw [hz]; exact Nat.lt_succ_self _) (k ▸ (ow.low a.block (rowOf_sm e)).1))
    replace hB := hB.trans (hb.mono hB.size)
    clear ow hb
    have HSW : Hid (Ld.rsw d = ⟨(d.drop 1).take n, (Ld.nat ((d.drop (1 + n)).take 4) : Int), (d.drop (7 + n)).take z, Ld.dKey (Ld.rRest d), Ld.dCh (Ld.rRest d), Ld.dPath (Ld.rRest d)⟩) := by show _ = _; unfold Ld.rsw; rw [HRN.out, HRZ.out]
    obtain ⟨rt, hrt⟩ : ∃ r, Ld.rRest d = r := ⟨_, rfl⟩
    have HRT := Lib.hid hrt
    rw [hrt] at pb HSW ⊢
    obtain ⟨ky, hky⟩ : ∃ k, Ld.dKey rt = k := ⟨_, rfl⟩
    obtain ⟨ch, hch⟩ : ∃ k, Ld.dCh rt = k := ⟨_, rfl⟩
    obtain ⟨pp, hpp⟩ : ∃ k, Ld.dPath rt = k := ⟨_, rfl⟩
    rw [hky, hch, hpp] at HSW ⊢
    rw [hpp] at pb
    obtain ⟨code, hcd⟩ : ∃ z, dC rt = z := ⟨_, rfl⟩
    rw [hcd]
    have HCD := Lib.hid hcd
    clear hrt hky hch hpp hcd
    go_wp2_with (refine wpList_allocTo 6 rfl rfl _ rfl sig_zero ?_; intro Xeq0 a_b6 hb0 hz0; refine Hid.out ?_)
    unfold Hid
    try simp only [Act.put, List.setIfInBounds_toArray, List.set_cons_zero, List.set_cons_succ]
    obtain ⟨b6, e_b6⟩ : ∃ a, X2.heap.size = a := ⟨_, rfl⟩
    have s_b6 : X2.heap.size ≤ b6 := by omega
    have hb := hb0
    rw [e_b6] at a_b6 hz0 ⊢
    clear hb0
    have hz : b6 < Xeq0.heap.size := by omega
    clear e_b6 hz0
    go_wp2_with (refine wpList_storeB rfl rfl _ (.tmp 6) _ rfl (b := b6) (q := 0) rfl (n := 20) (v := sigV ky ch xp pp.length cp) rfl a_b6 (fun j _ => sig_one _ _ _ _ _ j) sig_size ?_; intro Yeq0 t1; refine Hid.out ?_)
    unfold Hid
    replace hb := t1.below _ _ (by omega) hb
    replace a_b6 := t1.blk
    rw [← t1.size] at hz
    clear t1
    replace hx1 := hx1.later hb
    replace g2 := g2.later hb
    replace pb := pb.later hb
    replace hB := hB.trans (hb.mono hB.size)
    clear hb hz
    clear s_b6
    have H6 := Lib.hid a_b6
    have z6 : b6 < Yeq0.heap.size := World.block_lt_of_cell? _ _ (a_b6.at 0 (by decide)).1
    clear a_b6
    go_wp2_with fail
    obtain ⟨NH, hNH⟩ : ∃ n, Yeq0.heap.size = n := ⟨_, rfl⟩
    have HNH := Lib.hid hNH
    have z6N : b6 < NH := hNH ▸ z6
    have z2N : b2 < NH := hNH ▸ World.block_lt_of_cell? _ _ (g2.at 0 (by decide)).1
    have zgN : d.length ≠ 0 → g < NH := fun h0 => by
      obtain ⟨b, o2, e, hc⟩ := hx1.at (Nat.pos_of_ne_zero h0)
      cases e
      rw [← hNH]
      exact World.block_lt_of_cell? _ _ (hc 0 (Nat.pos_of_ne_zero h0))
    clear hNH z6
    have HX1 := Lib.hid hx1
    have hnl := HLL.out
    have hj1 := HJ.out
    have hj2 := HH3.out
    have hj3 := HH2.out
    have hn8 := HN256.out
    have ln : ((d.drop 1).take n).length = n := by rw [List.length_take, List.length_drop, hnl]; clear w0 w7 w7z j7 j1 j5 j7z; omega
    have li : ((d.drop (7 + n)).take z).length = z := by rw [List.length_take, List.length_drop, hnl]; clear w0 w7 w7z j7 j1 j5 j7z; omega
    have l4 : ((d.drop (1 + n)).take 4).length = 4 := by rw [List.length_take, List.length_drop, hnl]; clear w0 w7 w7z j7 j1 j5 j7z; omega
    have HV3 := fun (W : World) (hW : Bts W (some ⟨g, o, none⟩) d) => rvalue_any (subA (some ⟨g, o, none⟩) c (1 + n)) ((d.drop (1 + n)).take 4) (c - (1 + n)) W ((hW.sub (c := c) (by rw [hnl]; clear w0 w7 w7z j7 j1 j5 j7z; omega) (1 + n)).take 4) (Nat.le_of_eq l4)
    simp only [l4] at HV3
    have HIB := fun (W : World) (hW : Bts W (some ⟨g, o, none⟩) d) => (hW.sub (c := c) (by rw [hnl]; clear w0 w7 w7z j7 j1 j5 j7z; omega) (7 + n)).take z
    have HR4 := fun (W : World) (hW : Bts W (some ⟨g, o, none⟩) d) => conv_B (B := NH) ((hW.sub (c := c) (by rw [hnl]; clear w0 w7 w7z j7 j1 j5 j7z; omega) 1).take n) (fun a e => by
      obtain ⟨q, e1, e2⟩ := subA_blk e
      cases e1
      rw [← e2]
      exact zgN (by rw [hnl]; exact Nat.pos_iff_ne_zero.1 p0)) n (c - 1) ln
    obtain ⟨nm, hnm⟩ : ∃ l, (d.drop 1).take n = l := ⟨_, rfl⟩
    obtain ⟨im, him⟩ : ∃ l, (d.drop (7 + n)).take z = l := ⟨_, rfl⟩
    obtain ⟨v, hv⟩ : ∃ l, Ld.nat ((d.drop (1 + n)).take 4) = l := ⟨_, rfl⟩
    rw [hnm, him, hv] at HSW
    rw [him] at li
    simp only [him] at HIB
    simp only [hnm] at HR4
    simp only [hv] at HV3
    have HIM := Lib.hid li
    have HIL : Hid (([] : List UInt8).length + im.length ≤ 10000000) := by show _ ≤ _; rw [li]; simp; clear w0 w7 w7z j7 j1 j5 j7z; have := HL.out; omega
    have E1 := Lib.hid (show 1 + (n : Int) = ((1 + n : Nat) : Int) by simp)
    have E5 := Lib.hid (show 5 + (n : Int) = ((1 + n + 4 : Nat) : Int) by clear w0 w7 w7z j7 j1 j5 j7z; omega)
    have E7 := Lib.hid (show 7 + (n : Int) = ((7 + n : Nat) : Int) by simp)
    have EJ : Hid ((c : Int) = ((7 + n + z : Nat) : Int)) := by show _ = _; rw [hj1]
    have HC1 := Lib.hid (show 1 + n ≤ c by clear w0 w7 w7z j7 j1 j5 j7z; omega)
    have HC2 := Lib.hid (show 1 + n + 4 ≤ c by clear w0 w7 w7z j7 j1 j5 j7z; omega)
    have HC3 := Lib.hid (show 7 + n + z ≤ c by clear w0 w7 w7z j7 j1 j5 j7z; omega)
    have HRL : Hid (Ld.rLong d) := by show _ ∧ _; rw [HRN.out, HRZ.out]; clear w0 w7 w7z j7 j1 j5 j7z; omega
    clear hnl hj1 hj2 hj3 hn8 ln li l4 hnm him hv zgN hx1
    refine wp_cutN (fun a' X => ∃ (xu : Option Addr) (cu b8 : Nat), Bts X xu im ∧ (xu = none → cu = 0) ∧ (∀ p, xu = some p → NH ≤ p.block) ∧ Blk X b8 0 23 (softV (⟨nm, (v : Int), im, ky, ch, pp⟩ : Ld.Sw) ⟨xu, cu, xp, cp⟩) ∧ Below NH Yeq0 X ∧ ∃ u : Nat → Value, a' = { tmps := #[.slice (some ⟨g, o, none⟩) c c, u 1, .pointer (some ⟨b2, 0, none⟩), u 3, u 4, u 5, u 6, .int .i64 code, .pointer (some ⟨b8, 0, none⟩), u 9, u 10, u 11, u 12, u 13, u 14, u 15, u 16, u 17, u 18, u 19, u 20, u 21, u 22, u 23, u 24, u 25, u 26, u 27, u 28, u 29, u 30, u 31, u 32, u 33, u 34, u 35, u 36, u 37, u 38, u 39, u 40, u 41, u 42, u 43, u 44, u 45, u 46, u 47, u 48, u 49, u 50, u 51, u 52, u 53, u 54, u 55, u 56, u 57, u 58, u 59, u 60, u 61, u 62, u 63, u 64, u 65, u 66, u 67, u 68, u 69, u 70, u 71, u 72, u 73, u 74, u 75, u 76, u 77, u 78, u 79, u 80, u 81, u 82, u 83, u 84, u 85, u 86, u 87, u 88, u 89, u 90, u 91], defers := [] }) ?_ ?_
    · clear g2 pb
      refine wp_region_schedB (B := NH) (fun X8 => Below NH Yeq0 X8 ∧ NH ≤ X8.heap.size) (.three [0, 1, 2, 3, 4, 5, 6, 7, 8, 9, 10, 13, 14, 15, 16, 17, 18, 19, 20, 22] 11 (.two [] 12 (.two [] 21 (.one [23] 24 (.one [] 25 (.done []))) 24 (.one [] 21 (.one [23] 25 (.done [])))) 24 (.one [] 12 (.one [] 21 (.one [23] 25 (.done []))))) 12 (.two [] 11 (.two [] 21 (.one [23] 24 (.one [] 25 (.done []))) 24 (.one [] 21 (.one [23] 25 (.done [])))) 24 (.one [] 11 (.one [] 21 (.one [23] 25 (.done []))))) 24 (.two [] 11 (.one [] 12 (.one [] 21 (.one [23] 25 (.done [])))) 12 (.one [] 11 (.one [] 21 (.one [23] 25 (.done [])))))) (by kernel_rfl) (by kernel_rfl) (fun _ _ _ _ _ h => h) ⟨(Below.refl _ _).drew, Nat.le_of_eq HNH.out.symm⟩ ?_
      rintro X8 ⟨hN, hZ⟩
      rw [wpSchedB]
      simp only [pick, List.map_cons, List.map_nil, Array.getD_eq_getD_getElem?, List.getElem?_toArray, List.getElem?_cons_succ, List.getElem?_cons_zero, Option.getD_some]
      have hY8 : Below Yeq0.heap.size Yeq0 X8 := by rw [HNH.out]; exact hN
      have r22 := loadN_B (B := NH) (t := 27) (H6.out.later hY8) z6N (fun X h => run_loadSg h)
      have r4 := HR4 X8 (HX1.out.later hY8)
      iterate 3 (first | go_big_quiet_step (fail) | quiet_step (fail))
      (refine wpQuiet_subLH (by rfl) (.tmp 52) (.const (.int .i64 1)) (.tmp 54) rfl (x := (some ⟨g, o, none⟩)) (n := c) (c := c) rfl 1 n rfl rfl rfl E1.out HC1.out ?_; try simp only [Act.put, List.setIfInBounds_toArray, List.set_cons_zero, List.set_cons_succ])
      (refine wpQuiet_conv (by rfl) _ _ (.tmp 55) rfl (u := .slice (subA (some ⟨g, o, none⟩) c 1) n (c - 1)) rfl r4 ?_; try simp only [Act.put, List.setIfInBounds_toArray, List.set_cons_zero, List.set_cons_succ])
      iterate 5 (first | go_big_quiet_step (fail) | quiet_step (fail))
      (refine wpQuiet_subLH (by rfl) (.tmp 57) (.tmp 59) (.tmp 61) rfl (x := (some ⟨g, o, none⟩)) (n := c) (c := c) rfl (1 + n) 4 rfl rfl E1.out E5.out HC2.out ?_; try simp only [Act.put, List.setIfInBounds_toArray, List.set_cons_zero, List.set_cons_succ])
      iterate 7 (first | go_big_quiet_step (fail) | quiet_step (fail))
      (refine wpQuiet_subLH (by rfl) (.tmp 65) (.tmp 67) (.tmp 71) rfl (x := (some ⟨g, o, none⟩)) (n := c) (c := c) rfl (7 + n) z rfl rfl E7.out EJ.out HC3.out ?_; try simp only [Act.put, List.setIfInBounds_toArray, List.set_cons_zero, List.set_cons_succ])
      (refine wpQuiet_loadN rfl _ (.tmp 6) rfl (b := b6) (q := 0) rfl r22 ?_; try simp only [Act.put, List.setIfInBounds_toArray, List.set_cons_zero, List.set_cons_succ])
      refine wpQuiet_nil ?_
      clear r22 r4 hY8
      refine ⟨?_, ?_, ?_⟩
      · refine heavyB_want (by rfl) (fun K' hK' => ?_)
        go_simp
        refine (HV3 _ (HX1.out.later (by rw [HNH.out]; exact hN))).mono ?_
        rintro e X8v1 ⟨rfl, hw⟩
        obtain rfl : X8 = X8v1 := hw.symm
        refine hK' _ _ (Below.refl _ _) ?_
        clear hK' K' hw
        try simp only [Act.put, List.setIfInBounds_toArray, List.set_cons_zero, List.set_cons_succ]
        rw [wpSchedB]
        simp only [pick, List.map_nil, Array.getD_eq_getD_getElem?, List.getElem?_toArray, List.getElem?_cons_succ, List.getElem?_cons_zero, Option.getD_some]
        refine wpQuiet_nil ?_
        refine ⟨?_, ?_⟩
        · refine heavyB_want (by rfl) (fun K' hK' => ?_)
          go_simp
          refine hK' _ _ ((Below.refl _ _).alloc hZ _) ?_
          clear hK' K'
          obtain ⟨X8n2, hXn⟩ : ∃ Y, X8.alloc (.cells #[] 5) = Y := ⟨_, rfl⟩
          have hq : Below X8.heap.size X8 X8n2 := by rw [← hXn]; exact al (Below.refl _ _) _
          have hz0 : OwnsB NH X8n2 (some ⟨X8.heap.size, 0, none⟩) 0 [] := by rw [← hXn]; exact OwnsB.made' _ _ _ hZ rfl
          rw [hXn]
          replace hN := hN.trans (hq.mono hZ)
          obtain ⟨bz, hbz⟩ : ∃ b, X8.heap.size = b := ⟨_, rfl⟩
          rw [hbz] at hz0 ⊢
          replace hZ := Nat.le_trans hZ hq.size
          clear hbz hXn hq
          try simp only [Act.put, List.setIfInBounds_toArray, List.set_cons_zero, List.set_cons_succ]
          rw [wpSchedB]
          simp only [pick, List.map_nil, Array.getD_eq_getD_getElem?, List.getElem?_toArray, List.getElem?_cons_succ, List.getElem?_cons_zero, Option.getD_some]
          refine wpQuiet_nil ?_
          refine ⟨?_, ?_⟩
          · refine heavyB_want (by rfl) (fun K' hK' => ?_)
            refine wp_app (.tmp 64) (.tmp 72) rfl (B := NH) (l := []) hz0 rfl (y := subA (some ⟨g, o, none⟩) c (7 + n)) (m := im) (c := c - (7 + n)) (by rw [HIM.out]; rfl) (HIB _ (HX1.out.later (by rw [HNH.out]; exact hN))) (fun e => by have := subA_none e; cases this) HIL.out (List.nil_append _) hZ (fun xu cu X8p3 hu hq ht => hK' _ _ hq ?_)
            clear hK' K'
            replace hN := hN.trans hq
            replace hZ := Nat.le_trans hZ hq.size
            clear hz0 hq ht
            try simp only [Act.put, List.setIfInBounds_toArray, List.set_cons_zero, List.set_cons_succ]
            rw [wpSchedB]
            simp only [pick, List.map_cons, List.map_nil, Array.getD_eq_getD_getElem?, List.getElem?_toArray, List.getElem?_cons_succ, List.getElem?_cons_zero, Option.getD_some]
            (refine wpQuiet_build4 (by rfl) _ (.tmp 56) (.tmp 63) (.tmp 73) (.tmp 74) rfl rfl rfl rfl rfl (built_soft (⟨nm, (v : Int), im, ky, ch, pp⟩ : Ld.Sw) ⟨xu, cu, xp, cp⟩) ?_; try simp only [Act.put, List.setIfInBounds_toArray, List.set_cons_zero, List.set_cons_succ])
            refine wpQuiet_nil ?_
            refine heavyB_want (by rfl) (fun K' hK' => ?_)
            refine wp_allocAt _ rfl soft_zero ?_
            intro X8a4 g8 hq hsz
            refine hK' _ _ (hq.mono hZ) ?_
            clear hK' K' hsz
            replace hu := hu.later hq
            have hb8N := hZ
            replace hN := hN.trans (hq.mono hZ)
            replace hZ := Nat.le_trans hZ hq.size
            clear hq
            obtain ⟨b8, hb8⟩ : ∃ b, X8p3.heap.size = b := ⟨_, rfl⟩
            rw [hb8] at g8 hb8N ⊢
            clear hb8
            try simp only [Act.put, List.setIfInBounds_toArray, List.set_cons_zero, List.set_cons_succ]
            rw [wpSchedB]
            simp only [pick, List.map_nil, Array.getD_eq_getD_getElem?, List.getElem?_toArray, List.getElem?_cons_succ, List.getElem?_cons_zero, Option.getD_some]
            refine wpQuiet_nil ?_
            refine heavyB_want (by rfl) (fun K' hK' => ?_)
            refine wp_storeAt rfl _ (.tmp 8) (.tmp 75) rfl (b := b8) (q := 0) rfl (v := softV (⟨nm, (v : Int), im, ky, ch, pp⟩ : Ld.Sw) ⟨xu, cu, xp, cp⟩) rfl g8 (fun j _ => soft_one _ _ _) soft_size ?_
            intro X8s5 u8
            refine hK' _ _ (u8.below NH _ hb8N (Below.refl _ _)) ?_
            clear hK' K'
            have hu' := hu.aside g8 (u8.turns (fun b => b = b8) _ (fun _ => rfl) (Turns.refl _ _))
            have hun := hu.none_cap
            have hul := fun (p : Addr) (e : xu = some p) => (hu.low p.block (rowOf_sm e)).1
            replace g8 := u8.blk
            replace hN := hN.trans (u8.below NH _ hb8N (Below.refl _ _))
            clear u8 hu hZ hb8N
            try simp only [Act.put, List.setIfInBounds_toArray, List.set_cons_zero, List.set_cons_succ]
            rw [wpSchedB]
            simp only [List.map_nil]
            refine wpQuiet_nil ?_
            exact NormQ.mk ⟨xu, cu, b8, hu', hun, hul, g8, hN, ex_frame (by kernel_rfl)⟩
          · refine heavyB_want (by rfl) (fun K' hK' => ?_)
            refine wp_allocAt _ rfl soft_zero ?_
            intro X8a3 g8 hq hsz
            refine hK' _ _ (hq.mono hZ) ?_
            clear hK' K' hsz
            have nb : X8n2.heap.size ≠ bz := fun e => Nat.lt_irrefl _ (e ▸ (hz0.low bz rfl).2)
            replace hz0 := hz0.later hq
            have hb8N := hZ
            replace hN := hN.trans (hq.mono hZ)
            replace hZ := Nat.le_trans hZ hq.size
            clear hq
            obtain ⟨b8, hb8⟩ : ∃ b, X8n2.heap.size = b := ⟨_, rfl⟩
            rw [hb8] at g8 hb8N nb ⊢
            clear hb8
            try simp only [Act.put, List.setIfInBounds_toArray, List.set_cons_zero, List.set_cons_succ]
            rw [wpSchedB]
            simp only [pick, List.map_nil, Array.getD_eq_getD_getElem?, List.getElem?_toArray, List.getElem?_cons_succ, List.getElem?_cons_zero, Option.getD_some]
            refine wpQuiet_nil ?_
            refine heavyB_want (by rfl) (fun K' hK' => ?_)
            refine wp_app (.tmp 64) (.tmp 72) rfl (B := NH) (l := []) hz0 rfl (y := subA (some ⟨g, o, none⟩) c (7 + n)) (m := im) (c := c - (7 + n)) (by rw [HIM.out]; rfl) (HIB _ (HX1.out.later (by rw [HNH.out]; exact hN))) (fun e => by have := subA_none e; cases this) HIL.out (List.nil_append _) hZ (fun xu cu X8p4 hu hq ht => hK' _ _ hq ?_)
            clear hK' K'
            replace g8 := g8.turn ht (fun e => nb (Option.some.inj e).symm)
            clear nb
            replace hN := hN.trans hq
            replace hZ := Nat.le_trans hZ hq.size
            clear hz0 hq ht
            try simp only [Act.put, List.setIfInBounds_toArray, List.set_cons_zero, List.set_cons_succ]
            rw [wpSchedB]
            simp only [pick, List.map_cons, List.map_nil, Array.getD_eq_getD_getElem?, List.getElem?_toArray, List.getElem?_cons_succ, List.getElem?_cons_zero, Option.getD_some]
            (refine wpQuiet_build4 (by rfl) _ (.tmp 56) (.tmp 63) (.tmp 73) (.tmp 74) rfl rfl rfl rfl rfl (built_soft (⟨nm, (v : Int), im, ky, ch, pp⟩ : Ld.Sw) ⟨xu, cu, xp, cp⟩) ?_; try simp only [Act.put, List.setIfInBounds_toArray, List.set_cons_zero, List.set_cons_succ])
            refine wpQuiet_nil ?_
            refine heavyB_want (by rfl) (fun K' hK' => ?_)
            refine wp_storeAt rfl _ (.tmp 8) (.tmp 75) rfl (b := b8) (q := 0) rfl (v := softV (⟨nm, (v : Int), im, ky, ch, pp⟩ : Ld.Sw) ⟨xu, cu, xp, cp⟩) rfl g8 (fun j _ => soft_one _ _ _) soft_size ?_
            intro X8s5 u8
            refine hK' _ _ (u8.below NH _ hb8N (Below.refl _ _)) ?_
            clear hK' K'
            have hu' := hu.aside g8 (u8.turns (fun b => b = b8) _ (fun _ => rfl) (Turns.refl _ _))
            have hun := hu.none_cap
            have hul := fun (p : Addr) (e : xu = some p) => (hu.low p.block (rowOf_sm e)).1
            replace g8 := u8.blk
            replace hN := hN.trans (u8.below NH _ hb8N (Below.refl _ _))
            clear u8 hu hZ hb8N
            try simp only [Act.put, List.setIfInBounds_toArray, List.set_cons_zero, List.set_cons_succ]
            rw [wpSchedB]
            simp only [List.map_nil]
            refine wpQuiet_nil ?_
            exact NormQ.mk ⟨xu, cu, b8, hu', hun, hul, g8, hN, ex_frame (by kernel_rfl)⟩
        · refine heavyB_want (by rfl) (fun K' hK' => ?_)
          refine wp_allocAt _ rfl soft_zero ?_
          intro X8a2 g8 hq hsz
          refine hK' _ _ (hq.mono hZ) ?_
          clear hK' K' hsz
          have hb8N := hZ
          replace hN := hN.trans (hq.mono hZ)
          replace hZ := Nat.le_trans hZ hq.size
          clear hq
          obtain ⟨b8, hb8⟩ : ∃ b, X8.heap.size = b := ⟨_, rfl⟩
          rw [hb8] at g8 hb8N ⊢
          clear hb8
          try simp only [Act.put, List.setIfInBounds_toArray, List.set_cons_zero, List.set_cons_succ]
          rw [wpSchedB]
          simp only [pick, List.map_nil, Array.getD_eq_getD_getElem?, List.getElem?_toArray, List.getElem?_cons_succ, List.getElem?_cons_zero, Option.getD_some]
          refine wpQuiet_nil ?_
          refine heavyB_want (by rfl) (fun K' hK' => ?_)
          go_simp
          refine hK' _ _ ((Below.refl _ _).alloc hZ _) ?_
          clear hK' K'
          obtain ⟨X8n3, hXn⟩ : ∃ Y, X8a2.alloc (.cells #[] 5) = Y := ⟨_, rfl⟩
          have hq : Below X8a2.heap.size X8a2 X8n3 := by rw [← hXn]; exact al (Below.refl _ _) _
          have hz0 : OwnsB NH X8n3 (some ⟨X8a2.heap.size, 0, none⟩) 0 [] := by rw [← hXn]; exact OwnsB.made' _ _ _ hZ rfl
          have nb : b8 ≠ X8a2.heap.size := Nat.ne_of_lt (World.block_lt_of_cell? _ _ (g8.at 0 (by decide)).1)
          replace g8 := g8.later hq
          rw [hXn]
          replace hN := hN.trans (hq.mono hZ)
          obtain ⟨bz, hbz⟩ : ∃ b, X8a2.heap.size = b := ⟨_, rfl⟩
          rw [hbz] at hz0 nb ⊢
          replace hZ := Nat.le_trans hZ hq.size
          clear hbz hXn hq
          try simp only [Act.put, List.setIfInBounds_toArray, List.set_cons_zero, List.set_cons_succ]
          rw [wpSchedB]
          simp only [pick, List.map_nil, Array.getD_eq_getD_getElem?, List.getElem?_toArray, List.getElem?_cons_succ, List.getElem?_cons_zero, Option.getD_some]
          refine wpQuiet_nil ?_
          refine heavyB_want (by rfl) (fun K' hK' => ?_)
          refine wp_app (.tmp 64) (.tmp 72) rfl (B := NH) (l := []) hz0 rfl (y := subA (some ⟨g, o, none⟩) c (7 + n)) (m := im) (c := c - (7 + n)) (by rw [HIM.out]; rfl) (HIB _ (HX1.out.later (by rw [HNH.out]; exact hN))) (fun e => by have := subA_none e; cases this) HIL.out (List.nil_append _) hZ (fun xu cu X8p4 hu hq ht => hK' _ _ hq ?_)
          clear hK' K'
          replace g8 := g8.turn ht (fun e => nb (Option.some.inj e).symm)
          clear nb
          replace hN := hN.trans hq
          replace hZ := Nat.le_trans hZ hq.size
          clear hz0 hq ht
          try simp only [Act.put, List.setIfInBounds_toArray, List.set_cons_zero, List.set_cons_succ]
          rw [wpSchedB]
          simp only [pick, List.map_cons, List.map_nil, Array.getD_eq_getD_getElem?, List.getElem?_toArray, List.getElem?_cons_succ, List.getElem?_cons_zero, Option.getD_some]
          (refine wpQuiet_build4 (by rfl) _ (.tmp 56) (.tmp 63) (.tmp 73) (.tmp 74) rfl rfl rfl rfl rfl (built_soft (⟨nm, (v : Int), im, ky, ch, pp⟩ : Ld.Sw) ⟨xu, cu, xp, cp⟩) ?_; try simp only [Act.put, List.setIfInBounds_toArray, List.set_cons_zero, List.set_cons_succ])
          refine wpQuiet_nil ?_
          refine heavyB_want (by rfl) (fun K' hK' => ?_)
          refine wp_storeAt rfl _ (.tmp 8) (.tmp 75) rfl (b := b8) (q := 0) rfl (v := softV (⟨nm, (v : Int), im, ky, ch, pp⟩ : Ld.Sw) ⟨xu, cu, xp, cp⟩) rfl g8 (fun j _ => soft_one _ _ _) soft_size ?_
          intro X8s5 u8
          refine hK' _ _ (u8.below NH _ hb8N (Below.refl _ _)) ?_
          clear hK' K'
          have hu' := hu.aside g8 (u8.turns (fun b => b = b8) _ (fun _ => rfl) (Turns.refl _ _))
          have hun := hu.none_cap
          have hul := fun (p : Addr) (e : xu = some p) => (hu.low p.block (rowOf_sm e)).1
          replace g8 := u8.blk
          replace hN := hN.trans (u8.below NH _ hb8N (Below.refl _ _))
          clear u8 hu hZ hb8N
          try simp only [Act.put, List.setIfInBounds_toArray, List.set_cons_zero, List.set_cons_succ]
          rw [wpSchedB]
          simp only [List.map_nil]
          refine wpQuiet_nil ?_
          exact NormQ.mk ⟨xu, cu, b8, hu', hun, hul, g8, hN, ex_frame (by kernel_rfl)⟩
      · refine heavyB_want (by rfl) (fun K' hK' => ?_)
        go_simp
        refine hK' _ _ ((Below.refl _ _).alloc hZ _) ?_
        clear hK' K'
        obtain ⟨X8n1, hXn⟩ : ∃ Y, X8.alloc (.cells #[] 5) = Y := ⟨_, rfl⟩
        have hq : Below X8.heap.size X8 X8n1 := by rw [← hXn]; exact al (Below.refl _ _) _
        have hz0 : OwnsB NH X8n1 (some ⟨X8.heap.size, 0, none⟩) 0 [] := by rw [← hXn]; exact OwnsB.made' _ _ _ hZ rfl
        rw [hXn]
        replace hN := hN.trans (hq.mono hZ)
        obtain ⟨bz, hbz⟩ : ∃ b, X8.heap.size = b := ⟨_, rfl⟩
        rw [hbz] at hz0 ⊢
        replace hZ := Nat.le_trans hZ hq.size
        clear hbz hXn hq
        try simp only [Act.put, List.setIfInBounds_toArray, List.set_cons_zero, List.set_cons_succ]
        rw [wpSchedB]
        simp only [pick, List.map_nil, Array.getD_eq_getD_getElem?, List.getElem?_toArray, List.getElem?_cons_succ, List.getElem?_cons_zero, Option.getD_some]
        refine wpQuiet_nil ?_
        refine ⟨?_, ?_⟩
        · refine heavyB_want (by rfl) (fun K' hK' => ?_)
          go_simp
          refine (HV3 _ (HX1.out.later (by rw [HNH.out]; exact hN))).mono ?_
          rintro e X8v2 ⟨rfl, hw⟩
          obtain rfl : X8n1 = X8v2 := hw.symm
          refine hK' _ _ (Below.refl _ _) ?_
          clear hK' K' hw
          try simp only [Act.put, List.setIfInBounds_toArray, List.set_cons_zero, List.set_cons_succ]
          rw [wpSchedB]
          simp only [pick, List.map_nil, Array.getD_eq_getD_getElem?, List.getElem?_toArray, List.getElem?_cons_succ, List.getElem?_cons_zero, Option.getD_some]
          refine wpQuiet_nil ?_
          refine ⟨?_, ?_⟩
          · refine heavyB_want (by rfl) (fun K' hK' => ?_)
            refine wp_app (.tmp 64) (.tmp 72) rfl (B := NH) (l := []) hz0 rfl (y := subA (some ⟨g, o, none⟩) c (7 + n)) (m := im) (c := c - (7 + n)) (by rw [HIM.out]; rfl) (HIB _ (HX1.out.later (by rw [HNH.out]; exact hN))) (fun e => by have := subA_none e; cases this) HIL.out (List.nil_append _) hZ (fun xu cu X8p3 hu hq ht => hK' _ _ hq ?_)
            clear hK' K'
            replace hN := hN.trans hq
            replace hZ := Nat.le_trans hZ hq.size
            clear hz0 hq ht
            try simp only [Act.put, List.setIfInBounds_toArray, List.set_cons_zero, List.set_cons_succ]
            rw [wpSchedB]
            simp only [pick, List.map_cons, List.map_nil, Array.getD_eq_getD_getElem?, List.getElem?_toArray, List.getElem?_cons_succ, List.getElem?_cons_zero, Option.getD_some]
            (refine wpQuiet_build4 (by rfl) _ (.tmp 56) (.tmp 63) (.tmp 73) (.tmp 74) rfl rfl rfl rfl rfl (built_soft (⟨nm, (v : Int), im, ky, ch, pp⟩ : Ld.Sw) ⟨xu, cu, xp, cp⟩) ?_; try simp only [Act.put, List.setIfInBounds_toArray, List.set_cons_zero, List.set_cons_succ])
            refine wpQuiet_nil ?_
            refine heavyB_want (by rfl) (fun K' hK' => ?_)
            refine wp_allocAt _ rfl soft_zero ?_
            intro X8a4 g8 hq hsz
            refine hK' _ _ (hq.mono hZ) ?_
            clear hK' K' hsz
            replace hu := hu.later hq
            have hb8N := hZ
            replace hN := hN.trans (hq.mono hZ)
            replace hZ := Nat.le_trans hZ hq.size
            clear hq
            obtain ⟨b8, hb8⟩ : ∃ b, X8p3.heap.size = b := ⟨_, rfl⟩
            rw [hb8] at g8 hb8N ⊢
            clear hb8
            try simp only [Act.put, List.setIfInBounds_toArray, List.set_cons_zero, List.set_cons_succ]
            rw [wpSchedB]
            simp only [pick, List.map_nil, Array.getD_eq_getD_getElem?, List.getElem?_toArray, List.getElem?_cons_succ, List.getElem?_cons_zero, Option.getD_some]
            refine wpQuiet_nil ?_
            refine heavyB_want (by rfl) (fun K' hK' => ?_)
            refine wp_storeAt rfl _ (.tmp 8) (.tmp 75) rfl (b := b8) (q := 0) rfl (v := softV (⟨nm, (v : Int), im, ky, ch, pp⟩ : Ld.Sw) ⟨xu, cu, xp, cp⟩) rfl g8 (fun j _ => soft_one _ _ _) soft_size ?_
            intro X8s5 u8
            refine hK' _ _ (u8.below NH _ hb8N (Below.refl _ _)) ?_
            clear hK' K'
            have hu' := hu.aside g8 (u8.turns (fun b => b = b8) _ (fun _ => rfl) (Turns.refl _ _))
            have hun := hu.none_cap
            have hul := fun (p : Addr) (e : xu = some p) => (hu.low p.block (rowOf_sm e)).1
            replace g8 := u8.blk
            replace hN := hN.trans (u8.below NH _ hb8N (Below.refl _ _))
            clear u8 hu hZ hb8N
            try simp only [Act.put, List.setIfInBounds_toArray, List.set_cons_zero, List.set_cons_succ]
            rw [wpSchedB]
            simp only [List.map_nil]
            refine wpQuiet_nil ?_
            exact NormQ.mk ⟨xu, cu, b8, hu', hun, hul, g8, hN, ex_frame (by kernel_rfl)⟩
          · refine heavyB_want (by rfl) (fun K' hK' => ?_)
            refine wp_allocAt _ rfl soft_zero ?_
            intro X8a3 g8 hq hsz
            refine hK' _ _ (hq.mono hZ) ?_
            clear hK' K' hsz
            have nb : X8n1.heap.size ≠ bz := fun e => Nat.lt_irrefl _ (e ▸ (hz0.low bz rfl).2)
            replace hz0 := hz0.later hq
            have hb8N := hZ
            replace hN := hN.trans (hq.mono hZ)
            replace hZ := Nat.le_trans hZ hq.size
            clear hq
            obtain ⟨b8, hb8⟩ : ∃ b, X8n1.heap.size = b := ⟨_, rfl⟩
            rw [hb8] at g8 hb8N nb ⊢
            clear hb8
            try simp only [Act.put, List.setIfInBounds_toArray, List.set_cons_zero, List.set_cons_succ]
            rw [wpSchedB]
            simp only [pick, List.map_nil, Array.getD_eq_getD_getElem?, List.getElem?_toArray, List.getElem?_cons_succ, List.getElem?_cons_zero, Option.getD_some]
            refine wpQuiet_nil ?_
            refine heavyB_want (by rfl) (fun K' hK' => ?_)
            refine wp_app (.tmp 64) (.tmp 72) rfl (B := NH) (l := []) hz0 rfl (y := subA (some ⟨g, o, none⟩) c (7 + n)) (m := im) (c := c - (7 + n)) (by rw [HIM.out]; rfl) (HIB _ (HX1.out.later (by rw [HNH.out]; exact hN))) (fun e => by have := subA_none e; cases this) HIL.out (List.nil_append _) hZ (fun xu cu X8p4 hu hq ht => hK' _ _ hq ?_)
            clear hK' K'
            replace g8 := g8.turn ht (fun e => nb (Option.some.inj e).symm)
            clear nb
            replace hN := hN.trans hq
            replace hZ := Nat.le_trans hZ hq.size
            clear hz0 hq ht
            try simp only [Act.put, List.setIfInBounds_toArray, List.set_cons_zero, List.set_cons_succ]
            rw [wpSchedB]
            simp only [pick, List.map_cons, List.map_nil, Array.getD_eq_getD_getElem?, List.getElem?_toArray, List.getElem?_cons_succ, List.getElem?_cons_zero, Option.getD_some]
            (refine wpQuiet_build4 (by rfl) _ (.tmp 56) (.tmp 63) (.tmp 73) (.tmp 74) rfl rfl rfl rfl rfl (built_soft (⟨nm, (v : Int), im, ky, ch, pp⟩ : Ld.Sw) ⟨xu, cu, xp, cp⟩) ?_; try simp only [Act.put, List.setIfInBounds_toArray, List.set_cons_zero, List.set_cons_succ])
            refine wpQuiet_nil ?_
            refine heavyB_want (by rfl) (fun K' hK' => ?_)
            refine wp_storeAt rfl _ (.tmp 8) (.tmp 75) rfl (b := b8) (q := 0) rfl (v := softV (⟨nm, (v : Int), im, ky, ch, pp⟩ : Ld.Sw) ⟨xu, cu, xp, cp⟩) rfl g8 (fun j _ => soft_one _ _ _) soft_size ?_
            intro X8s5 u8
            refine hK' _ _ (u8.below NH _ hb8N (Below.refl _ _)) ?_
            clear hK' K'
            have hu' := hu.aside g8 (u8.turns (fun b => b = b8) _ (fun _ => rfl) (Turns.refl _ _))
            have hun := hu.none_cap
            have hul := fun (p : Addr) (e : xu = some p) => (hu.low p.block (rowOf_sm e)).1
            replace g8 := u8.blk
            replace hN := hN.trans (u8.below NH _ hb8N (Below.refl _ _))
            clear u8 hu hZ hb8N
            try simp only [Act.put, List.setIfInBounds_toArray, List.set_cons_zero, List.set_cons_succ]
            rw [wpSchedB]
            simp only [List.map_nil]
            refine wpQuiet_nil ?_
            exact NormQ.mk ⟨xu, cu, b8, hu', hun, hul, g8, hN, ex_frame (by kernel_rfl)⟩
        · refine heavyB_want (by rfl) (fun K' hK' => ?_)
          refine wp_allocAt _ rfl soft_zero ?_
          intro X8a2 g8 hq hsz
          refine hK' _ _ (hq.mono hZ) ?_
          clear hK' K' hsz
          have nb : X8n1.heap.size ≠ bz := fun e => Nat.lt_irrefl _ (e ▸ (hz0.low bz rfl).2)
          replace hz0 := hz0.later hq
          have hb8N := hZ
          replace hN := hN.trans (hq.mono hZ)
          replace hZ := Nat.le_trans hZ hq.size
          clear hq
          obtain ⟨b8, hb8⟩ : ∃ b, X8n1.heap.size = b := ⟨_, rfl⟩
          rw [hb8] at g8 hb8N nb ⊢
          clear hb8
          try simp only [Act.put, List.setIfInBounds_toArray, List.set_cons_zero, List.set_cons_succ]
          rw [wpSchedB]
          simp only [pick, List.map_nil, Array.getD_eq_getD_getElem?, List.getElem?_toArray, List.getElem?_cons_succ, List.getElem?_cons_zero, Option.getD_some]
          refine wpQuiet_nil ?_
          refine heavyB_want (by rfl) (fun K' hK' => ?_)
          go_simp
          refine (HV3 _ (HX1.out.later (by rw [HNH.out]; exact hN))).mono ?_
          rintro e X8v3 ⟨rfl, hw⟩
          obtain rfl : X8a2 = X8v3 := hw.symm
          refine hK' _ _ (Below.refl _ _) ?_
          clear hK' K' hw
          try simp only [Act.put, List.setIfInBounds_toArray, List.set_cons_zero, List.set_cons_succ]
          rw [wpSchedB]
          simp only [pick, List.map_nil, Array.getD_eq_getD_getElem?, List.getElem?_toArray, List.getElem?_cons_succ, List.getElem?_cons_zero, Option.getD_some]
          refine wpQuiet_nil ?_
          refine heavyB_want (by rfl) (fun K' hK' => ?_)
          refine wp_app (.tmp 64) (.tmp 72) rfl (B := NH) (l := []) hz0 rfl (y := subA (some ⟨g, o, none⟩) c (7 + n)) (m := im) (c := c - (7 + n)) (by rw [HIM.out]; rfl) (HIB _ (HX1.out.later (by rw [HNH.out]; exact hN))) (fun e => by have := subA_none e; cases this) HIL.out (List.nil_append _) hZ (fun xu cu X8p4 hu hq ht => hK' _ _ hq ?_)
          clear hK' K'
          replace g8 := g8.turn ht (fun e => nb (Option.some.inj e).symm)
          clear nb
          replace hN := hN.trans hq
          replace hZ := Nat.le_trans hZ hq.size
          clear hz0 hq ht
          try simp only [Act.put, List.setIfInBounds_toArray, List.set_cons_zero, List.set_cons_succ]
          rw [wpSchedB]
          simp only [pick, List.map_cons, List.map_nil, Array.getD_eq_getD_getElem?, List.getElem?_toArray, List.getElem?_cons_succ, List.getElem?_cons_zero, Option.getD_some]
          (refine wpQuiet_build4 (by rfl) _ (.tmp 56) (.tmp 63) (.tmp 73) (.tmp 74) rfl rfl rfl rfl rfl (built_soft (⟨nm, (v : Int), im, ky, ch, pp⟩ : Ld.Sw) ⟨xu, cu, xp, cp⟩) ?_; try simp only [Act.put, List.setIfInBounds_toArray, List.set_cons_zero, List.set_cons_succ])
          refine wpQuiet_nil ?_
          refine heavyB_want (by rfl) (fun K' hK' => ?_)
          refine wp_storeAt rfl _ (.tmp 8) (.tmp 75) rfl (b := b8) (q := 0) rfl (v := softV (⟨nm, (v : Int), im, ky, ch, pp⟩ : Ld.Sw) ⟨xu, cu, xp, cp⟩) rfl g8 (fun j _ => soft_one _ _ _) soft_size ?_
          intro X8s5 u8
          refine hK' _ _ (u8.below NH _ hb8N (Below.refl _ _)) ?_
          clear hK' K'
          have hu' := hu.aside g8 (u8.turns (fun b => b = b8) _ (fun _ => rfl) (Turns.refl _ _))
          have hun := hu.none_cap
          have hul := fun (p : Addr) (e : xu = some p) => (hu.low p.block (rowOf_sm e)).1
          replace g8 := u8.blk
          replace hN := hN.trans (u8.below NH _ hb8N (Below.refl _ _))
          clear u8 hu hZ hb8N
          try simp only [Act.put, List.setIfInBounds_toArray, List.set_cons_zero, List.set_cons_succ]
          rw [wpSchedB]
          simp only [List.map_nil]
          refine wpQuiet_nil ?_
          exact NormQ.mk ⟨xu, cu, b8, hu', hun, hul, g8, hN, ex_frame (by kernel_rfl)⟩
      · refine heavyB_want (by rfl) (fun K' hK' => ?_)
        refine wp_allocAt _ rfl soft_zero ?_
        intro X8a1 g8 hq hsz
        refine hK' _ _ (hq.mono hZ) ?_
        clear hK' K' hsz
        have hb8N := hZ
        replace hN := hN.trans (hq.mono hZ)
        replace hZ := Nat.le_trans hZ hq.size
        clear hq
        obtain ⟨b8, hb8⟩ : ∃ b, X8.heap.size = b := ⟨_, rfl⟩
        rw [hb8] at g8 hb8N ⊢
        clear hb8
        try simp only [Act.put, List.setIfInBounds_toArray, List.set_cons_zero, List.set_cons_succ]
        rw [wpSchedB]
        simp only [pick, List.map_nil, Array.getD_eq_getD_getElem?, List.getElem?_toArray, List.getElem?_cons_succ, List.getElem?_cons_zero, Option.getD_some]
        refine wpQuiet_nil ?_
        refine ⟨?_, ?_⟩
        · refine heavyB_want (by rfl) (fun K' hK' => ?_)
          go_simp
          refine (HV3 _ (HX1.out.later (by rw [HNH.out]; exact hN))).mono ?_
          rintro e X8v2 ⟨rfl, hw⟩
          obtain rfl : X8a1 = X8v2 := hw.symm
          refine hK' _ _ (Below.refl _ _) ?_
          clear hK' K' hw
          try simp only [Act.put, List.setIfInBounds_toArray, List.set_cons_zero, List.set_cons_succ]
          rw [wpSchedB]
          simp only [pick, List.map_nil, Array.getD_eq_getD_getElem?, List.getElem?_toArray, List.getElem?_cons_succ, List.getElem?_cons_zero, Option.getD_some]
          refine wpQuiet_nil ?_
          refine heavyB_want (by rfl) (fun K' hK' => ?_)
          go_simp
          refine hK' _ _ ((Below.refl _ _).alloc hZ _) ?_
          clear hK' K'
          obtain ⟨X8n3, hXn⟩ : ∃ Y, X8a1.alloc (.cells #[] 5) = Y := ⟨_, rfl⟩
          have hq : Below X8a1.heap.size X8a1 X8n3 := by rw [← hXn]; exact al (Below.refl _ _) _
          have hz0 : OwnsB NH X8n3 (some ⟨X8a1.heap.size, 0, none⟩) 0 [] := by rw [← hXn]; exact OwnsB.made' _ _ _ hZ rfl
          have nb : b8 ≠ X8a1.heap.size := Nat.ne_of_lt (World.block_lt_of_cell? _ _ (g8.at 0 (by decide)).1)
          replace g8 := g8.later hq
          rw [hXn]
          replace hN := hN.trans (hq.mono hZ)
          obtain ⟨bz, hbz⟩ : ∃ b, X8a1.heap.size = b := ⟨_, rfl⟩
          rw [hbz] at hz0 nb ⊢
          replace hZ := Nat.le_trans hZ hq.size
          clear hbz hXn hq
          try simp only [Act.put, List.setIfInBounds_toArray, List.set_cons_zero, List.set_cons_succ]
          rw [wpSchedB]
          simp only [pick, List.map_nil, Array.getD_eq_getD_getElem?, List.getElem?_toArray, List.getElem?_cons_succ, List.getElem?_cons_zero, Option.getD_some]
          refine wpQuiet_nil ?_
          refine heavyB_want (by rfl) (fun K' hK' => ?_)
          refine wp_app (.tmp 64) (.tmp 72) rfl (B := NH) (l := []) hz0 rfl (y := subA (some ⟨g, o, none⟩) c (7 + n)) (m := im) (c := c - (7 + n)) (by rw [HIM.out]; rfl) (HIB _ (HX1.out.later (by rw [HNH.out]; exact hN))) (fun e => by have := subA_none e; cases this) HIL.out (List.nil_append _) hZ (fun xu cu X8p4 hu hq ht => hK' _ _ hq ?_)
          clear hK' K'
          replace g8 := g8.turn ht (fun e => nb (Option.some.inj e).symm)
          clear nb
          replace hN := hN.trans hq
          replace hZ := Nat.le_trans hZ hq.size
          clear hz0 hq ht
          try simp only [Act.put, List.setIfInBounds_toArray, List.set_cons_zero, List.set_cons_succ]
          rw [wpSchedB]
          simp only [pick, List.map_cons, List.map_nil, Array.getD_eq_getD_getElem?, List.getElem?_toArray, List.getElem?_cons_succ, List.getElem?_cons_zero, Option.getD_some]
          (refine wpQuiet_build4 (by rfl) _ (.tmp 56) (.tmp 63) (.tmp 73) (.tmp 74) rfl rfl rfl rfl rfl (built_soft (⟨nm, (v : Int), im, ky, ch, pp⟩ : Ld.Sw) ⟨xu, cu, xp, cp⟩) ?_; try simp only [Act.put, List.setIfInBounds_toArray, List.set_cons_zero, List.set_cons_succ])
          refine wpQuiet_nil ?_
          refine heavyB_want (by rfl) (fun K' hK' => ?_)
          refine wp_storeAt rfl _ (.tmp 8) (.tmp 75) rfl (b := b8) (q := 0) rfl (v := softV (⟨nm, (v : Int), im, ky, ch, pp⟩ : Ld.Sw) ⟨xu, cu, xp, cp⟩) rfl g8 (fun j _ => soft_one _ _ _) soft_size ?_
          intro X8s5 u8
          refine hK' _ _ (u8.below NH _ hb8N (Below.refl _ _)) ?_
          clear hK' K'
          have hu' := hu.aside g8 (u8.turns (fun b => b = b8) _ (fun _ => rfl) (Turns.refl _ _))
          have hun := hu.none_cap
          have hul := fun (p : Addr) (e : xu = some p) => (hu.low p.block (rowOf_sm e)).1
          replace g8 := u8.blk
          replace hN := hN.trans (u8.below NH _ hb8N (Below.refl _ _))
          clear u8 hu hZ hb8N
          try simp only [Act.put, List.setIfInBounds_toArray, List.set_cons_zero, List.set_cons_succ]
          rw [wpSchedB]
          simp only [List.map_nil]
          refine wpQuiet_nil ?_
          exact NormQ.mk ⟨xu, cu, b8, hu', hun, hul, g8, hN, ex_frame (by kernel_rfl)⟩
        · refine heavyB_want (by rfl) (fun K' hK' => ?_)
          go_simp
          refine hK' _ _ ((Below.refl _ _).alloc hZ _) ?_
          clear hK' K'
          obtain ⟨X8n2, hXn⟩ : ∃ Y, X8a1.alloc (.cells #[] 5) = Y := ⟨_, rfl⟩
          have hq : Below X8a1.heap.size X8a1 X8n2 := by rw [← hXn]; exact al (Below.refl _ _) _
          have hz0 : OwnsB NH X8n2 (some ⟨X8a1.heap.size, 0, none⟩) 0 [] := by rw [← hXn]; exact OwnsB.made' _ _ _ hZ rfl
          have nb : b8 ≠ X8a1.heap.size := Nat.ne_of_lt (World.block_lt_of_cell? _ _ (g8.at 0 (by decide)).1)
          replace g8 := g8.later hq
          rw [hXn]
          replace hN := hN.trans (hq.mono hZ)
          obtain ⟨bz, hbz⟩ : ∃ b, X8a1.heap.size = b := ⟨_, rfl⟩
          rw [hbz] at hz0 nb ⊢
          replace hZ := Nat.le_trans hZ hq.size
          clear hbz hXn hq
          try simp only [Act.put, List.setIfInBounds_toArray, List.set_cons_zero, List.set_cons_succ]
          rw [wpSchedB]
          simp only [pick, List.map_nil, Array.getD_eq_getD_getElem?, List.getElem?_toArray, List.getElem?_cons_succ, List.getElem?_cons_zero, Option.getD_some]
          refine wpQuiet_nil ?_
          refine heavyB_want (by rfl) (fun K' hK' => ?_)
          go_simp
          refine (HV3 _ (HX1.out.later (by rw [HNH.out]; exact hN))).mono ?_
          rintro e X8v3 ⟨rfl, hw⟩
          obtain rfl : X8n2 = X8v3 := hw.symm
          refine hK' _ _ (Below.refl _ _) ?_
          clear hK' K' hw
          try simp only [Act.put, List.setIfInBounds_toArray, List.set_cons_zero, List.set_cons_succ]
          rw [wpSchedB]
          simp only [pick, List.map_nil, Array.getD_eq_getD_getElem?, List.getElem?_toArray, List.getElem?_cons_succ, List.getElem?_cons_zero, Option.getD_some]
          refine wpQuiet_nil ?_
          refine heavyB_want (by rfl) (fun K' hK' => ?_)
          refine wp_app (.tmp 64) (.tmp 72) rfl (B := NH) (l := []) hz0 rfl (y := subA (some ⟨g, o, none⟩) c (7 + n)) (m := im) (c := c - (7 + n)) (by rw [HIM.out]; rfl) (HIB _ (HX1.out.later (by rw [HNH.out]; exact hN))) (fun e => by have := subA_none e; cases this) HIL.out (List.nil_append _) hZ (fun xu cu X8p4 hu hq ht => hK' _ _ hq ?_)
          clear hK' K'
          replace g8 := g8.turn ht (fun e => nb (Option.some.inj e).symm)
          clear nb
          replace hN := hN.trans hq
          replace hZ := Nat.le_trans hZ hq.size
          clear hz0 hq ht
          try simp only [Act.put, List.setIfInBounds_toArray, List.set_cons_zero, List.set_cons_succ]
          rw [wpSchedB]
          simp only [pick, List.map_cons, List.map_nil, Array.getD_eq_getD_getElem?, List.getElem?_toArray, List.getElem?_cons_succ, List.getElem?_cons_zero, Option.getD_some]
          (refine wpQuiet_build4 (by rfl) _ (.tmp 56) (.tmp 63) (.tmp 73) (.tmp 74) rfl rfl rfl rfl rfl (built_soft (⟨nm, (v : Int), im, ky, ch, pp⟩ : Ld.Sw) ⟨xu, cu, xp, cp⟩) ?_; try simp only [Act.put, List.setIfInBounds_toArray, List.set_cons_zero, List.set_cons_succ])
          refine wpQuiet_nil ?_
          refine heavyB_want (by rfl) (fun K' hK' => ?_)
          refine wp_storeAt rfl _ (.tmp 8) (.tmp 75) rfl (b := b8) (q := 0) rfl (v := softV (⟨nm, (v : Int), im, ky, ch, pp⟩ : Ld.Sw) ⟨xu, cu, xp, cp⟩) rfl g8 (fun j _ => soft_one _ _ _) soft_size ?_
          intro X8s5 u8
          refine hK' _ _ (u8.below NH _ hb8N (Below.refl _ _)) ?_
          clear hK' K'
          have hu' := hu.aside g8 (u8.turns (fun b => b = b8) _ (fun _ => rfl) (Turns.refl _ _))
          have hun := hu.none_cap
          have hul := fun (p : Addr) (e : xu = some p) => (hu.low p.block (rowOf_sm e)).1
          replace g8 := u8.blk
          replace hN := hN.trans (u8.below NH _ hb8N (Below.refl _ _))
          clear u8 hu hZ hb8N
          try simp only [Act.put, List.setIfInBounds_toArray, List.set_cons_zero, List.set_cons_succ]
          rw [wpSchedB]
          simp only [List.map_nil]
          refine wpQuiet_nil ?_
          exact NormQ.mk ⟨xu, cu, b8, hu', hun, hul, g8, hN, ex_frame (by kernel_rfl)⟩
    rintro a' W8 ⟨xu, cu, b8, hu, hun, hul, g8, hN, u, rfl⟩
    have hb : Below Yeq0.heap.size Yeq0 W8 := by rw [HNH.out]; exact hN
    have hx1 := HX1.out.later hb
    replace g2 := g2.later hb
    replace pb := pb.later hb
    have hul2 : ∀ p, xu = some p → w.heap.size ≤ p.block := fun p e => Nat.le_trans (by rw [← HNH.out]; exact hB.size) (hul p e)
    replace hB := hB.trans (hb.mono hB.size)
    have NXU : Hid (∀ p, xu = some p → p.block ≠ b2) := fun p e k => Nat.lt_irrefl b2 (Nat.lt_of_lt_of_le z2N (k ▸ hul p e))
    clear hb hN hul HX1 HR4 HIB HV3 w0 w7 w7z j7 j1 j5 j7z
    try dsimp only
    obtain ⟨sw, hsw⟩ : ∃ s, (⟨nm, (v : Int), im, ky, ch, pp⟩ : Ld.Sw) = s := ⟨_, rfl⟩
    replace g8 : Blk W8 b8 0 23 (softV sw ⟨xu, cu, xp, cp⟩) := hsw ▸ g8
    have hin : SwIn W8 sw ⟨xu, cu, xp, cp⟩ := hsw ▸ ⟨hu, hun, pb⟩
    have HNEW : Hid (SwNew w.heap.size ⟨xu, cu, xp, cp⟩) := ⟨hul2, lp⟩
    rw [hsw] at HSW
    clear hsw hu hun pb hul2 lp
    have HOKK : Hid ((decN rt = true ∧ sw.vld = true ∧ Ld.form sw = d) ↔ Ld.okU d = true) := by
      have h0 := HROK.out
      rw [HSW.out, HRT.out] at h0
      exact ⟨fun h => h0.1 ⟨HRL.out, h⟩, fun h => (h0.2 h).2⟩
    by_cases hdn : decN rt = true
    · obtain rfl : code = 0 := by rw [← HCD.out]; exact if_pos hdn
      go_wp2_with (refine wpList_loadN_w rfl _ (.tmp 8) rfl (b := b8) (q := 0) rfl (run_loadSw g8) ?_)
      refine (rvsoft_any sw ⟨xu, cu, xp, cp⟩ _ hin).mono ?_
      rintro e Y0 ⟨rfl, hb⟩
      replace g8 := g8.later hb
      replace hin := hin.later hb
      replace hx1 := hx1.later hb
      replace g2 := g2.later hb
      replace hB := hB.trans (hb.mono hB.size)
      clear hb
      cases hv : sw.vld with
      | false =>
        have HNO := Lib.hid (un_no (d := d) (fun h => by have := (HOKK.out.2 h).2.1; rw [hv] at this; cases this))
        clear hin hx1 g8
        go_wp2_with (refine wpList_storeB rfl rfl _ (.tmp 2) _ rfl (b := b2) (q := 0) rfl (n := 23) (v := softV zSw zA) rfl g2 (fun j _ => soft_one _ _ _) soft_size ?_; intro Y1 t1; refine Hid.out ?_)
        unfold Hid
        have hBE := t1.below w.heap.size w s2 hB
        have l1 := run_loadSw t1.blk
        clear t1 g2 hB
        go_wp2_with fail
        refine bodyPost_ret (v := .tuple #[aggN 23 (softV zSw zA), .int .i64 380]) ?_ rfl ⟨zA, by rw [HNO.out.1, HNO.out.2], by rw [HNO.out.1]; exact zSw_in _, zA_new _, hBE⟩
        rw [results_cell_tmp rfl]
        simp [asAddr, Result.andThen]
        rw [l1]
      | true =>
        go_wp2_with (refine wpList_loadN_w rfl _ (.tmp 8) rfl (b := b8) (q := 0) rfl (run_loadSw g8) ?_)
        refine (rpack_any sw ⟨xu, cu, xp, cp⟩ _ hin hv).mono ?_
        rintro e Y1 ⟨yf, cf, rfl, of_, hb⟩
        replace g8 := g8.later hb
        replace hin := hin.later hb
        replace hx1 := hx1.later hb
        replace g2 := g2.later hb
        replace hB := hB.trans (hb.mono hB.size)
        clear hb
        have hfl := Lib.hid (Ld.form_max sw hv).2
        have heq := requal_any yf (some ⟨g, o, none⟩) (Ld.form sw) d cf c _ of_.bts hx1 (Nat.le_trans hfl.out (by decide))
        rw [HLL.out] at heq
        obtain ⟨qe, hqe⟩ : ∃ b, (Ld.form sw == d) = b := ⟨_, rfl⟩
        rw [hqe] at heq
        have HQE := Lib.hid hqe
        clear hqe of_ hfl
        go_wp2_with fail
        refine heq.mono ?_
        rintro e Y2 ⟨rfl, hb⟩
        clear heq
        replace g8 := g8.later hb
        replace hin := hin.later hb
        replace hx1 := hx1.later hb
        replace g2 := g2.later hb
        replace hB := hB.trans (hb.mono hB.size)
        clear hb
        cases qe with
        | false =>
          have HNO := Lib.hid (un_no (d := d) (fun h => by have := (HOKK.out.2 h).2.2; have h2 := HQE.out; rw [this, beq_self_eq_true] at h2; cases h2))
          clear hin hx1 g8
          go_wp2_with (refine wpList_storeB rfl rfl _ (.tmp 2) _ rfl (b := b2) (q := 0) rfl (n := 23) (v := softV zSw zA) rfl g2 (fun j _ => soft_one _ _ _) soft_size ?_; intro Y1 t1; refine Hid.out ?_)
          unfold Hid
          have hBE := t1.below w.heap.size w s2 hB
          have l1 := run_loadSw t1.blk
          clear t1 g2 hB
          go_wp2_with fail
          refine bodyPost_ret (v := .tuple #[aggN 23 (softV zSw zA), .int .i64 380]) ?_ rfl ⟨zA, by rw [HNO.out.1, HNO.out.2], by rw [HNO.out.1]; exact zSw_in _, zA_new _, hBE⟩
          rw [results_cell_tmp rfl]
          simp [asAddr, Result.andThen]
          rw [l1]
        | true =>
          have HOKD : Hid (Ld.okU d = true) := HOKK.out.1 ⟨hdn, hv, by have := HQE.out; rwa [beq_iff_eq] at this⟩
          have HSH : Hid (Ld.short d = false) := by have h := HOKD.out; unfold Ld.okU at h; simp only [Bool.and_eq_true, Bool.not_eq_true'] at h; exact h.1
          have HYE : Hid (unS d = sw ∧ unC d = 0) := by have h := un_yes HOKD.out; rw [← (Ld.rsw_eq HSH.out).2, HSW.out] at h; exact h
          clear hx1
          go_wp2_with (first | (refine wpList_loadN rfl _ (.tmp 8) rfl (b := b8) (q := 0) rfl (run_loadSw g8) ?_) | (refine wpList_storeB rfl rfl _ (.tmp 2) _ rfl (b := b2) (q := 0) rfl (n := 23) (v := softV sw ⟨xu, cu, xp, cp⟩) rfl g2 (fun j _ => soft_one _ _ _) soft_size ?_; intro Y3 t1; refine Hid.out ?_))
          unfold Hid
          have tn := t1.turns (fun b => b = b2) Y2 (fun _ => rfl) (Turns.refl _ _)
          have hBE := t1.below w.heap.size w s2 hB
          replace hin := hin.turn tn (fun a e k => NXU.out a e k) (fun a e k => NXP.out a e k)
          have l1 := run_loadSw t1.blk
          clear t1 g2 hB g8 tn
          go_wp2_with fail
          refine bodyPost_ret (v := .tuple #[aggN 23 (softV sw ⟨xu, cu, xp, cp⟩), .int .i64 0]) ?_ rfl ⟨⟨xu, cu, xp, cp⟩, by rw [HYE.out.1, HYE.out.2], by rw [HYE.out.1]; exact hin, HNEW.out, hBE⟩
          rw [results_cell_tmp rfl]
          simp [asAddr, Result.andThen]
          rw [l1]
    obtain rfl : code = 60 := by rw [← HCD.out]; exact if_neg hdn
    have HNO := Lib.hid (un_no (d := d) (fun h => hdn (HOKK.out.2 h).1))
    clear hin hx1 g8
    go_wp2_with (refine wpList_storeB rfl rfl _ (.tmp 2) _ rfl (b := b2) (q := 0) rfl (n := 23) (v := softV zSw zA) rfl g2 (fun j _ => soft_one _ _ _) soft_size ?_; intro Y1 t1; refine Hid.out ?_)
    unfold Hid
    have hBE := t1.below w.heap.size w s2 hB
    have l1 := run_loadSw t1.blk
    clear t1 g2 hB
    go_wp2_with fail
    refine bodyPost_ret (v := .tuple #[aggN 23 (softV zSw zA), .int .i64 380]) ?_ rfl ⟨zA, by rw [HNO.out.1, HNO.out.2], by rw [HNO.out.1]; exact zSw_in _, zA_new _, hBE⟩
    rw [results_cell_tmp rfl]
    simp [asAddr, Result.andThen]
    rw [l1]
  have q4 : decide ((L : Int) < (j : Int)) = false := by simp; omega
  have q4b : decide (L < j) = false := by simp; omega
  have p4 : (0 : Int) ≤ (j : Int) := by omega
  have p5 : (j : Int) ≤ (L : Int) := by omega
  clear h3 h1 hc
  go_wp2_with fail
  have hrr : Ld.rRest d = d.drop j := by unfold Ld.rRest; rw [HRN.out, HRZ.out, HJ.out]
  have hdec : Calls Tryz.prog 35 #[.slice (some ⟨g, o + j, none⟩) (L - j) (c - j)] X (RdecOf (Ld.rRest d) X) := by
    have := rdec_any (some ⟨g, o + j, none⟩) (d.drop j) (c - j) X (hx1.ofs j)
    rw [List.length_drop, HLL.out] at this
    rw [hrr]
    exact this
  clear q4 q4b p4 p5
  clear hrr
  refine hdec.mono ?_
  rintro e X2 ⟨xp, cp, rfl, ow, hb⟩
  clear hdec
  replace hx1 := hx1.later hb
  replace g2 := g2.later hb
  have pb := ow.wts
  have lp : ∀ a, xp = some a → w.heap.size ≤ a.block := fun a e => Nat.le_trans hB.size (ow.low a.block (rowOf_sm e)).1
  have NXP : Hid (∀ a, xp = some a → a.block ≠ b2) := fun a e k => Nat.lt_irrefl b2 (Nat.lt_of_lt_of_le (show b2 < X.heap.size by rw [hz]; exact Nat.lt_succ_self _) (k ▸ (ow.low a.block (rowOf_sm e)).1))
  replace hB := hB.trans (hb.mono hB.size)
  clear ow hb
  have HSW : Hid (Ld.rsw d = ⟨(d.drop 1).take n, (Ld.nat ((d.drop (1 + n)).take 4) : Int), (d.drop (7 + n)).take z, Ld.dKey (Ld.rRest d), Ld.dCh (Ld.rRest d), Ld.dPath (Ld.rRest d)⟩) := by show _ = _; unfold Ld.rsw; rw [HRN.out, HRZ.out]
  obtain ⟨rt, hrt⟩ : ∃ r, Ld.rRest d = r := ⟨_, rfl⟩
  have HRT := Lib.hid hrt
  rw [hrt] at pb HSW ⊢
  obtain ⟨ky, hky⟩ : ∃ k, Ld.dKey rt = k := ⟨_, rfl⟩
  obtain ⟨ch, hch⟩ : ∃ k, Ld.dCh rt = k := ⟨_, rfl⟩
  obtain ⟨pp, hpp⟩ : ∃ k, Ld.dPath rt = k := ⟨_, rfl⟩
  rw [hky, hch, hpp] at HSW ⊢
  rw [hpp] at pb
  obtain ⟨code, hcd⟩ : ∃ z, dC rt = z := ⟨_, rfl⟩
  rw [hcd]
  have HCD := Lib.hid hcd
  clear hrt hky hch hpp hcd
  go_wp2_with (refine wpList_allocTo 6 rfl rfl _ rfl sig_zero ?_; intro Xne0 a_b6 hb0 hz0; refine Hid.out ?_)
  unfold Hid
  try simp only [Act.put, List.setIfInBounds_toArray, List.set_cons_zero, List.set_cons_succ]
  obtain ⟨b6, e_b6⟩ : ∃ a, X2.heap.size = a := ⟨_, rfl⟩
  have s_b6 : X2.heap.size ≤ b6 := by omega
  have hb := hb0
  rw [e_b6] at a_b6 hz0 ⊢
  clear hb0
  have hz : b6 < Xne0.heap.size := by omega
  clear e_b6 hz0
  go_wp2_with (refine wpList_storeB rfl rfl _ (.tmp 6) _ rfl (b := b6) (q := 0) rfl (n := 20) (v := sigV ky ch xp pp.length cp) rfl a_b6 (fun j _ => sig_one _ _ _ _ _ j) sig_size ?_; intro Yne0 t1; refine Hid.out ?_)
  unfold Hid
  replace hb := t1.below _ _ (by omega) hb
  replace a_b6 := t1.blk
  rw [← t1.size] at hz
  clear t1
  replace hx1 := hx1.later hb
  replace g2 := g2.later hb
  replace pb := pb.later hb
  replace hB := hB.trans (hb.mono hB.size)
  clear hb hz
  clear s_b6
  have H6 := Lib.hid a_b6
  have z6 : b6 < Yne0.heap.size := World.block_lt_of_cell? _ _ (a_b6.at 0 (by decide)).1
  clear a_b6
  go_wp2_with fail
  obtain ⟨NH, hNH⟩ : ∃ n, Yne0.heap.size = n := ⟨_, rfl⟩
  have HNH := Lib.hid hNH
  have z6N : b6 < NH := hNH ▸ z6
  have z2N : b2 < NH := hNH ▸ World.block_lt_of_cell? _ _ (g2.at 0 (by decide)).1
  have zgN : d.length ≠ 0 → g < NH := fun h0 => by
    obtain ⟨b, o2, e, hc⟩ := hx1.at (Nat.pos_of_ne_zero h0)
    cases e
    rw [← hNH]
    exact World.block_lt_of_cell? _ _ (hc 0 (Nat.pos_of_ne_zero h0))
  clear hNH z6
  have HX1 := Lib.hid hx1
  have hnl := HLL.out
  have hj1 := HJ.out
  have hj2 := HH3.out
  have hj3 := HH2.out
  have hn8 := HN256.out
  have ln : ((d.drop 1).take n).length = n := by rw [List.length_take, List.length_drop, hnl]; clear w0 w7 w7z j7 j1 j5 j7z; omega
  have li : ((d.drop (7 + n)).take z).length = z := by rw [List.length_take, List.length_drop, hnl]; clear w0 w7 w7z j7 j1 j5 j7z; omega
  have l4 : ((d.drop (1 + n)).take 4).length = 4 := by rw [List.length_take, List.length_drop, hnl]; clear w0 w7 w7z j7 j1 j5 j7z; omega
  have HV3 := fun (W : World) (hW : Bts W (some ⟨g, o, none⟩) d) => rvalue_any (subA (some ⟨g, o, none⟩) c (1 + n)) ((d.drop (1 + n)).take 4) (c - (1 + n)) W ((hW.sub (c := c) (by rw [hnl]; clear w0 w7 w7z j7 j1 j5 j7z; omega) (1 + n)).take 4) (Nat.le_of_eq l4)
  simp only [l4] at HV3
  have HIB := fun (W : World) (hW : Bts W (some ⟨g, o, none⟩) d) => (hW.sub (c := c) (by rw [hnl]; clear w0 w7 w7z j7 j1 j5 j7z; omega) (7 + n)).take z
  have HR4 := fun (W : World) (hW : Bts W (some ⟨g, o, none⟩) d) => conv_B (B := NH) ((hW.sub (c := c) (by rw [hnl]; clear w0 w7 w7z j7 j1 j5 j7z; omega) 1).take n) (fun a e => by
    obtain ⟨q, e1, e2⟩ := subA_blk e
    cases e1
    rw [← e2]
    exact zgN (by rw [hnl]; exact Nat.pos_iff_ne_zero.1 p0)) n (c - 1) ln
  obtain ⟨nm, hnm⟩ : ∃ l, (d.drop 1).take n = l := ⟨_, rfl⟩
  obtain ⟨im, him⟩ : ∃ l, (d.drop (7 + n)).take z = l := ⟨_, rfl⟩
  obtain ⟨v, hv⟩ : ∃ l, Ld.nat ((d.drop (1 + n)).take 4) = l := ⟨_, rfl⟩
  rw [hnm, him, hv] at HSW
  rw [him] at li
  simp only [him] at HIB
  simp only [hnm] at HR4
  simp only [hv] at HV3
  have HIM := Lib.hid li
  have HIL : Hid (([] : List UInt8).length + im.length ≤ 10000000) := by show _ ≤ _; rw [li]; simp; clear w0 w7 w7z j7 j1 j5 j7z; have := HL.out; omega
  have E1 := Lib.hid (show 1 + (n : Int) = ((1 + n : Nat) : Int) by simp)
  have E5 := Lib.hid (show 5 + (n : Int) = ((1 + n + 4 : Nat) : Int) by clear w0 w7 w7z j7 j1 j5 j7z; omega)
  have E7 := Lib.hid (show 7 + (n : Int) = ((7 + n : Nat) : Int) by simp)
  have EJ : Hid ((j : Int) = ((7 + n + z : Nat) : Int)) := by show _ = _; rw [hj1]
  have HC1 := Lib.hid (show 1 + n ≤ c by clear w0 w7 w7z j7 j1 j5 j7z; omega)
  have HC2 := Lib.hid (show 1 + n + 4 ≤ c by clear w0 w7 w7z j7 j1 j5 j7z; omega)
  have HC3 := Lib.hid (show 7 + n + z ≤ c by clear w0 w7 w7z j7 j1 j5 j7z; omega)
  have HRL : Hid (Ld.rLong d) := by show _ ∧ _; rw [HRN.out, HRZ.out]; clear w0 w7 w7z j7 j1 j5 j7z; omega
  clear hnl hj1 hj2 hj3 hn8 ln li l4 hnm him hv zgN hx1
  refine wp_cutN (fun a' X => ∃ (xu : Option Addr) (cu b8 : Nat), Bts X xu im ∧ (xu = none → cu = 0) ∧ (∀ p, xu = some p → NH ≤ p.block) ∧ Blk X b8 0 23 (softV (⟨nm, (v : Int), im, ky, ch, pp⟩ : Ld.Sw) ⟨xu, cu, xp, cp⟩) ∧ Below NH Yne0 X ∧ ∃ u : Nat → Value, a' = { tmps := #[.slice (some ⟨g, o, none⟩) L c, u 1, .pointer (some ⟨b2, 0, none⟩), u 3, u 4, u 5, u 6, .int .i64 code, .pointer (some ⟨b8, 0, none⟩), u 9, u 10, u 11, u 12, u 13, u 14, u 15, u 16, u 17, u 18, u 19, u 20, u 21, u 22, u 23, u 24, u 25, u 26, u 27, u 28, u 29, u 30, u 31, u 32, u 33, u 34, u 35, u 36, u 37, u 38, u 39, u 40, u 41, u 42, u 43, u 44, u 45, u 46, u 47, u 48, u 49, u 50, u 51, u 52, u 53, u 54, u 55, u 56, u 57, u 58, u 59, u 60, u 61, u 62, u 63, u 64, u 65, u 66, u 67, u 68, u 69, u 70, u 71, u 72, u 73, u 74, u 75, u 76, u 77, u 78, u 79, u 80, u 81, u 82, u 83, u 84, u 85, u 86, u 87, u 88, u 89, u 90, u 91], defers := [] }) ?_ ?_
  · clear g2 pb
    refine wp_region_schedB (B := NH) (fun X8 => Below NH Yne0 X8 ∧ NH ≤ X8.heap.size) (.three [0, 1, 2, 3, 4, 5, 6, 7, 8, 9, 10, 13, 14, 15, 16, 17, 18, 19, 20, 22] 11 (.two [] 12 (.two [] 21 (.one [23] 24 (.one [] 25 (.done []))) 24 (.one [] 21 (.one [23] 25 (.done [])))) 24 (.one [] 12 (.one [] 21 (.one [23] 25 (.done []))))) 12 (.two [] 11 (.two [] 21 (.one [23] 24 (.one [] 25 (.done []))) 24 (.one [] 21 (.one [23] 25 (.done [])))) 24 (.one [] 11 (.one [] 21 (.one [23] 25 (.done []))))) 24 (.two [] 11 (.one [] 12 (.one [] 21 (.one [23] 25 (.done [])))) 12 (.one [] 11 (.one [] 21 (.one [23] 25 (.done [])))))) (by kernel_rfl) (by kernel_rfl) (fun _ _ _ _ _ h => h) ⟨(Below.refl _ _).drew, Nat.le_of_eq HNH.out.symm⟩ ?_
    rintro X8 ⟨hN, hZ⟩
    rw [wpSchedB]
    simp only [pick, List.map_cons, List.map_nil, Array.getD_eq_getD_getElem?, List.getElem?_toArray, List.getElem?_cons_succ, List.getElem?_cons_zero, Option.getD_some]
    have hY8 : Below Yne0.heap.size Yne0 X8 := by rw [HNH.out]; exact hN
    have r22 := loadN_B (B := NH) (t := 27) (H6.out.later hY8) z6N (fun X h => run_loadSg h)
    have r4 := HR4 X8 (HX1.out.later hY8)
    iterate 3 (first | go_big_quiet_step (fail) | quiet_step (fail))
    (refine wpQuiet_subLH (by rfl) (.tmp 52) (.const (.int .i64 1)) (.tmp 54) rfl (x := (some ⟨g, o, none⟩)) (n := L) (c := c) rfl 1 n rfl rfl rfl E1.out HC1.out ?_; try simp only [Act.put, List.setIfInBounds_toArray, List.set_cons_zero, List.set_cons_succ])
    (refine wpQuiet_conv (by rfl) _ _ (.tmp 55) rfl (u := .slice (subA (some ⟨g, o, none⟩) c 1) n (c - 1)) rfl r4 ?_; try simp only [Act.put, List.setIfInBounds_toArray, List.set_cons_zero, List.set_cons_succ])
    iterate 5 (first | go_big_quiet_step (fail) | quiet_step (fail))
    (refine wpQuiet_subLH (by rfl) (.tmp 57) (.tmp 59) (.tmp 61) rfl (x := (some ⟨g, o, none⟩)) (n := L) (c := c) rfl (1 + n) 4 rfl rfl E1.out E5.out HC2.out ?_; try simp only [Act.put, List.setIfInBounds_toArray, List.set_cons_zero, List.set_cons_succ])
    iterate 7 (first | go_big_quiet_step (fail) | quiet_step (fail))
    (refine wpQuiet_subLH (by rfl) (.tmp 65) (.tmp 67) (.tmp 71) rfl (x := (some ⟨g, o, none⟩)) (n := L) (c := c) rfl (7 + n) z rfl rfl E7.out EJ.out HC3.out ?_; try simp only [Act.put, List.setIfInBounds_toArray, List.set_cons_zero, List.set_cons_succ])
    (refine wpQuiet_loadN rfl _ (.tmp 6) rfl (b := b6) (q := 0) rfl r22 ?_; try simp only [Act.put, List.setIfInBounds_toArray, List.set_cons_zero, List.set_cons_succ])
    refine wpQuiet_nil ?_
    clear r22 r4 hY8
    refine ⟨?_, ?_, ?_⟩
    · refine heavyB_want (by rfl) (fun K' hK' => ?_)
      go_simp
      refine (HV3 _ (HX1.out.later (by rw [HNH.out]; exact hN))).mono ?_
      rintro e X8v1 ⟨rfl, hw⟩
      obtain rfl : X8 = X8v1 := hw.symm
      refine hK' _ _ (Below.refl _ _) ?_
      clear hK' K' hw
      try simp only [Act.put, List.setIfInBounds_toArray, List.set_cons_zero, List.set_cons_succ]
      rw [wpSchedB]
      simp only [pick, List.map_nil, Array.getD_eq_getD_getElem?, List.getElem?_toArray, List.getElem?_cons_succ, List.getElem?_cons_zero, Option.getD_some]
      refine wpQuiet_nil ?_
      refine ⟨?_, ?_⟩
      · refine heavyB_want (by rfl) (fun K' hK' => ?_)
        go_simp
        refine hK' _ _ ((Below.refl _ _).alloc hZ _) ?_
        clear hK' K'
        obtain ⟨X8n2, hXn⟩ : ∃ Y, X8.alloc (.cells #[] 5) = Y := ⟨_, rfl⟩
        have hq : Below X8.heap.size X8 X8n2 := by rw [← hXn]; exact al (Below.refl _ _) _
        have hz0 : OwnsB NH X8n2 (some ⟨X8.heap.size, 0, none⟩) 0 [] := by rw [← hXn]; exact OwnsB.made' _ _ _ hZ rfl
        rw [hXn]
        replace hN := hN.trans (hq.mono hZ)
        obtain ⟨bz, hbz⟩ : ∃ b, X8.heap.size = b := ⟨_, rfl⟩
        rw [hbz] at hz0 ⊢
        replace hZ := Nat.le_trans hZ hq.size
        clear hbz hXn hq
        try simp only [Act.put, List.setIfInBounds_toArray, List.set_cons_zero, List.set_cons_succ]
        rw [wpSchedB]
        simp only [pick, List.map_nil, Array.getD_eq_getD_getElem?, List.getElem?_toArray, List.getElem?_cons_succ, List.getElem?_cons_zero, Option.getD_some]
        refine wpQuiet_nil ?_
        refine ⟨?_, ?_⟩
        · refine heavyB_want (by rfl) (fun K' hK' => ?_)
          refine wp_app (.tmp 64) (.tmp 72) rfl (B := NH) (l := []) hz0 rfl (y := subA (some ⟨g, o, none⟩) c (7 + n)) (m := im) (c := c - (7 + n)) (by rw [HIM.out]; rfl) (HIB _ (HX1.out.later (by rw [HNH.out]; exact hN))) (fun e => by have := subA_none e; cases this) HIL.out (List.nil_append _) hZ (fun xu cu X8p3 hu hq ht => hK' _ _ hq ?_)
          clear hK' K'
          replace hN := hN.trans hq
          replace hZ := Nat.le_trans hZ hq.size
          clear hz0 hq ht
          try simp only [Act.put, List.setIfInBounds_toArray, List.set_cons_zero, List.set_cons_succ]
          rw [wpSchedB]
          simp only [pick, List.map_cons, List.map_nil, Array.getD_eq_getD_getElem?, List.getElem?_toArray, List.getElem?_cons_succ, List.getElem?_cons_zero, Option.getD_some]
          (refine wpQuiet_build4 (by rfl) _ (.tmp 56) (.tmp 63) (.tmp 73) (.tmp 74) rfl rfl rfl rfl rfl (built_soft (⟨nm, (v : Int), im, ky, ch, pp⟩ : Ld.Sw) ⟨xu, cu, xp, cp⟩) ?_; try simp only [Act.put, List.setIfInBounds_toArray, List.set_cons_zero, List.set_cons_succ])
          refine wpQuiet_nil ?_
          refine heavyB_want (by rfl) (fun K' hK' => ?_)
          refine wp_allocAt _ rfl soft_zero ?_
          intro X8a4 g8 hq hsz
          refine hK' _ _ (hq.mono hZ) ?_
          clear hK' K' hsz
          replace hu := hu.later hq
          have hb8N := hZ
          replace hN := hN.trans (hq.mono hZ)
          replace hZ := Nat.le_trans hZ hq.size
          clear hq
          obtain ⟨b8, hb8⟩ : ∃ b, X8p3.heap.size = b := ⟨_, rfl⟩
          rw [hb8] at g8 hb8N ⊢
          clear hb8
          try simp only [Act.put, List.setIfInBounds_toArray, List.set_cons_zero, List.set_cons_succ]
          rw [wpSchedB]
          simp only [pick, List.map_nil, Array.getD_eq_getD_getElem?, List.getElem?_toArray, List.getElem?_cons_succ, List.getElem?_cons_zero, Option.getD_some]
          refine wpQuiet_nil ?_
          refine heavyB_want (by rfl) (fun K' hK' => ?_)
          refine wp_storeAt rfl _ (.tmp 8) (.tmp 75) rfl (b := b8) (q := 0) rfl (v := softV (⟨nm, (v : Int), im, ky, ch, pp⟩ : Ld.Sw) ⟨xu, cu, xp, cp⟩) rfl g8 (fun j _ => soft_one _ _ _) soft_size ?_
          intro X8s5 u8
          refine hK' _ _ (u8.below NH _ hb8N (Below.refl _ _)) ?_
          clear hK' K'
          have hu' := hu.aside g8 (u8.turns (fun b => b = b8) _ (fun _ => rfl) (Turns.refl _ _))
          have hun := hu.none_cap
          have hul := fun (p : Addr) (e : xu = some p) => (hu.low p.block (rowOf_sm e)).1
          replace g8 := u8.blk
          replace hN := hN.trans (u8.below NH _ hb8N (Below.refl _ _))
          clear u8 hu hZ hb8N
          try simp only [Act.put, List.setIfInBounds_toArray, List.set_cons_zero, List.set_cons_succ]
          rw [wpSchedB]
          simp only [List.map_nil]
          refine wpQuiet_nil ?_
          exact NormQ.mk ⟨xu, cu, b8, hu', hun, hul, g8, hN, ex_frame (by kernel_rfl)⟩
        · refine heavyB_want (by rfl) (fun K' hK' => ?_)
          refine wp_allocAt _ rfl soft_zero ?_
          intro X8a3 g8 hq hsz
          refine hK' _ _ (hq.mono hZ) ?_
          clear hK' K' hsz
          have nb : X8n2.heap.size ≠ bz := fun e => Nat.lt_irrefl _ (e ▸ (hz0.low bz rfl).2)
          replace hz0 := hz0.later hq
          have hb8N := hZ
          replace hN := hN.trans (hq.mono hZ)
          replace hZ := Nat.le_trans hZ hq.size
          clear hq
          obtain ⟨b8, hb8⟩ : ∃ b, X8n2.heap.size = b := ⟨_, rfl⟩
          rw [hb8] at g8 hb8N nb ⊢
          clear hb8
          try simp only [Act.put, List.setIfInBounds_toArray, List.set_cons_zero, List.set_cons_succ]
          rw [wpSchedB]
          simp only [pick, List.map_nil, Array.getD_eq_getD_getElem?, List.getElem?_toArray, List.getElem?_cons_succ, List.getElem?_cons_zero, Option.getD_some]
          refine wpQuiet_nil ?_
          refine heavyB_want (by rfl) (fun K' hK' => ?_)
          refine wp_app (.tmp 64) (.tmp 72) rfl (B := NH) (l := []) hz0 rfl (y := subA (some ⟨g, o, none⟩) c (7 + n)) (m := im) (c := c - (7 + n)) (by rw [HIM.out]; rfl) (HIB _ (HX1.out.later (by rw [HNH.out]; exact hN))) (fun e => by have := subA_none e; cases this) HIL.out (List.nil_append _) hZ (fun xu cu X8p4 hu hq ht => hK' _ _ hq ?_)
          clear hK' K'
          replace g8 := g8.turn ht (fun e => nb (Option.some.inj e).symm)
          clear nb
          replace hN := hN.trans hq
          replace hZ := Nat.le_trans hZ hq.size
          clear hz0 hq ht
          try simp only [Act.put, List.setIfInBounds_toArray, List.set_cons_zero, List.set_cons_succ]
          rw [wpSchedB]
          simp only [pick, List.map_cons, List.map_nil, Array.getD_eq_getD_getElem?, List.getElem?_toArray, List.getElem?_cons_succ, List.getElem?_cons_zero, Option.getD_some]
          (refine wpQuiet_build4 (by rfl) _ (.tmp 56) (.tmp 63) (.tmp 73) (.tmp 74) rfl rfl rfl rfl rfl (built_soft (⟨nm, (v : Int), im, ky, ch, pp⟩ : Ld.Sw) ⟨xu, cu, xp, cp⟩) ?_; try simp only [Act.put, List.setIfInBounds_toArray, List.set_cons_zero, List.set_cons_succ])
          refine wpQuiet_nil ?_
          refine heavyB_want (by rfl) (fun K' hK' => ?_)
          refine wp_storeAt rfl _ (.tmp 8) (.tmp 75) rfl (b := b8) (q := 0) rfl (v := softV (⟨nm, (v : Int), im, ky, ch, pp⟩ : Ld.Sw) ⟨xu, cu, xp, cp⟩) rfl g8 (fun j _ => soft_one _ _ _) soft_size ?_
          intro X8s5 u8
          refine hK' _ _ (u8.below NH _ hb8N (Below.refl _ _)) ?_
          clear hK' K'
          have hu' := hu.aside g8 (u8.turns (fun b => b = b8) _ (fun _ => rfl) (Turns.refl _ _))
          have hun := hu.none_cap
          have hul := fun (p : Addr) (e : xu = some p) => (hu.low p.block (rowOf_sm e)).1
          replace g8 := u8.blk
          replace hN := hN.trans (u8.below NH _ hb8N (Below.refl _ _))
          clear u8 hu hZ hb8N
          try simp only [Act.put, List.setIfInBounds_toArray, List.set_cons_zero, List.set_cons_succ]
          rw [wpSchedB]
          simp only [List.map_nil]
          refine wpQuiet_nil ?_
          exact NormQ.mk ⟨xu, cu, b8, hu', hun, hul, g8, hN, ex_frame (by kernel_rfl)⟩
      · refine heavyB_want (by rfl) (fun K' hK' => ?_)
        refine wp_allocAt _ rfl soft_zero ?_
        intro X8a2 g8 hq hsz
        refine hK' _ _ (hq.mono hZ) ?_
        clear hK' K' hsz
        have hb8N := hZ
        replace hN := hN.trans (hq.mono hZ)
        replace hZ := Nat.le_trans hZ hq.size
        clear hq
        obtain ⟨b8, hb8⟩ : ∃ b, X8.heap.size = b := ⟨_, rfl⟩
        rw [hb8] at g8 hb8N ⊢
        clear hb8
        try simp only [Act.put, List.setIfInBounds_toArray, List.set_cons_zero, List.set_cons_succ]
        rw [wpSchedB]
        simp only [pick, List.map_nil, Array.getD_eq_getD_getElem?, List.getElem?_toArray, List.getElem?_cons_succ, List.getElem?_cons_zero, Option.getD_some]
        refine wpQuiet_nil ?_
        refine heavyB_want (by rfl) (fun K' hK' => ?_)
        go_simp
        refine hK' _ _ ((Below.refl _ _).alloc hZ _) ?_
        clear hK' K'
        obtain ⟨X8n3, hXn⟩ : ∃ Y, X8a2.alloc (.cells #[] 5) = Y := ⟨_, rfl⟩
        have hq : Below X8a2.heap.size X8a2 X8n3 := by rw [← hXn]; exact al (Below.refl _ _) _
        have hz0 : OwnsB NH X8n3 (some ⟨X8a2.heap.size, 0, none⟩) 0 [] := by rw [← hXn]; exact OwnsB.made' _ _ _ hZ rfl
        have nb : b8 ≠ X8a2.heap.size := Nat.ne_of_lt (World.block_lt_of_cell? _ _ (g8.at 0 (by decide)).1)
        replace g8 := g8.later hq
        rw [hXn]
        replace hN := hN.trans (hq.mono hZ)
        obtain ⟨bz, hbz⟩ : ∃ b, X8a2.heap.size = b := ⟨_, rfl⟩
        rw [hbz] at hz0 nb ⊢
        replace hZ := Nat.le_trans hZ hq.size
        clear hbz hXn hq
        try simp only [Act.put, List.setIfInBounds_toArray, List.set_cons_zero, List.set_cons_succ]
        rw [wpSchedB]
        simp only [pick, List.map_nil, Array.getD_eq_getD_getElem?, List.getElem?_toArray, List.getElem?_cons_succ, List.getElem?_cons_zero, Option.getD_some]
        refine wpQuiet_nil ?_
        refine heavyB_want (by rfl) (fun K' hK' => ?_)
        refine wp_app (.tmp 64) (.tmp 72) rfl (B := NH) (l := []) hz0 rfl (y := subA (some ⟨g, o, none⟩) c (7 + n)) (m := im) (c := c - (7 + n)) (by rw [HIM.out]; rfl) (HIB _ (HX1.out.later (by rw [HNH.out]; exact hN))) (fun e => by have := subA_none e; cases this) HIL.out (List.nil_append _) hZ (fun xu cu X8p4 hu hq ht => hK' _ _ hq ?_)
        clear hK' K'
        replace g8 := g8.turn ht (fun e => nb (Option.some.inj e).symm)
        clear nb
        replace hN := hN.trans hq
        replace hZ := Nat.le_trans hZ hq.size
        clear hz0 hq ht
        try simp only [Act.put, List.setIfInBounds_toArray, List.set_cons_zero, List.set_cons_succ]
        rw [wpSchedB]
        simp only [pick, List.map_cons, List.map_nil, Array.getD_eq_getD_getElem?, List.getElem?_toArray, List.getElem?_cons_succ, List.getElem?_cons_zero, Option.getD_some]
        (refine wpQuiet_build4 (by rfl) _ (.tmp 56) (.tmp 63) (.tmp 73) (.tmp 74) rfl rfl rfl rfl rfl (built_soft (⟨nm, (v : Int), im, ky, ch, pp⟩ : Ld.Sw) ⟨xu, cu, xp, cp⟩) ?_; try simp only [Act.put, List.setIfInBounds_toArray, List.set_cons_zero, List.set_cons_succ])
        refine wpQuiet_nil ?_
        refine heavyB_want (by rfl) (fun K' hK' => ?_)
        refine wp_storeAt rfl _ (.tmp 8) (.tmp 75) rfl (b := b8) (q := 0) rfl (v := softV (⟨nm, (v : Int), im, ky, ch, pp⟩ : Ld.Sw) ⟨xu, cu, xp, cp⟩) rfl g8 (fun j _ => soft_one _ _ _) soft_size ?_
        intro X8s5 u8
        refine hK' _ _ (u8.below NH _ hb8N (Below.refl _ _)) ?_
        clear hK' K'
        have hu' := hu.aside g8 (u8.turns (fun b => b = b8) _ (fun _ => rfl) (Turns.refl _ _))
        have hun := hu.none_cap
        have hul := fun (p : Addr) (e : xu = some p) => (hu.low p.block (rowOf_sm e)).1
        replace g8 := u8.blk
        replace hN := hN.trans (u8.below NH _ hb8N (Below.refl _ _))
        clear u8 hu hZ hb8N
        try simp only [Act.put, List.setIfInBounds_toArray, List.set_cons_zero, List.set_cons_succ]
        rw [wpSchedB]
        simp only [List.map_nil]
        refine wpQuiet_nil ?_
        exact NormQ.mk ⟨xu, cu, b8, hu', hun, hul, g8, hN, ex_frame (by kernel_rfl)⟩
    · refine heavyB_want (by rfl) (fun K' hK' => ?_)
      go_simp
      refine hK' _ _ ((Below.refl _ _).alloc hZ _) ?_
      clear hK' K'
      obtain ⟨X8n1, hXn⟩ : ∃ Y, X8.alloc (.cells #[] 5) = Y := ⟨_, rfl⟩
      have hq : Below X8.heap.size X8 X8n1 := by rw [← hXn]; exact al (Below.refl _ _) _
      have hz0 : OwnsB NH X8n1 (some ⟨X8.heap.size, 0, none⟩) 0 [] := by rw [← hXn]; exact OwnsB.made' _ _ _ hZ rfl
      rw [hXn]
      replace hN := hN.trans (hq.mono hZ)
      obtain ⟨bz, hbz⟩ : ∃ b, X8.heap.size = b := ⟨_, rfl⟩
      rw [hbz] at hz0 ⊢
      replace hZ := Nat.le_trans hZ hq.size
      clear hbz hXn hq
      try simp only [Act.put, List.setIfInBounds_toArray, List.set_cons_zero, List.set_cons_succ]
      rw [wpSchedB]
      simp only [pick, List.map_nil, Array.getD_eq_getD_getElem?, List.getElem?_toArray, List.getElem?_cons_succ, List.getElem?_cons_zero, Option.getD_some]
      refine wpQuiet_nil ?_
      refine ⟨?_, ?_⟩
      · refine heavyB_want (by rfl) (fun K' hK' => ?_)
        go_simp
        refine (HV3 _ (HX1.out.later (by rw [HNH.out]; exact hN))).mono ?_
        rintro e X8v2 ⟨rfl, hw⟩
        obtain rfl : X8n1 = X8v2 := hw.symm
        refine hK' _ _ (Below.refl _ _) ?_
        clear hK' K' hw
        try simp only [Act.put, List.setIfInBounds_toArray, List.set_cons_zero, List.set_cons_succ]
        rw [wpSchedB]
        simp only [pick, List.map_nil, Array.getD_eq_getD_getElem?, List.getElem?_toArray, List.getElem?_cons_succ, List.getElem?_cons_zero, Option.getD_some]
        refine wpQuiet_nil ?_
        refine ⟨?_, ?_⟩
        · refine heavyB_want (by rfl) (fun K' hK' => ?_)
          refine wp_app (.tmp 64) (.tmp 72) rfl (B := NH) (l := []) hz0 rfl (y := subA (some ⟨g, o, none⟩) c (7 + n)) (m := im) (c := c - (7 + n)) (by rw [HIM.out]; rfl) (HIB _ (HX1.out.later (by rw [HNH.out]; exact hN))) (fun e => by have := subA_none e; cases this) HIL.out (List.nil_append _) hZ (fun xu cu X8p3 hu hq ht => hK' _ _ hq ?_)
          clear hK' K'
          replace hN := hN.trans hq
          replace hZ := Nat.le_trans hZ hq.size
          clear hz0 hq ht
          try simp only [Act.put, List.setIfInBounds_toArray, List.set_cons_zero, List.set_cons_succ]
          rw [wpSchedB]
          simp only [pick, List.map_cons, List.map_nil, Array.getD_eq_getD_getElem?, List.getElem?_toArray, List.getElem?_cons_succ, List.getElem?_cons_zero, Option.getD_some]
          (refine wpQuiet_build4 (by rfl) _ (.tmp 56) (.tmp 63) (.tmp 73) (.tmp 74) rfl rfl rfl rfl rfl (built_soft (⟨nm, (v : Int), im, ky, ch, pp⟩ : Ld.Sw) ⟨xu, cu, xp, cp⟩) ?_; try simp only [Act.put, List.setIfInBounds_toArray, List.set_cons_zero, List.set_cons_succ])
          refine wpQuiet_nil ?_
          refine heavyB_want (by rfl) (fun K' hK' => ?_)
          refine wp_allocAt _ rfl soft_zero ?_
          intro X8a4 g8 hq hsz
          refine hK' _ _ (hq.mono hZ) ?_
          clear hK' K' hsz
          replace hu := hu.later hq
          have hb8N := hZ
          replace hN := hN.trans (hq.mono hZ)
          replace hZ := Nat.le_trans hZ hq.size
          clear hq
          obtain ⟨b8, hb8⟩ : ∃ b, X8p3.heap.size = b := ⟨_, rfl⟩
          rw [hb8] at g8 hb8N ⊢
          clear hb8
          try simp only [Act.put, List.setIfInBounds_toArray, List.set_cons_zero, List.set_cons_succ]
          rw [wpSchedB]
          simp only [pick, List.map_nil, Array.getD_eq_getD_getElem?, List.getElem?_toArray, List.getElem?_cons_succ, List.getElem?_cons_zero, Option.getD_some]
          refine wpQuiet_nil ?_
          refine heavyB_want (by rfl) (fun K' hK' => ?_)
          refine wp_storeAt rfl _ (.tmp 8) (.tmp 75) rfl (b := b8) (q := 0) rfl (v := softV (⟨nm, (v : Int), im, ky, ch, pp⟩ : Ld.Sw) ⟨xu, cu, xp, cp⟩) rfl g8 (fun j _ => soft_one _ _ _) soft_size ?_
          intro X8s5 u8
          refine hK' _ _ (u8.below NH _ hb8N (Below.refl _ _)) ?_
          clear hK' K'
          have hu' := hu.aside g8 (u8.turns (fun b => b = b8) _ (fun _ => rfl) (Turns.refl _ _))
          have hun := hu.none_cap
          have hul := fun (p : Addr) (e : xu = some p) => (hu.low p.block (rowOf_sm e)).1
          replace g8 := u8.blk
          replace hN := hN.trans (u8.below NH _ hb8N (Below.refl _ _))
          clear u8 hu hZ hb8N
          try simp only [Act.put, List.setIfInBounds_toArray, List.set_cons_zero, List.set_cons_succ]
          rw [wpSchedB]
          simp only [List.map_nil]
          refine wpQuiet_nil ?_
          exact NormQ.mk ⟨xu, cu, b8, hu', hun, hul, g8, hN, ex_frame (by kernel_rfl)⟩
        · refine heavyB_want (by rfl) (fun K' hK' => ?_)
          refine wp_allocAt _ rfl soft_zero ?_
          intro X8a3 g8 hq hsz
          refine hK' _ _ (hq.mono hZ) ?_
          clear hK' K' hsz
          have nb : X8n1.heap.size ≠ bz := fun e => Nat.lt_irrefl _ (e ▸ (hz0.low bz rfl).2)
          replace hz0 := hz0.later hq
          have hb8N := hZ
          replace hN := hN.trans (hq.mono hZ)
          replace hZ := Nat.le_trans hZ hq.size
          clear hq
          obtain ⟨b8, hb8⟩ : ∃ b, X8n1.heap.size = b := ⟨_, rfl⟩
          rw [hb8] at g8 hb8N nb ⊢
          clear hb8
          try simp only [Act.put, List.setIfInBounds_toArray, List.set_cons_zero, List.set_cons_succ]
          rw [wpSchedB]
          simp only [pick, List.map_nil, Array.getD_eq_getD_getElem?, List.getElem?_toArray, List.getElem?_cons_succ, List.getElem?_cons_zero, Option.getD_some]
          refine wpQuiet_nil ?_
          refine heavyB_want (by rfl) (fun K' hK' => ?_)
          refine wp_app (.tmp 64) (.tmp 72) rfl (B := NH) (l := []) hz0 rfl (y := subA (some ⟨g, o, none⟩) c (7 + n)) (m := im) (c := c - (7 + n)) (by rw [HIM.out]; rfl) (HIB _ (HX1.out.later (by rw [HNH.out]; exact hN))) (fun e => by have := subA_none e; cases this) HIL.out (List.nil_append _) hZ (fun xu cu X8p4 hu hq ht => hK' _ _ hq ?_)
          clear hK' K'
          replace g8 := g8.turn ht (fun e => nb (Option.some.inj e).symm)
          clear nb
          replace hN := hN.trans hq
          replace hZ := Nat.le_trans hZ hq.size
          clear hz0 hq ht
          try simp only [Act.put, List.setIfInBounds_toArray, List.set_cons_zero, List.set_cons_succ]
          rw [wpSchedB]
          simp only [pick, List.map_cons, List.map_nil, Array.getD_eq_getD_getElem?, List.getElem?_toArray, List.getElem?_cons_succ, List.getElem?_cons_zero, Option.getD_some]
          (refine wpQuiet_build4 (by rfl) _ (.tmp 56) (.tmp 63) (.tmp 73) (.tmp 74) rfl rfl rfl rfl rfl (built_soft (⟨nm, (v : Int), im, ky, ch, pp⟩ : Ld.Sw) ⟨xu, cu, xp, cp⟩) ?_; try simp only [Act.put, List.setIfInBounds_toArray, List.set_cons_zero, List.set_cons_succ])
          refine wpQuiet_nil ?_
          refine heavyB_want (by rfl) (fun K' hK' => ?_)
          refine wp_storeAt rfl _ (.tmp 8) (.tmp 75) rfl (b := b8) (q := 0) rfl (v := softV (⟨nm, (v : Int), im, ky, ch, pp⟩ : Ld.Sw) ⟨xu, cu, xp, cp⟩) rfl g8 (fun j _ => soft_one _ _ _) soft_size ?_
          intro X8s5 u8
          refine hK' _ _ (u8.below NH _ hb8N (Below.refl _ _)) ?_
          clear hK' K'
          have hu' := hu.aside g8 (u8.turns (fun b => b = b8) _ (fun _ => rfl) (Turns.refl _ _))
          have hun := hu.none_cap
          have hul := fun (p : Addr) (e : xu = some p) => (hu.low p.block (rowOf_sm e)).1
          replace g8 := u8.blk
          replace hN := hN.trans (u8.below NH _ hb8N (Below.refl _ _))
          clear u8 hu hZ hb8N
          try simp only [Act.put, List.setIfInBounds_toArray, List.set_cons_zero, List.set_cons_succ]
          rw [wpSchedB]
          simp only [List.map_nil]
          refine wpQuiet_nil ?_
          exact NormQ.mk ⟨xu, cu, b8, hu', hun, hul, g8, hN, ex_frame (by kernel_rfl)⟩
      · refine heavyB_want (by rfl) (fun K' hK' => ?_)
        refine wp_allocAt _ rfl soft_zero ?_
        intro X8a2 g8 hq hsz
        refine hK' _ _ (hq.mono hZ) ?_
        clear hK' K' hsz
        have nb : X8n1.heap.size ≠ bz := fun e => Nat.lt_irrefl _ (e ▸ (hz0.low bz rfl).2)
        replace hz0 := hz0.later hq
        have hb8N := hZ
        replace hN := hN.trans (hq.mono hZ)
        replace hZ := Nat.le_trans hZ hq.size
        clear hq
        obtain ⟨b8, hb8⟩ : ∃ b, X8n1.heap.size = b := ⟨_, rfl⟩
        rw [hb8] at g8 hb8N nb ⊢
        clear hb8
        try simp only [Act.put, List.setIfInBounds_toArray, List.set_cons_zero, List.set_cons_succ]
        rw [wpSchedB]
        simp only [pick, List.map_nil, Array.getD_eq_getD_getElem?, List.getElem?_toArray, List.getElem?_cons_succ, List.getElem?_cons_zero, Option.getD_some]
        refine wpQuiet_nil ?_
        refine heavyB_want (by rfl) (fun K' hK' => ?_)
        go_simp
        refine (HV3 _ (HX1.out.later (by rw [HNH.out]; exact hN))).mono ?_
        rintro e X8v3 ⟨rfl, hw⟩
        obtain rfl : X8a2 = X8v3 := hw.symm
        refine hK' _ _ (Below.refl _ _) ?_
        clear hK' K' hw
        try simp only [Act.put, List.setIfInBounds_toArray, List.set_cons_zero, List.set_cons_succ]
        rw [wpSchedB]
        simp only [pick, List.map_nil, Array.getD_eq_getD_getElem?, List.getElem?_toArray, List.getElem?_cons_succ, List.getElem?_cons_zero, Option.getD_some]
        refine wpQuiet_nil ?_
        refine heavyB_want (by rfl) (fun K' hK' => ?_)
        refine wp_app (.tmp 64) (.tmp 72) rfl (B := NH) (l := []) hz0 rfl (y := subA (some ⟨g, o, none⟩) c (7 + n)) (m := im) (c := c - (7 + n)) (by rw [HIM.out]; rfl) (HIB _ (HX1.out.later (by rw [HNH.out]; exact hN))) (fun e => by have := subA_none e; cases this) HIL.out (List.nil_append _) hZ (fun xu cu X8p4 hu hq ht => hK' _ _ hq ?_)
        clear hK' K'
        replace g8 := g8.turn ht (fun e => nb (Option.some.inj e).symm)
        clear nb
        replace hN := hN.trans hq
        replace hZ := Nat.le_trans hZ hq.size
        clear hz0 hq ht
        try simp only [Act.put, List.setIfInBounds_toArray, List.set_cons_zero, List.set_cons_succ]
        rw [wpSchedB]
        simp only [pick, List.map_cons, List.map_nil, Array.getD_eq_getD_getElem?, List.getElem?_toArray, List.getElem?_cons_succ, List.getElem?_cons_zero, Option.getD_some]
        (refine wpQuiet_build4 (by rfl) _ (.tmp 56) (.tmp 63) (.tmp 73) (.tmp 74) rfl rfl rfl rfl rfl (built_soft (⟨nm, (v : Int), im, ky, ch, pp⟩ : Ld.Sw) ⟨xu, cu, xp, cp⟩) ?_; try simp only [Act.put, List.setIfInBounds_toArray, List.set_cons_zero, List.set_cons_succ])
        refine wpQuiet_nil ?_
        refine heavyB_want (by rfl) (fun K' hK' => ?_)
        refine wp_storeAt rfl _ (.tmp 8) (.tmp 75) rfl (b := b8) (q := 0) rfl (v := softV (⟨nm, (v : Int), im, ky, ch, pp⟩ : Ld.Sw) ⟨xu, cu, xp, cp⟩) rfl g8 (fun j _ => soft_one _ _ _) soft_size ?_
        intro X8s5 u8
        refine hK' _ _ (u8.below NH _ hb8N (Below.refl _ _)) ?_
        clear hK' K'
        have hu' := hu.aside g8 (u8.turns (fun b => b = b8) _ (fun _ => rfl) (Turns.refl _ _))
        have hun := hu.none_cap
        have hul := fun (p : Addr) (e : xu = some p) => (hu.low p.block (rowOf_sm e)).1
        replace g8 := u8.blk
        replace hN := hN.trans (u8.below NH _ hb8N (Below.refl _ _))
        clear u8 hu hZ hb8N
        try simp only [Act.put, List.setIfInBounds_toArray, List.set_cons_zero, List.set_cons_succ]
        rw [wpSchedB]
        simp only [List.map_nil]
        refine wpQuiet_nil ?_
        exact NormQ.mk ⟨xu, cu, b8, hu', hun, hul, g8, hN, ex_frame (by kernel_rfl)⟩
    · refine heavyB_want (by rfl) (fun K' hK' => ?_)
      refine wp_allocAt _ rfl soft_zero ?_
      intro X8a1 g8 hq hsz
      refine hK' _ _ (hq.mono hZ) ?_
      clear hK' K' hsz
      have hb8N := hZ
      replace hN := hN.trans (hq.mono hZ)
      replace hZ := Nat.le_trans hZ hq.size
      clear hq
      obtain ⟨b8, hb8⟩ : ∃ b, X8.heap.size = b := ⟨_, rfl⟩
      rw [hb8] at g8 hb8N ⊢
      clear hb8
      try simp only [Act.put, List.setIfInBounds_toArray, List.set_cons_zero, List.set_cons_succ]
      rw [wpSchedB]
      simp only [pick, List.map_nil, Array.getD_eq_getD_getElem?, List.getElem?_toArray, List.getElem?_cons_succ, List.getElem?_cons_zero, Option.getD_some]
      refine wpQuiet_nil ?_
      refine ⟨?_, ?_⟩
      · refine heavyB_want (by rfl) (fun K' hK' => ?_)
        go_simp
        refine (HV3 _ (HX1.out.later (by rw [HNH.out]; exact hN))).mono ?_
        rintro e X8v2 ⟨rfl, hw⟩
        obtain rfl : X8a1 = X8v2 := hw.symm
        refine hK' _ _ (Below.refl _ _) ?_
        clear hK' K' hw
        try simp only [Act.put, List.setIfInBounds_toArray, List.set_cons_zero, List.set_cons_succ]
        rw [wpSchedB]
        simp only [pick, List.map_nil, Array.getD_eq_getD_getElem?, List.getElem?_toArray, List.getElem?_cons_succ, List.getElem?_cons_zero, Option.getD_some]
        refine wpQuiet_nil ?_
        refine heavyB_want (by rfl) (fun K' hK' => ?_)
        go_simp
        refine hK' _ _ ((Below.refl _ _).alloc hZ _) ?_
        clear hK' K'
        obtain ⟨X8n3, hXn⟩ : ∃ Y, X8a1.alloc (.cells #[] 5) = Y := ⟨_, rfl⟩
        have hq : Below X8a1.heap.size X8a1 X8n3 := by rw [← hXn]; exact al (Below.refl _ _) _
        have hz0 : OwnsB NH X8n3 (some ⟨X8a1.heap.size, 0, none⟩) 0 [] := by rw [← hXn]; exact OwnsB.made' _ _ _ hZ rfl
        have nb : b8 ≠ X8a1.heap.size := Nat.ne_of_lt (World.block_lt_of_cell? _ _ (g8.at 0 (by decide)).1)
        replace g8 := g8.later hq
        rw [hXn]
        replace hN := hN.trans (hq.mono hZ)
        obtain ⟨bz, hbz⟩ : ∃ b, X8a1.heap.size = b := ⟨_, rfl⟩
        rw [hbz] at hz0 nb ⊢
        replace hZ := Nat.le_trans hZ hq.size
        clear hbz hXn hq
        try simp only [Act.put, List.setIfInBounds_toArray, List.set_cons_zero, List.set_cons_succ]
        rw [wpSchedB]
        simp only [pick, List.map_nil, Array.getD_eq_getD_getElem?, List.getElem?_toArray, List.getElem?_cons_succ, List.getElem?_cons_zero, Option.getD_some]
        refine wpQuiet_nil ?_
        refine heavyB_want (by rfl) (fun K' hK' => ?_)
        refine wp_app (.tmp 64) (.tmp 72) rfl (B := NH) (l := []) hz0 rfl (y := subA (some ⟨g, o, none⟩) c (7 + n)) (m := im) (c := c - (7 + n)) (by rw [HIM.out]; rfl) (HIB _ (HX1.out.later (by rw [HNH.out]; exact hN))) (fun e => by have := subA_none e; cases this) HIL.out (List.nil_append _) hZ (fun xu cu X8p4 hu hq ht => hK' _ _ hq ?_)
        clear hK' K'
        replace g8 := g8.turn ht (fun e => nb (Option.some.inj e).symm)
        clear nb
        replace hN := hN.trans hq
        replace hZ := Nat.le_trans hZ hq.size
        clear hz0 hq ht
        try simp only [Act.put, List.setIfInBounds_toArray, List.set_cons_zero, List.set_cons_succ]
        rw [wpSchedB]
        simp only [pick, List.map_cons, List.map_nil, Array.getD_eq_getD_getElem?, List.getElem?_toArray, List.getElem?_cons_succ, List.getElem?_cons_zero, Option.getD_some]
        (refine wpQuiet_build4 (by rfl) _ (.tmp 56) (.tmp 63) (.tmp 73) (.tmp 74) rfl rfl rfl rfl rfl (built_soft (⟨nm, (v : Int), im, ky, ch, pp⟩ : Ld.Sw) ⟨xu, cu, xp, cp⟩) ?_; try simp only [Act.put, List.setIfInBounds_toArray, List.set_cons_zero, List.set_cons_succ])
        refine wpQuiet_nil ?_
        refine heavyB_want (by rfl) (fun K' hK' => ?_)
        refine wp_storeAt rfl _ (.tmp 8) (.tmp 75) rfl (b := b8) (q := 0) rfl (v := softV (⟨nm, (v : Int), im, ky, ch, pp⟩ : Ld.Sw) ⟨xu, cu, xp, cp⟩) rfl g8 (fun j _ => soft_one _ _ _) soft_size ?_
        intro X8s5 u8
        refine hK' _ _ (u8.below NH _ hb8N (Below.refl _ _)) ?_
        clear hK' K'
        have hu' := hu.aside g8 (u8.turns (fun b => b = b8) _ (fun _ => rfl) (Turns.refl _ _))
        have hun := hu.none_cap
        have hul := fun (p : Addr) (e : xu = some p) => (hu.low p.block (rowOf_sm e)).1
        replace g8 := u8.blk
        replace hN := hN.trans (u8.below NH _ hb8N (Below.refl _ _))
        clear u8 hu hZ hb8N
        try simp only [Act.put, List.setIfInBounds_toArray, List.set_cons_zero, List.set_cons_succ]
        rw [wpSchedB]
        simp only [List.map_nil]
        refine wpQuiet_nil ?_
        exact NormQ.mk ⟨xu, cu, b8, hu', hun, hul, g8, hN, ex_frame (by kernel_rfl)⟩
      · refine heavyB_want (by rfl) (fun K' hK' => ?_)
        go_simp
        refine hK' _ _ ((Below.refl _ _).alloc hZ _) ?_
        clear hK' K'
        obtain ⟨X8n2, hXn⟩ : ∃ Y, X8a1.alloc (.cells #[] 5) = Y := ⟨_, rfl⟩
        have hq : Below X8a1.heap.size X8a1 X8n2 := by rw [← hXn]; exact al (Below.refl _ _) _
        have hz0 : OwnsB NH X8n2 (some ⟨X8a1.heap.size, 0, none⟩) 0 [] := by rw [← hXn]; exact OwnsB.made' _ _ _ hZ rfl
        have nb : b8 ≠ X8a1.heap.size := Nat.ne_of_lt (World.block_lt_of_cell? _ _ (g8.at 0 (by decide)).1)
        replace g8 := g8.later hq
        rw [hXn]
        replace hN := hN.trans (hq.mono hZ)
        obtain ⟨bz, hbz⟩ : ∃ b, X8a1.heap.size = b := ⟨_, rfl⟩
        rw [hbz] at hz0 nb ⊢
        replace hZ := Nat.le_trans hZ hq.size
        clear hbz hXn hq
        try simp only [Act.put, List.setIfInBounds_toArray, List.set_cons_zero, List.set_cons_succ]
        rw [wpSchedB]
        simp only [pick, List.map_nil, Array.getD_eq_getD_getElem?, List.getElem?_toArray, List.getElem?_cons_succ, List.getElem?_cons_zero, Option.getD_some]
        refine wpQuiet_nil ?_
        refine heavyB_want (by rfl) (fun K' hK' => ?_)
        go_simp
        refine (HV3 _ (HX1.out.later (by rw [HNH.out]; exact hN))).mono ?_
        rintro e X8v3 ⟨rfl, hw⟩
        obtain rfl : X8n2 = X8v3 := hw.symm
        refine hK' _ _ (Below.refl _ _) ?_
        clear hK' K' hw
        try simp only [Act.put, List.setIfInBounds_toArray, List.set_cons_zero, List.set_cons_succ]
        rw [wpSchedB]
        simp only [pick, List.map_nil, Array.getD_eq_getD_getElem?, List.getElem?_toArray, List.getElem?_cons_succ, List.getElem?_cons_zero, Option.getD_some]
        refine wpQuiet_nil ?_
        refine heavyB_want (by rfl) (fun K' hK' => ?_)
        refine wp_app (.tmp 64) (.tmp 72) rfl (B := NH) (l := []) hz0 rfl (y := subA (some ⟨g, o, none⟩) c (7 + n)) (m := im) (c := c - (7 + n)) (by rw [HIM.out]; rfl) (HIB _ (HX1.out.later (by rw [HNH.out]; exact hN))) (fun e => by have := subA_none e; cases this) HIL.out (List.nil_append _) hZ (fun xu cu X8p4 hu hq ht => hK' _ _ hq ?_)
        clear hK' K'
        replace g8 := g8.turn ht (fun e => nb (Option.some.inj e).symm)
        clear nb
        replace hN := hN.trans hq
        replace hZ := Nat.le_trans hZ hq.size
        clear hz0 hq ht
        try simp only [Act.put, List.setIfInBounds_toArray, List.set_cons_zero, List.set_cons_succ]
        rw [wpSchedB]
        simp only [pick, List.map_cons, List.map_nil, Array.getD_eq_getD_getElem?, List.getElem?_toArray, List.getElem?_cons_succ, List.getElem?_cons_zero, Option.getD_some]
        (refine wpQuiet_build4 (by rfl) _ (.tmp 56) (.tmp 63) (.tmp 73) (.tmp 74) rfl rfl rfl rfl rfl (built_soft (⟨nm, (v : Int), im, ky, ch, pp⟩ : Ld.Sw) ⟨xu, cu, xp, cp⟩) ?_; try simp only [Act.put, List.setIfInBounds_toArray, List.set_cons_zero, List.set_cons_succ])
        refine wpQuiet_nil ?_
        refine heavyB_want (by rfl) (fun K' hK' => ?_)
        refine wp_storeAt rfl _ (.tmp 8) (.tmp 75) rfl (b := b8) (q := 0) rfl (v := softV (⟨nm, (v : Int), im, ky, ch, pp⟩ : Ld.Sw) ⟨xu, cu, xp, cp⟩) rfl g8 (fun j _ => soft_one _ _ _) soft_size ?_
        intro X8s5 u8
        refine hK' _ _ (u8.below NH _ hb8N (Below.refl _ _)) ?_
        clear hK' K'
        have hu' := hu.aside g8 (u8.turns (fun b => b = b8) _ (fun _ => rfl) (Turns.refl _ _))
        have hun := hu.none_cap
        have hul := fun (p : Addr) (e : xu = some p) => (hu.low p.block (rowOf_sm e)).1
        replace g8 := u8.blk
        replace hN := hN.trans (u8.below NH _ hb8N (Below.refl _ _))
        clear u8 hu hZ hb8N
        try simp only [Act.put, List.setIfInBounds_toArray, List.set_cons_zero, List.set_cons_succ]
        rw [wpSchedB]
        simp only [List.map_nil]
        refine wpQuiet_nil ?_
        exact NormQ.mk ⟨xu, cu, b8, hu', hun, hul, g8, hN, ex_frame (by kernel_rfl)⟩
  rintro a' W8 ⟨xu, cu, b8, hu, hun, hul, g8, hN, u, rfl⟩
  have hb : Below Yne0.heap.size Yne0 W8 := by rw [HNH.out]; exact hN
  have hx1 := HX1.out.later hb
  replace g2 := g2.later hb
  replace pb := pb.later hb
  have hul2 : ∀ p, xu = some p → w.heap.size ≤ p.block := fun p e => Nat.le_trans (by rw [← HNH.out]; exact hB.size) (hul p e)
  replace hB := hB.trans (hb.mono hB.size)
  have NXU : Hid (∀ p, xu = some p → p.block ≠ b2) := fun p e k => Nat.lt_irrefl b2 (Nat.lt_of_lt_of_le z2N (k ▸ hul p e))
  clear hb hN hul HX1 HR4 HIB HV3 w0 w7 w7z j7 j1 j5 j7z
  try dsimp only
  obtain ⟨sw, hsw⟩ : ∃ s, (⟨nm, (v : Int), im, ky, ch, pp⟩ : Ld.Sw) = s := ⟨_, rfl⟩
  replace g8 : Blk W8 b8 0 23 (softV sw ⟨xu, cu, xp, cp⟩) := hsw ▸ g8
  have hin : SwIn W8 sw ⟨xu, cu, xp, cp⟩ := hsw ▸ ⟨hu, hun, pb⟩
  have HNEW : Hid (SwNew w.heap.size ⟨xu, cu, xp, cp⟩) := ⟨hul2, lp⟩
  rw [hsw] at HSW
  clear hsw hu hun pb hul2 lp
  have HOKK : Hid ((decN rt = true ∧ sw.vld = true ∧ Ld.form sw = d) ↔ Ld.okU d = true) := by
    have h0 := HROK.out
    rw [HSW.out, HRT.out] at h0
    exact ⟨fun h => h0.1 ⟨HRL.out, h⟩, fun h => (h0.2 h).2⟩
  by_cases hdn : decN rt = true
  · obtain rfl : code = 0 := by rw [← HCD.out]; exact if_pos hdn
    go_wp2_with (refine wpList_loadN_w rfl _ (.tmp 8) rfl (b := b8) (q := 0) rfl (run_loadSw g8) ?_)
    refine (rvsoft_any sw ⟨xu, cu, xp, cp⟩ _ hin).mono ?_
    rintro e Y0 ⟨rfl, hb⟩
    replace g8 := g8.later hb
    replace hin := hin.later hb
    replace hx1 := hx1.later hb
    replace g2 := g2.later hb
    replace hB := hB.trans (hb.mono hB.size)
    clear hb
    cases hv : sw.vld with
    | false =>
      have HNO := Lib.hid (un_no (d := d) (fun h => by have := (HOKK.out.2 h).2.1; rw [hv] at this; cases this))
      clear hin hx1 g8
      go_wp2_with (refine wpList_storeB rfl rfl _ (.tmp 2) _ rfl (b := b2) (q := 0) rfl (n := 23) (v := softV zSw zA) rfl g2 (fun j _ => soft_one _ _ _) soft_size ?_; intro Y1 t1; refine Hid.out ?_)
      unfold Hid
      have hBE := t1.below w.heap.size w s2 hB
      have l1 := run_loadSw t1.blk
      clear t1 g2 hB
      go_wp2_with fail
      refine bodyPost_ret (v := .tuple #[aggN 23 (softV zSw zA), .int .i64 380]) ?_ rfl ⟨zA, by rw [HNO.out.1, HNO.out.2], by rw [HNO.out.1]; exact zSw_in _, zA_new _, hBE⟩
      rw [results_cell_tmp rfl]
      simp [asAddr, Result.andThen]
      rw [l1]
    | true =>
      go_wp2_with (refine wpList_loadN_w rfl _ (.tmp 8) rfl (b := b8) (q := 0) rfl (run_loadSw g8) ?_)
      refine (rpack_any sw ⟨xu, cu, xp, cp⟩ _ hin hv).mono ?_
      rintro e Y1 ⟨yf, cf, rfl, of_, hb⟩
      replace g8 := g8.later hb
      replace hin := hin.later hb
      replace hx1 := hx1.later hb
      replace g2 := g2.later hb
      replace hB := hB.trans (hb.mono hB.size)
      clear hb
      have hfl := Lib.hid (Ld.form_max sw hv).2
      have heq := requal_any yf (some ⟨g, o, none⟩) (Ld.form sw) d cf c _ of_.bts hx1 (Nat.le_trans hfl.out (by decide))
      rw [HLL.out] at heq
      obtain ⟨qe, hqe⟩ : ∃ b, (Ld.form sw == d) = b := ⟨_, rfl⟩
      rw [hqe] at heq
      have HQE := Lib.hid hqe
      clear hqe of_ hfl
      go_wp2_with fail
      refine heq.mono ?_
      rintro e Y2 ⟨rfl, hb⟩
      clear heq
      replace g8 := g8.later hb
      replace hin := hin.later hb
      replace hx1 := hx1.later hb
      replace g2 := g2.later hb
      replace hB := hB.trans (hb.mono hB.size)
      clear hb
      cases qe with
      | false =>
        have HNO := Lib.hid (un_no (d := d) (fun h => by have := (HOKK.out.2 h).2.2; have h2 := HQE.out; rw [this, beq_self_eq_true] at h2; cases h2))
        clear hin hx1 g8
        go_wp2_with (refine wpList_storeB rfl rfl _ (.tmp 2) _ rfl (b := b2) (q := 0) rfl (n := 23) (v := softV zSw zA) rfl g2 (fun j _ => soft_one _ _ _) soft_size ?_; intro Y1 t1; refine Hid.out ?_)
        unfold Hid
        have hBE := t1.below w.heap.size w s2 hB
        have l1 := run_loadSw t1.blk
        clear t1 g2 hB
        go_wp2_with fail
        refine bodyPost_ret (v := .tuple #[aggN 23 (softV zSw zA), .int .i64 380]) ?_ rfl ⟨zA, by rw [HNO.out.1, HNO.out.2], by rw [HNO.out.1]; exact zSw_in _, zA_new _, hBE⟩
        rw [results_cell_tmp rfl]
        simp [asAddr, Result.andThen]
        rw [l1]
      | true =>
        have HOKD : Hid (Ld.okU d = true) := HOKK.out.1 ⟨hdn, hv, by have := HQE.out; rwa [beq_iff_eq] at this⟩
        have HSH : Hid (Ld.short d = false) := by have h := HOKD.out; unfold Ld.okU at h; simp only [Bool.and_eq_true, Bool.not_eq_true'] at h; exact h.1
        have HYE : Hid (unS d = sw ∧ unC d = 0) := by have h := un_yes HOKD.out; rw [← (Ld.rsw_eq HSH.out).2, HSW.out] at h; exact h
        clear hx1
        go_wp2_with (first | (refine wpList_loadN rfl _ (.tmp 8) rfl (b := b8) (q := 0) rfl (run_loadSw g8) ?_) | (refine wpList_storeB rfl rfl _ (.tmp 2) _ rfl (b := b2) (q := 0) rfl (n := 23) (v := softV sw ⟨xu, cu, xp, cp⟩) rfl g2 (fun j _ => soft_one _ _ _) soft_size ?_; intro Y3 t1; refine Hid.out ?_))
        unfold Hid
        have tn := t1.turns (fun b => b = b2) Y2 (fun _ => rfl) (Turns.refl _ _)
        have hBE := t1.below w.heap.size w s2 hB
        replace hin := hin.turn tn (fun a e k => NXU.out a e k) (fun a e k => NXP.out a e k)
        have l1 := run_loadSw t1.blk
        clear t1 g2 hB g8 tn
        go_wp2_with fail
        refine bodyPost_ret (v := .tuple #[aggN 23 (softV sw ⟨xu, cu, xp, cp⟩), .int .i64 0]) ?_ rfl ⟨⟨xu, cu, xp, cp⟩, by rw [HYE.out.1, HYE.out.2], by rw [HYE.out.1]; exact hin, HNEW.out, hBE⟩
        rw [results_cell_tmp rfl]
        simp [asAddr, Result.andThen]
        rw [l1]
  obtain rfl : code = 60 := by rw [← HCD.out]; exact if_neg hdn
  have HNO := Lib.hid (un_no (d := d) (fun h => hdn (HOKK.out.2 h).1))
  clear hin hx1 g8
  go_wp2_with (refine wpList_storeB rfl rfl _ (.tmp 2) _ rfl (b := b2) (q := 0) rfl (n := 23) (v := softV zSw zA) rfl g2 (fun j _ => soft_one _ _ _) soft_size ?_; intro Y1 t1; refine Hid.out ?_)
  unfold Hid
  have hBE := t1.below w.heap.size w s2 hB
  have l1 := run_loadSw t1.blk
  clear t1 g2 hB
  go_wp2_with fail
  refine bodyPost_ret (v := .tuple #[aggN 23 (softV zSw zA), .int .i64 380]) ?_ rfl ⟨zA, by rw [HNO.out.1, HNO.out.2], by rw [HNO.out.1]; exact zSw_in _, zA_new _, hBE⟩
  rw [results_cell_tmp rfl]
  simp [asAddr, Result.andThen]
  rw [l1]

end Go.Proofs.YtapefonhgkjgnaaGreat
