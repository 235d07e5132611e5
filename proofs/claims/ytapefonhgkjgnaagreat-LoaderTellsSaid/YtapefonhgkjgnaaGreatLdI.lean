/- WALKS of the loader: Unpack. -/
import Derived.Test.YtapefonhgkjgnaaGreatLdH
import Derived.Test.YtapefonhgkjgnaaGreatLdD
set_option maxRecDepth 20000
namespace Go.Proofs.YtapefonhgkjgnaaGreat
open Go.RowKit

def dC (l : List UInt8) : Int := if decN l = true then 0 else 60
theorem sdec_any (x : Option Addr) (l : List UInt8) (c : Nat) (w : World) (hx : Bts w x l) : Calls Tryz.prog 33 #[.slice x l.length c] w fun e w' => ∃ y cy, e = .returned (.tuple #[aggN 20 (sigV (Ld.dKey l) (Ld.dCh l) y (Ld.dPath l).length cy), .int .i64 (dC l)]) ∧ OwnsW w.heap.size w' y cy (Ld.dPath l) ∧ Below w.heap.size w w' := by
  by_cases hd : decN l = true
  · obtain ⟨_, hv, hl⟩ := (Ld.decN_iff l).1 hd
    refine (decode_ok x l c w hx hv hl).mono ?_
    rintro e w' ⟨y, cy, rfl, ho, hb⟩
    have e1 : Ld.dKey l = ((l.getD 0 0).toNat : Int) := if_pos hd
    have e2 : Ld.dCh l = Ld.cut18 (fun i => Sgn.wd l (2 + 8 * i) 8) := if_pos hd
    have e3 : Ld.dPath l = Sgn.wds l (l.getD 1 0).toNat := if_pos hd
    have e4 : dC l = 0 := if_pos hd
    rw [e1, e2, e3, e4]
    refine ⟨y, cy, ?_, ho, hb⟩
    rw [Sgn.wds_length]
    refine congrArg (fun v => Ending.returned (.tuple #[v, .int .i64 0])) ?_
    refine aggN_congr fun j hj => ?_
    unfold sigV
    split
    · rfl
    · split
      · rw [Ld.cut18_lt _ _ (by omega)]
      · rfl
  · refine (decode_no x l c w hx (by simpa using hd)).mono ?_
    rintro e w' ⟨rfl, hb⟩
    have e1 : Ld.dKey l = 0 := if_neg hd
    have e2 : Ld.dCh l = fun _ => 0#64 := if_neg hd
    have e3 : Ld.dPath l = [] := if_neg hd
    have e4 : dC l = 60 := if_neg hd
    rw [e1, e2, e3, e4]
    exact ⟨none, 0, rfl, World.ownsRow_nil _ _ _ _, hb⟩

theorem Blk.setName {W : World} {b : Nat} {s : Ld.Sw} {a : SwA} (h : Blk W b 0 23 (softV s a)) (nm : List UInt8) : Blk (W.setCell ⟨b, 0, none⟩ (.string ⟨nm.toArray⟩)) b 0 23 (softV { s with name := nm } a) :=
  (h.set0 0 (by omega) _).congr fun j _ => by
    by_cases hj : j = 0
    · rw [if_pos hj]; unfold softV; rw [if_pos hj]
    · rw [if_neg hj]; unfold softV; rw [if_neg hj, if_neg hj]
theorem Blk.setVer {W : World} {b : Nat} {s : Ld.Sw} {a : SwA} (h : Blk W b 0 23 (softV s a)) (v : Int) : Blk (W.setCell ⟨b, 1, none⟩ (.int .i64 v)) b 0 23 (softV { s with ver := v } a) :=
  (h.set0 1 (by omega) _).congr fun j _ => by
    by_cases hj : j = 1
    · rw [if_pos hj]; subst hj; rfl
    · rw [if_neg hj]; unfold softV
      by_cases h0 : j = 0
      · rw [if_pos h0, if_pos h0]
      · rw [if_neg h0, if_neg hj, if_neg h0, if_neg hj]
theorem Blk.setImg {W : World} {b : Nat} {s : Ld.Sw} {a : SwA} (h : Blk W b 0 23 (softV s a)) (im : List UInt8) (x : Option Addr) (c : Nat) : Blk (W.setCell ⟨b, 2, none⟩ (.slice x im.length c)) b 0 23 (softV { s with img := im } { a with xi := x, ci := c }) :=
  (h.set0 2 (by omega) _).congr fun j _ => by
    by_cases hj : j = 2
    · rw [if_pos hj]; subst hj; rfl
    · rw [if_neg hj]; unfold softV
      by_cases h0 : j = 0
      · rw [if_pos h0, if_pos h0]
      · rw [if_neg h0, if_neg h0]
        by_cases h1 : j = 1
        · rw [if_pos h1, if_pos h1]
        · rw [if_neg h1, if_neg hj, if_neg h1, if_neg hj]
theorem Blk.setSig {W W2 : World} {b : Nat} {s : Ld.Sw} {a : SwA} (h : Blk W b 0 23 (softV s a)) {key : Int} {ch : Nat → D64} {p : List D64} {x : Option Addr} {c : Nat} (hs : BlkSet b 3 20 (sigV key ch x p.length c) W W2) :
    Blk W2 b 0 23 (softV { s with key := key, ch := ch, path := p } { a with xp := x, cp := c }) := by
  intro j hj
  rw [Nat.zero_add]
  refine ⟨?_, (hs.frozen _).trans (h.at j hj).2⟩
  by_cases h3 : 3 ≤ j
  · have := (hs.blk (j - 3) (by omega)).1
    rw [show 3 + (j - 3) = j by omega] at this
    rw [this]
    unfold softV
    rw [if_neg (by omega), if_neg (by omega), if_neg (by omega)]
  · rw [hs.cell ⟨b, j, none⟩ (fun _ _ => by show j < 3 ∨ 3 + 20 ≤ j; omega), (h.at j hj).1]
    unfold softV
    by_cases h0 : j = 0
    · rw [if_pos h0, if_pos h0]
    · rw [if_neg h0, if_neg h0]
      by_cases h1 : j = 1
      · rw [if_pos h1, if_pos h1]
      · rw [if_neg h1, if_neg h1, if_pos (by omega), if_pos (by omega)]

theorem SwIn.turn {A B : World} {s : Ld.Sw} {a : SwA} {T : Nat → Prop} (h : SwIn A s a) (ht : Turns T A B) (h1 : ∀ p, a.xi = some p → ¬ T p.block) (h2 : ∀ p, a.xp = some p → ¬ T p.block) : SwIn B s a := ⟨h.1.turn ht h1, h.2.1, h.2.2.turn ht h2⟩
def unS (d : List UInt8) : Ld.Sw := if Ld.okU d = true then Ld.swOf d else zSw
def unC (d : List UInt8) : Int := if Ld.okU d = true then 0 else 380
/-- Software's slices lie in memory that is new. -/
def SwNew (B : Nat) (a : SwA) : Prop := (∀ p, a.xi = some p → B ≤ p.block) ∧ (∀ p, a.xp = some p → B ≤ p.block)
theorem zA_new (B : Nat) : SwNew B zA := ⟨fun p e => (by cases e), fun p e => (by cases e)⟩
def UnOf (d : List UInt8) (w : World) (e : Ending) (w' : World) : Prop := ∃ a, e = .returned (.tuple #[aggN 23 (softV (unS d) a), .int .i64 (unC d)]) ∧ SwIn w' (unS d) a ∧ SwNew w.heap.size a ∧ Below w.heap.size w w'
theorem take_len (C D b1 b2 n : Nat) (r : List UInt8 × Bool) (W : World) (h : TS C b1 b2 r W) (hC : C ≤ b1 ∧ C ≤ b2 ∧ b1 ≠ b2 ∧ b1 < D ∧ b2 < D) (hD : D ≤ W.heap.size) (hn : n ≤ 70000) :
    Calls Tryz.prog 30 #[.int .i64 (n : Int), .pointer (some ⟨b1, 0, none⟩), .pointer (some ⟨b2, 0, none⟩)] W fun e W' => ∃ y cy, e = .returned (.slice y (Ld.tk n r).1.length cy) ∧ Bts W' y (Ld.tk n r).1 ∧ (y = none → cy = 0) ∧ TS C b1 b2 (Ld.tk n r).2 W' ∧ Turns (fun b => b = b1 ∨ b = b2) W W' ∧ Below C W W' := by
  refine (take_any C D b1 b2 n r W h hC hD hn).mono ?_
  rintro e W' ⟨y, cy, rfl, h1, h2, _, h4, h5, h6⟩
  rw [Ld.tk_len]
  exact ⟨y, cy, rfl, h1, h2, h4, h5, h6⟩
theorem i64_nat (d : D64) (v : Nat) (h : d.toNat = v) (hv : v < 9223372036854775808) : IntKind.i64.wrap (num d) = (v : Int) := by
  unfold num
  rw [h]
  simp [IntKind.wrap, IntKind.bits, IntKind.signed]
  omega
set_option maxHeartbeats 8000000 in
theorem unpack_any (x : Option Addr) (d : List UInt8) (c : Nat) (w : World) (hx : Bts w x d) (hn : x = none → c = 0) (hc : d.length ≤ c ∧ c ≤ 9223372036854775807) (hxb : ∀ a, x = some a → a.block < w.heap.size) :
    Calls Tryz.prog 10 #[.slice x d.length c] w (UnOf d w) := by
  obtain ⟨C, hCe⟩ : ∃ C, w.heap.size = C := ⟨_, rfl⟩
  go_enter Tryz.func10, Tryz.ntmps10
  go_wp2_with (refine wpList_allocTo 2 rfl rfl _ rfl soft_zero ?_; intro X0 g0 hb0 hz0; refine Hid.out ?_)
  unfold Hid
  try simp only [Act.put, List.setIfInBounds_toArray, List.set_cons_zero, List.set_cons_succ]
  have hx0 := hx.later hb0
  rw [hCe] at g0 hb0 hz0 hxb ⊢
  go_wp2_with (refine wpList_allocTo 7 rfl rfl _ rfl soft_zero ?_; intro X g3 hb hz; refine Hid.out ?_)
  unfold Hid
  try simp only [Act.put, List.setIfInBounds_toArray, List.set_cons_zero, List.set_cons_succ]
  have hbt : Below X0.heap.size X0 X := (((Below.refl _ X0).alloc (Nat.le_refl _) _).alloc (by simp only [World.size_alloc]; omega) _).trans (hb.mono (by simp only [World.size_alloc]; omega))
  have cr := later (a := ⟨C + 1, 0, none⟩) (v := .slice x d.length c) hb (by go_simp)
  have cs := later (a := ⟨C + 1 + 1, 0, none⟩) (v := .bool false) hb (by go_simp)
  have fr : X.frozen? ⟨C + 1, 0, none⟩ = false := (Below.frozen hb (p := ⟨C + 1, 0, none⟩) (by simp <;> omega)).trans (show _ = false by go_simp)
  have fs : X.frozen? ⟨C + 1 + 1, 0, none⟩ = false := (Below.frozen hb (p := ⟨C + 1 + 1, 0, none⟩) (by simp <;> omega)).trans (show _ = false by go_simp)
  simp only [World.size_alloc, hz0] at g3 hz ⊢
  obtain ⟨b1, hb1⟩ : ∃ b, C + 1 = b := ⟨_, rfl⟩
  rw [hb1] at cr cs fr fs g3 hz hz0 ⊢
  obtain ⟨b2, hb2⟩ : ∃ b, b1 + 1 = b := ⟨_, rfl⟩
  rw [hb2] at cs fs g3 hz ⊢
  obtain ⟨b3, hb3⟩ : ∃ b, b2 + 1 = b := ⟨_, rfl⟩
  rw [hb3] at g3 hz ⊢
  obtain ⟨D, hDe⟩ : ∃ b, b3 + 1 = b := ⟨_, rfl⟩
  rw [hDe] at hz
  have hS : D ≤ X.heap.size := by omega
  have hC : C ≤ b1 ∧ C ≤ b2 ∧ b1 ≠ b2 ∧ b1 < D ∧ b2 < D := by omega
  have hT : TS C b1 b2 (d, false) X := ⟨x, c, cr, hx0.later hbt, hn, hc.1, hc.2, hxb, cs, fr, fs⟩
  have g0 := g0.later hbt
  have hB : Below C w X := hb0.trans (hbt.mono (by omega))
  have hno : ∀ b, (b = b1 ∨ b = b2) → b ≠ C ∧ b ≠ b3 := by omega
  clear hb0 hb hx hx0 hbt cr cs fr fs hn hc hxb
  obtain ⟨q1, h1⟩ : ∃ q, Ld.r1 d = q := ⟨_, rfl⟩
  have e1 : Ld.tk 1 (d, false) = q1 := h1
  obtain ⟨v, hv⟩ : ∃ v, q1.1.getD 0 0 = v := ⟨_, rfl⟩
  obtain ⟨q2, h2⟩ : ∃ q, Ld.r2 d = q := ⟨_, rfl⟩
  have e2 : Ld.tk v.toNat q1.2 = q2 := by rw [← h2]; unfold Ld.r2; rw [h1, hv]
  obtain ⟨q3, h3⟩ : ∃ q, Ld.r3 d = q := ⟨_, rfl⟩
  have e3 : Ld.tk 4 q2.2 = q3 := by rw [← h3]; unfold Ld.r3; rw [h2]
  obtain ⟨q4, h4⟩ : ∃ q, Ld.r4 d = q := ⟨_, rfl⟩
  have e4 : Ld.tk 2 q3.2 = q4 := by rw [← h4]; unfold Ld.r4; rw [h3]
  obtain ⟨N, hN⟩ : ∃ N, Ld.nat q4.1 = N := ⟨_, rfl⟩
  obtain ⟨q5, h5⟩ : ∃ q, Ld.r5 d = q := ⟨_, rfl⟩
  have e5 : Ld.tk N q4.2 = q5 := by rw [← h5]; unfold Ld.r5; rw [h4, hN]
  have n1 : q1.1.length = 1 := by rw [← h1]; exact Ld.r1_len d
  have n3 : q3.1.length = 4 := by rw [← h3]; exact Ld.r3_len d
  have n4 : q4.1.length = 2 := by rw [← h4]; exact Ld.r4_len d
  have n5 : q5.1.length = N := by rw [← h5]; have := Ld.r5_len d; rwa [h4, hN] at this
  have hN16 : N ≤ 65535 := by have := Ld.nat_lt q4.1; rw [n4, hN] at this; omega
  obtain ⟨V, hV⟩ : ∃ V, Ld.nat q3.1 = V := ⟨_, rfl⟩
  have hV32 : V < 4294967296 := by have := Ld.nat_lt q3.1; rw [n3, hV] at this; omega
  have w3 := i64_nat _ V ((Ld.wd_nat q3.1 (by omega)).trans hV) (by omega)
  have w4 := i64_nat _ N ((Ld.wd_nat q4.1 (by omega)).trans hN) (by omega)
  have HSW : Hid (Ld.swOf d = ⟨q2.1, (V : Int), q5.1, Ld.dKey q5.2.1, Ld.dCh q5.2.1, Ld.dPath q5.2.1⟩) := by
    show _ = _
    unfold Ld.swOf Ld.rest
    rw [h2, h3, h5, hV]
  have HOK : Hid (Ld.okU d = (!q5.2.2 && (decN q5.2.1 && (Ld.swOf d).vld))) := by
    show _ = _
    unfold Ld.okU Ld.rest Ld.short
    rw [h5]
  have vb := v.toNat_lt
  have T1 := fun W h hD => take_len C D b1 b2 1 (d, false) W h hC hD (by omega)
  have T2 := fun W h hD => take_len C D b1 b2 v.toNat q1.2 W h hC hD (by omega)
  have T3 := fun W h hD => take_len C D b1 b2 4 q2.2 W h hC hD (by omega)
  have T4 := fun W h hD => take_len C D b1 b2 2 q3.2 W h hC hD (by omega)
  have T5 := fun W h hD => take_len C D b1 b2 N q4.2 W h hC hD (by omega)
  simp only [e1, n1] at T1
  simp only [e2] at T2
  simp only [e3] at T3
  simp only [e4] at T4
  simp only [e5] at T5
  have i3 : q3.1.length ≤ 8 := by omega
  have i4 : q4.1.length ≤ 8 := by omega
  have i5 : q5.1.length ≤ 100000 := by omega
  have V3 := fun (y : Option Addr) (cy : Nat) (W : World) (h : Bts W y q3.1) => value_any y q3.1 cy W h i3
  have V4 := fun (y : Option Addr) (cy : Nat) (W : World) (h : Bts W y q4.1) => value_any y q4.1 cy W h i4
  obtain ⟨d3, hd3⟩ : ∃ d3, Sgn.wd q3.1 0 q3.1.length = d3 := ⟨_, rfl⟩
  obtain ⟨d4, hd4⟩ : ∃ d4, Sgn.wd q4.1 0 q4.1.length = d4 := ⟨_, rfl⟩
  rw [hd3] at w3
  rw [hd4] at w4
  simp only [hd3] at V3
  simp only [hd4] at V4
  have B5 := fun (y : Option Addr) (cy : Nat) (W : World) (h : Bts W y q5.1) => bclone_any y q5.1 cy W h i5
  have HN1 := Lib.hid n1
  have HV1 := Lib.hid hv
  have HN5 := Lib.hid (show q5.1.length ≤ 65535 by omega)
  clear e1 e2 e3 e4 e5 h1 h2 h3 h4 h5 n1 n3 n4 n5 hv hV hN hd3 hd4 i3 i4 i5
  go_wp2_with fail
  refine (T1 _ hT hS).mono ?_
  rintro e W1 ⟨y, cy, rfl, yb, _, hT1, ht, hb⟩
  have g0 := g0.turn ht (fun h => (hno _ h).1 rfl)
  have g3 := g3.turn ht (fun h => (hno _ h).2 rfl)
  replace hB := hB.trans hb
  replace hS := Nat.le_trans hS ht.size
  clear hb ht hT T1
  obtain ⟨gy, oy, rfl, hcy⟩ := yb.at (by rw [HN1.out]; decide)
  have ky := hcy 0 (by rw [HN1.out]; decide)
  rw [Nat.add_zero, HV1.out] at ky
  clear hcy yb
  go_wp2_with fail
  refine (T2 _ hT1 hS).mono ?_
  rintro e W2 ⟨y2, cy2, rfl, yb, _, hT2, ht, hb⟩
  have g0 := g0.turn ht (fun h => (hno _ h).1 rfl)
  have g3 := g3.turn ht (fun h => (hno _ h).2 rfl)
  replace hB := hB.trans hb
  replace hS := Nat.le_trans hS ht.size
  clear hb ht hT1 T2 ky
  have hcv := run_conv (P := Tryz.prog) (src := 22) (dst := 9) Tryz.underlying22 Tryz.underlying5 str_under yb cy2
  have k30 := (g3.at 0 (by omega)).1
  have f30 := (g3.at 0 (by omega)).2
  clear yb
  go_wp2_with fail
  have tn : Turns (fun b => b = b3) W2 (W2.setCell ⟨b3, 0, none⟩ (.string ⟨q2.1.toArray⟩)) := (Turns.refl (fun b => b = b3) W2).setCell (p := ⟨b3, 0, none⟩) (fun _ => rfl) _
  have hT := hT2.turn tn (fun b e => by subst e; omega)
  have g0 := g0.turn tn (fun e => by omega)
  have g3 := g3.setName q2.1
  have hB := hB.trans (tn.below (B := C) (by omega) (fun i hi e => by omega))
  have hS : D ≤ (W2.setCell ⟨b3, 0, none⟩ (.string ⟨q2.1.toArray⟩)).heap.size := Nat.le_trans hS tn.size
  clear tn hT2
  clear k30 f30 hcv
  refine (T3 _ hT hS).mono ?_
  rintro e W3 ⟨y3, cy3, rfl, yb, yn, hT3, ht, hb⟩
  have g0 := g0.turn ht (fun h => (hno _ h).1 rfl)
  have g3 := g3.turn ht (fun h => (hno _ h).2 rfl)
  replace hB := hB.trans hb
  replace hS := Nat.le_trans hS ht.size
  clear hb ht hT T3
  go_wp2_with fail
  refine (V3 _ _ _ yb).mono ?_
  rintro e W3' ⟨rfl, hw⟩
  obtain rfl : W3 = W3' := hw.symm
  have k31 := (g3.at 1 (by omega)).1
  have f31 := (g3.at 1 (by omega)).2
  clear yb yn V3 hw
  go_wp2_with fail
  have tn : Turns (fun b => b = b3) W3 (W3.setCell ⟨b3, 1, none⟩ (.int .i64 (V : Int))) := (Turns.refl (fun b => b = b3) W3).setCell (p := ⟨b3, 1, none⟩) (fun _ => rfl) _
  have hT := hT3.turn tn (fun b e => by subst e; omega)
  have g0 := g0.turn tn (fun e => by omega)
  have g3 := g3.setVer (V : Int)
  have hB := hB.trans (tn.below (B := C) (by omega) (fun i hi e => by omega))
  have hS : D ≤ (W3.setCell ⟨b3, 1, none⟩ (.int .i64 (V : Int))).heap.size := Nat.le_trans hS tn.size
  clear tn hT3
  clear k31 f31
  refine (T4 _ hT hS).mono ?_
  rintro e W4 ⟨y4, cy4, rfl, yb, yn, hT4, ht, hb⟩
  have g0 := g0.turn ht (fun h => (hno _ h).1 rfl)
  have g3 := g3.turn ht (fun h => (hno _ h).2 rfl)
  replace hB := hB.trans hb
  replace hS := Nat.le_trans hS ht.size
  clear hb ht hT T4
  go_wp2_with fail
  refine (V4 _ _ _ yb).mono ?_
  rintro e W4' ⟨rfl, hw⟩
  obtain rfl : W4 = W4' := hw.symm
  clear yb yn V4 hw
  go_wp2_with fail
  refine (T5 _ hT4 hS).mono ?_
  rintro e W5 ⟨y5, cy5, rfl, yb, yn, hT5, ht, hb⟩
  have g0 := g0.turn ht (fun h => (hno _ h).1 rfl)
  have g3 := g3.turn ht (fun h => (hno _ h).2 rfl)
  replace hB := hB.trans hb
  replace hS := Nat.le_trans hS ht.size
  clear hb ht hT4 T5
  go_wp2_with fail
  refine (B5 _ _ _ yb).mono ?_
  rintro e W6 ⟨x5, c5, rfl, ob, hb⟩
  have hT6 := hT5.turn (T := fun _ => False) (Turns.of_below hb (Nat.le_refl _)) (fun _ e => e.elim)
  have g0 := g0.later hb
  have g3 := g3.later hb
  have hB := hB.trans (hb.mono (by omega))
  have lo := ob.low
  have ib := ob.bts
  have lx : ∀ a, x5 = some a → D ≤ a.block := fun a e => by subst e; have := (lo a.block rfl).1; omega
  have ino := ob.none_cap
  have hS6 := Nat.le_trans hS hb.size
  have k32 := (g3.at 2 (by omega)).1
  have f32 := (g3.at 2 (by omega)).2
  clear hb hT5 yb yn B5 ob
  obtain ⟨xr, cr, hr1, hr2, _, _, _, hr6, hs7, _, _⟩ := hT6
  have n13 : ¬ b1 = b3 := by omega
  have n31 : ¬ b3 = b1 := by omega
  go_wp2_with fail
  have tn : Turns (fun b => b = b3) W6 (W6.setCell ⟨b3, 2, none⟩ (.slice x5 q5.1.length c5)) := (Turns.refl (fun b => b = b3) W6).setCell (p := ⟨b3, 2, none⟩) (fun _ => rfl) _
  refine (sdec_any xr q5.2.1 cr _ (hr2.turn tn (fun a e k => by have := hr6 a e; omega))).mono ?_
  rintro e W7 ⟨xp, cp, rfl, ow, hb⟩
  have g0 := (g0.turn tn (fun e => by omega)).later hb
  have g3 := (g3.setImg q5.1 x5 c5).later hb
  have cs := later hb (tn.cell (p := ⟨b2, 0, none⟩) (show ¬ b2 = b3 by omega) hs7)
  have ib := (ib.turn tn (fun a e k => by subst e; have := (lo a.block rfl).1; omega)).later hb
  have pb := ow.wts
  have lp : ∀ a, xp = some a → D ≤ a.block := fun a e => by subst e; have := (ow.low a.block rfl).1; have := tn.size; omega
  have hB := (hB.trans (tn.below (B := C) (by omega) (fun i hi e => by omega))).trans (hb.mono (by have := tn.size; omega))
  have hS7 : D ≤ W7.heap.size := Nat.le_trans hS6 (Nat.le_trans tn.size hb.size)
  clear hb tn hr1 hr2 hr6 hs7 k32 f32 lo ow hS hS6
  obtain ⟨ky, hky⟩ : ∃ k, Ld.dKey q5.2.1 = k := ⟨_, rfl⟩
  obtain ⟨ch, hch⟩ : ∃ k, Ld.dCh q5.2.1 = k := ⟨_, rfl⟩
  obtain ⟨pp, hpp⟩ : ∃ k, Ld.dPath q5.2.1 = k := ⟨_, rfl⟩
  rw [hky, hch, hpp] at HSW ⊢
  rw [hpp] at pb
  clear hky hch hpp
  go_wp2_with (refine wpList_allocTo 8 rfl rfl _ rfl sig_zero ?_; intro X8 g8 hb8 hz8; refine Hid.out ?_)
  unfold Hid
  try simp only [Act.put, List.setIfInBounds_toArray, List.set_cons_zero, List.set_cons_succ]
  go_wp2_with (refine wpList_storeB rfl rfl _ (.tmp 8) _ rfl (b := W7.heap.size) (q := 0) rfl (n := 20) (v := sigV ky ch xp pp.length cp) rfl g8 (fun j _ => sig_one _ _ _ _ _ j) sig_size ?_; intro X9 t9; refine Hid.out ?_)
  unfold Hid
  have tn := t9.turns (fun b => b = W7.heap.size) X8 (fun _ => rfl) (Turns.refl _ _)
  have tb := Turns.of_below (T := fun b => b = W7.heap.size) hb8 (Nat.le_refl _)
  have tt := tb.trans tn
  have g0 := g0.turn tt (fun e => by omega)
  have g3 := g3.turn tt (fun e => by omega)
  have cs := tt.cell (p := ⟨b2, 0, none⟩) (show ¬ b2 = W7.heap.size by omega) cs
  have hbb := tt.below (B := W7.heap.size) (Nat.le_refl _) (fun i hi e => by omega)
  have ib := ib.later hbb
  have pb := pb.later hbb
  have hB := hB.trans (hbb.mono (by omega))
  have hS9 : D ≤ X9.heap.size := Nat.le_trans hS7 tt.size
  have l9 := run_loadSg t9.blk
  clear tn tb tt hbb t9 hb8 hz8 g8
  go_wp2_with (first | (refine wpList_loadN rfl _ (.tmp 8) rfl (b := W7.heap.size) (q := 0) rfl l9 ?_) | (refine wpList_storeB rfl rfl _ (.tmp 40) _ rfl (b := b3) (q := 3) rfl (n := 20) (v := sigV ky ch xp pp.length cp) rfl g3.sig (fun j _ => sig_one _ _ _ _ _ j) sig_size ?_; intro X10 t10; refine Hid.out ?_))
  unfold Hid
  have g3 := g3.setSig t10
  have tn := t10.turns (fun b => b = b3) X9 (fun _ => rfl) (Turns.refl _ _)
  have g0 := g0.turn tn (fun e => by omega)
  have cs := tn.cell (p := ⟨b2, 0, none⟩) (show ¬ b2 = b3 by omega) cs
  have ib := ib.turn tn (fun a e k => by have := lx a e; omega)
  have pb := pb.turn tn (fun a e k => by have := lp a e; omega)
  have hB := hB.trans (tn.below (B := C) (by omega) (fun i hi e => by omega))
  have hS10 : D ≤ X10.heap.size := Nat.le_trans hS9 tn.size
  clear tn t10 l9 hS9 hS7
  obtain ⟨sw, hsw⟩ : ∃ s, (⟨q2.1, (V : Int), q5.1, ky, ch, pp⟩ : Ld.Sw) = s := ⟨_, rfl⟩
  have g3 : Blk X10 b3 0 23 (softV sw ⟨x5, c5, xp, cp⟩) := hsw ▸ g3
  have hin : SwIn X10 sw ⟨x5, c5, xp, cp⟩ := hsw ▸ ⟨ib, ino, pb⟩
  rw [hsw] at HSW
  rw [HSW.out] at HOK
  have HV := vsoft_any sw ⟨x5, c5, xp, cp⟩
  obtain ⟨sh, hsh⟩ : ∃ b, q5.2.2 = b := ⟨_, rfl⟩
  rw [hsh] at cs HOK
  obtain ⟨v2, hv2⟩ : ∃ b, sw.vld = b := ⟨_, rfl⟩
  rw [hv2] at HV HOK
  unfold dC
  obtain ⟨dn, hdn⟩ : ∃ b, decN q5.2.1 = b := ⟨_, rfl⟩
  rw [hdn] at HOK ⊢
  have e1 : unS d = if (!sh && (dn && v2)) = true then sw else zSw := by unfold unS; rw [HSW.out, HOK.out]
  have e2 : unC d = if (!sh && (dn && v2)) = true then 0 else 380 := by unfold unC; rw [HOK.out]
  have E1 := Lib.hid e1
  have E2 := Lib.hid e2
  obtain ⟨code, hcd⟩ : ∃ z : Int, (if dn = true then (0 : Int) else 60) = z := ⟨_, rfl⟩
  rw [hcd]
  have HCD := Lib.hid hcd
  clear HSW HOK hsw ib pb ino hsh hv2 hdn e1 e2 hcd
  cases sh with
  | true =>
    clear HV hin
    go_wp2_with (refine wpList_storeB rfl rfl _ (.tmp 2) _ rfl (b := C) (q := 0) rfl (n := 23) (v := softV zSw zA) rfl g0 (fun j _ => soft_one _ _ _) soft_size ?_; intro Y1 u1; refine Hid.out ?_)
    unfold Hid
    have hB := u1.below C w (Nat.le_refl _) hB
    have l1 := run_loadSw u1.blk
    clear u1 g0 g3
    go_wp2_with fail
    unfold UnOf
    rw [E1.out, E2.out]
    refine bodyPost_ret (v := .tuple #[aggN 23 (softV zSw zA), .int .i64 380]) ?_ rfl ⟨zA, rfl, zSw_in _, zA_new _, by rw [hCe]; exact hB⟩
    rw [results_cell_tmp rfl]
    simp [asAddr, Result.andThen]
    rw [l1]
  | false =>
    cases dn with
    | false =>
      obtain rfl : code = 60 := HCD.out.symm
      clear HV hin
      go_wp2_with (refine wpList_storeB rfl rfl _ (.tmp 2) _ rfl (b := C) (q := 0) rfl (n := 23) (v := softV zSw zA) rfl g0 (fun j _ => soft_one _ _ _) soft_size ?_; intro Y1 u1; refine Hid.out ?_)
      unfold Hid
      have hB := u1.below C w (Nat.le_refl _) hB
      have l1 := run_loadSw u1.blk
      clear u1 g0 g3
      go_wp2_with fail
      unfold UnOf
      rw [E1.out, E2.out]
      refine bodyPost_ret (v := .tuple #[aggN 23 (softV zSw zA), .int .i64 380]) ?_ rfl ⟨zA, rfl, zSw_in _, zA_new _, by rw [hCe]; exact hB⟩
      rw [results_cell_tmp rfl]
      simp [asAddr, Result.andThen]
      rw [l1]
    | true =>
      obtain rfl : code = 0 := HCD.out.symm
      go_wp2_with (refine wpList_loadN_w rfl _ _ rfl (b := b3) (q := 0) rfl (run_loadSw g3) ?_)
      refine (HV _ hin).mono ?_
      rintro e Y0 ⟨rfl, hb⟩
      have g0 := g0.later hb
      have g3 := g3.later hb
      have hin := hin.later hb
      have hB := hB.trans (hb.mono (by omega))
      have hSY := Nat.le_trans hS10 hb.size
      clear hb HV
      cases v2 with
      | false =>
        clear hin
        go_wp2_with (refine wpList_storeB rfl rfl _ (.tmp 2) _ rfl (b := C) (q := 0) rfl (n := 23) (v := softV zSw zA) rfl g0 (fun j _ => soft_one _ _ _) soft_size ?_; intro Y1 u1; refine Hid.out ?_)
        unfold Hid
        have hB := u1.below C w (Nat.le_refl _) hB
        have l1 := run_loadSw u1.blk
        clear u1 g0 g3
        go_wp2_with fail
        unfold UnOf
        rw [E1.out, E2.out]
        refine bodyPost_ret (v := .tuple #[aggN 23 (softV zSw zA), .int .i64 380]) ?_ rfl ⟨zA, rfl, zSw_in _, zA_new _, by rw [hCe]; exact hB⟩
        rw [results_cell_tmp rfl]
        simp [asAddr, Result.andThen]
        rw [l1]
      | true =>
        go_wp2_with (first | (refine wpList_loadN rfl _ (.tmp 7) rfl (b := b3) (q := 0) rfl (run_loadSw g3) ?_) | (refine wpList_storeB rfl rfl _ (.tmp 2) _ rfl (b := C) (q := 0) rfl (n := 23) (v := softV sw ⟨x5, c5, xp, cp⟩) rfl g0 (fun j _ => soft_one _ _ _) soft_size ?_; intro Y1 u1; refine Hid.out ?_))
        unfold Hid
        have tn := u1.turns (fun b => b = C) Y0 (fun _ => rfl) (Turns.refl _ _)
        have hB := u1.below C w (Nat.le_refl _) hB
        have hin := hin.turn tn (fun a e k => by have := lx a e; omega) (fun a e k => by have := lp a e; omega)
        have l1 := run_loadSw u1.blk
        clear u1 g0 g3
        go_wp2_with fail
        unfold UnOf
        rw [E1.out, E2.out]
        refine bodyPost_ret (v := .tuple #[aggN 23 (softV sw ⟨x5, c5, xp, cp⟩), .int .i64 0]) ?_ rfl ⟨⟨x5, c5, xp, cp⟩, rfl, hin, ⟨fun p e => (by have := lx p e; omega), fun p e => (by have := lp p e; omega)⟩, by rw [hCe]; exact hB⟩
        rw [results_cell_tmp rfl]
        simp [asAddr, Result.andThen]
        rw [l1]

end Go.Proofs.YtapefonhgkjgnaaGreat
