/- WALKS of the laws of the frame layer: near. -/
import Derived.Test.YtjnjjnkanbnliaaDoorFraN
namespace Go.Proofs.YtjnjjnkanbnliaaDoor
open Go.RowKit

/-- The data of a near frame. -/
def nearL (l : List UInt8) : List UInt8 := if l = [] then [0] else l.take 64
def NearOf (a b d : UInt8) (r : List UInt8) (w : World) (e : Ending) (w' : World) : Prop := ∃ x c, e = .returned (.agg #[.int .i64 (a.toNat : Int), .int .i64 (b.toNat : Int), .int .i64 (d.toNat : Int), .slice x r.length c]) ∧ OwnsB w.heap.size w' x c r ∧ Below w.heap.size w w'
theorem near_len (l : List UInt8) : 1 ≤ (nearL l).length ∧ (nearL l).length ≤ 64 := by
  unfold nearL
  split
  · simp
  · rename_i h
    have : 0 < l.length := List.length_pos_iff.2 h
    simp; omega
def nearA (v : Int) : UInt8 := u8i (v % 16)
def nearB (v : Int) : UInt8 := u8i (v % 2)
def nearD (v : Int) : UInt8 := u8i (v % 256)
theorem near_ok (v n s : Int) (l : List UInt8) : vldF ((nearA v).toNat : Int) ((nearB n).toNat : Int) ((nearD s).toNat : Int) (nearL l).length = true := by
  have h1 := near_len l
  have e1 := u8i_of (show 0 ≤ v % 16 ∧ v % 16 ≤ 255 by omega)
  have e2 := u8i_of (show 0 ≤ n % 2 ∧ n % 2 ≤ 255 by omega)
  have e3 := u8i_of (show 0 ≤ s % 256 ∧ s % 256 ≤ 255 by omega)
  unfold nearA nearB nearD
  rw [vldF_iff, ← e1, ← e2, ← e3]
  omega

set_option maxHeartbeats 2000000 in
theorem near_any (v n s : Int) (x : Option Addr) (l : List UInt8) (cx : Nat) (w : World) (hx : Bts w x l) (hn : x = none → cx = 0) (hl : l.length ≤ 100000) (hcx : l.length ≤ cx ∧ cx ≤ 9223372036854775807)
    (hv : -9223372036854775808 ≤ v ∧ v ≤ 9223372036854775807) (hn_ : -9223372036854775808 ≤ n ∧ n ≤ 9223372036854775807) (hs : -9223372036854775808 ≤ s ∧ s ≤ 9223372036854775807) :
    Calls Tryd.prog 25 #[.agg #[.int .i64 v, .int .i64 n, .int .i64 s, .slice x l.length cx]] w (NearOf (nearA v) (nearB n) (nearD s) (nearL l) w) := by
  obtain ⟨a, ha⟩ : ∃ a, nearA v = a := ⟨_, rfl⟩
  obtain ⟨b, hb'⟩ : ∃ a, nearB n = a := ⟨_, rfl⟩
  obtain ⟨d, hd⟩ : ∃ a, nearD s = a := ⟨_, rfl⟩
  have Hv : Hid (v % ((16 : Nat) : Int) = (a.toNat : Int)) := by show _ = _; rw [← ha]; exact u8i_of (show 0 ≤ v % 16 ∧ v % 16 ≤ 255 by omega)
  have Hn : Hid (n % ((2 : Nat) : Int) = (b.toNat : Int)) := by show _ = _; rw [← hb']; exact u8i_of (show 0 ≤ n % 2 ∧ n % 2 ≤ 255 by omega)
  have Hs : Hid (s % ((256 : Nat) : Int) = (d.toNat : Int)) := by show _ = _; rw [← hd]; exact u8i_of (show 0 ≤ s % 256 ∧ s % 256 ≤ 255 by omega)
  rw [ha, hb', hd]
  clear ha hb' hd
  by_cases hl0 : l = []
  · subst hl0
    have HR : Hid (nearL [] = [0]) := rfl
    clear hx
    go_enter Tryd.func25, Tryd.ntmps25
    go_wp2_with (at_builtin; (refine wpList_app rfl _ _ rfl (l := []) (B := w.heap.size + 2) (OwnsB.made' _ (w.heap.size + 1 + 1) _ (by simp) (by simp)) rfl (m := []) (c := cx) rfl (Bts.nil _ _) hn (by simp) (show [] ++ [] = [] from rfl) (by simp) ?_); intro x1 c1 w1 ho hb _; refine Hid.out ?_)
    unfold Hid
    have p0 := later_lt (a := ⟨w.heap.size, 0, none⟩) (v := .int .i64 v) hb (by simp) (by go_simp)
    have p1 := later_lt (a := ⟨w.heap.size, 1, none⟩) (v := .int .i64 n) hb (by simp) (by go_simp)
    have p2 := later_lt (a := ⟨w.heap.size, 2, none⟩) (v := .int .i64 s) hb (by simp) (by go_simp)
    have p3 := later_lt (a := ⟨w.heap.size, 3, none⟩) (v := .slice x 0 cx) hb (by simp) (by go_simp)
    have r0 := later_lt (a := ⟨w.heap.size + 1, 0, none⟩) (v := .int .i64 0) hb (by simp) (by go_simp)
    have z0 := (Below.frozen hb (p := ⟨w.heap.size + 1, 0, none⟩) (by simp)).trans (show _ = false by go_simp)
    have r1 := later_lt (a := ⟨w.heap.size + 1, 1, none⟩) (v := .int .i64 0) hb (by simp) (by go_simp)
    have z1 := (Below.frozen hb (p := ⟨w.heap.size + 1, 1, none⟩) (by simp)).trans (show _ = false by go_simp)
    have r2 := later_lt (a := ⟨w.heap.size + 1, 2, none⟩) (v := .int .i64 0) hb (by simp) (by go_simp)
    have z2 := (Below.frozen hb (p := ⟨w.heap.size + 1, 2, none⟩) (by simp)).trans (show _ = false by go_simp)
    have r3 := later_lt (a := ⟨w.heap.size + 1, 3, none⟩) (v := .slice none 0 0) hb (by simp) (by go_simp)
    have z3 := (Below.frozen hb (p := ⟨w.heap.size + 1, 3, none⟩) (by simp)).trans (show _ = false by go_simp)
    have hB := (al (al (al (Below.refl _ w) (.cells #[.int .i64 v, .int .i64 n, .int .i64 s, .slice x 0 cx] 24)) (.cells #[.int .i64 0, .int .i64 0, .int .i64 0, .slice none 0 0] 24)) (.cells #[] 5)).trans (hb.mono (by omega))
    have hz2 : w.heap.size + 1 < w1.heap.size := World.block_lt_of_cell? _ _ r0
    have hz1 : w.heap.size < w1.heap.size := by omega
    clear ho hb
    go_wp2_with fail
    obtain ⟨w2, hw2⟩ : ∃ X, w1.alloc (.cells #[.int .u8 0] 5) = X := ⟨_, rfl⟩
    have ho2 : OwnsB (w.heap.size + 2) w2 (some ⟨w1.heap.size, 0, none⟩) 1 [0] := by rw [← hw2]; exact OwnsB.whole _ _ _ [0] _ rfl (by omega) rfl (by simp)
    have hq : Below w1.heap.size w1 w2 := by rw [← hw2]; exact al (Below.refl _ _) _
    rw [hw2]
    replace p0 := later hq p0
    replace p1 := later hq p1
    replace p2 := later hq p2
    replace p3 := later hq p3
    replace z0 := (Below.frozen hq (p := ⟨w.heap.size + 1, 0, none⟩) (World.block_lt_of_cell? _ _ r0)).trans z0
    replace r0 := later hq r0
    replace z1 := (Below.frozen hq (p := ⟨w.heap.size + 1, 1, none⟩) (World.block_lt_of_cell? _ _ r1)).trans z1
    replace r1 := later hq r1
    replace z2 := (Below.frozen hq (p := ⟨w.heap.size + 1, 2, none⟩) (World.block_lt_of_cell? _ _ r2)).trans z2
    replace r2 := later hq r2
    replace z3 := (Below.frozen hq (p := ⟨w.heap.size + 1, 3, none⟩) (World.block_lt_of_cell? _ _ r3)).trans z3
    replace r3 := later hq r3
    replace hB := thru hB hq
    have HO := Lib.hid ho2
    obtain ⟨r, hr⟩ : ∃ r : List UInt8, [0] = r := ⟨_, rfl⟩
    have HRL := Lib.hid (show r.length = 1 by rw [← hr]; rfl)
    rw [hr] at HO HR
    clear ho2 hq hw2 hr
    refine wp_region_schedB (B := w.heap.size + 1) (fun W => W.cell? ⟨w.heap.size, 0, none⟩ = some (.int .i64 v) ∧ W.cell? ⟨w.heap.size, 1, none⟩ = some (.int .i64 n) ∧ W.cell? ⟨w.heap.size, 2, none⟩ = some (.int .i64 s) ∧ W.cell? ⟨w.heap.size + 1, 0, none⟩ = some (.int .i64 0) ∧ W.frozen? ⟨w.heap.size + 1, 0, none⟩ = false ∧ W.cell? ⟨w.heap.size + 1, 1, none⟩ = some (.int .i64 0) ∧ W.frozen? ⟨w.heap.size + 1, 1, none⟩ = false ∧ W.cell? ⟨w.heap.size + 1, 2, none⟩ = some (.int .i64 0) ∧ W.frozen? ⟨w.heap.size + 1, 2, none⟩ = false ∧ W.cell? ⟨w.heap.size + 1, 3, none⟩ = some (.slice none 0 0) ∧ W.frozen? ⟨w.heap.size + 1, 3, none⟩ = false ∧ OwnsB (w.heap.size + 2) W (some ⟨w1.heap.size, 0, none⟩) 1 r ∧ Below w.heap.size w W) (.one [0, 1, 3, 4, 6, 7, 9] 2 (.one [] 5 (.one [] 8 (.one [10] 11 (.done []))))) (by kernel_rfl) (by kernel_rfl) (fun _ _ _ _ _ h => h) ⟨p0, p1, p2, r0, z0, r1, z1, r2, z2, r3, z3, HO.out.turn ((Turns.refl (fun _ => False) _).drew) (fun _ _ h => h), hB.drew⟩ ?_
    clear p0 p1 p2 p3 hB HO r0 z0 r1 z1 r2 z2 r3 z3
    rintro W ⟨p0, p1, p2, r0, z0, r1, z1, r2, z2, r3, z3, ho, hB⟩
    have HO := Lib.hid ho
    clear ho
    rw [wpSchedB]
    simp only [pick, List.map_cons, List.map_nil, Array.getD_eq_getD_getElem?, List.getElem?_toArray, List.getElem?_cons_succ, List.getElem?_cons_zero, Option.getD_some]
    have k0 := plusB_cell p0 (show w.heap.size < w.heap.size + 1 by omega)
    have k1 := plusB_cell p1 (show w.heap.size < w.heap.size + 1 by omega)
    have k2 := plusB_cell p2 (show w.heap.size < w.heap.size + 1 by omega)
    repeat (first | go_big_quiet_step (fail) | quiet_step (fail))
    refine wpQuiet_nil ?_
    clear k0 k1 k2
    refine heavyB_want (by rfl) (fun K' hK' => ?_)
    go_simp
    refine (pick_any v 16 _ (by decide) (by decide) hv).mono ?_
    rintro e W2 ⟨rfl, hw⟩
    obtain rfl : W = W2 := hw.symm
    refine hK' _ _ (Below.refl _ _) ?_
    clear hK' K' hw
    rw [Hv.out]
    try simp only [Act.put, List.setIfInBounds_toArray, List.set_cons_zero, List.set_cons_succ]
    rw [wpSchedB]
    simp only [pick, List.map_nil, Array.getD_eq_getD_getElem?, List.getElem?_toArray, List.getElem?_cons_succ, List.getElem?_cons_zero, Option.getD_some]
    refine wpQuiet_nil ?_
    refine heavyB_want (by rfl) (fun K' hK' => ?_)
    go_simp
    refine (pick_any n 2 _ (by decide) (by decide) hn_).mono ?_
    rintro e W2 ⟨rfl, hw⟩
    obtain rfl : W = W2 := hw.symm
    refine hK' _ _ (Below.refl _ _) ?_
    clear hK' K' hw
    rw [Hn.out]
    try simp only [Act.put, List.setIfInBounds_toArray, List.set_cons_zero, List.set_cons_succ]
    rw [wpSchedB]
    simp only [pick, List.map_nil, Array.getD_eq_getD_getElem?, List.getElem?_toArray, List.getElem?_cons_succ, List.getElem?_cons_zero, Option.getD_some]
    refine wpQuiet_nil ?_
    refine heavyB_want (by rfl) (fun K' hK' => ?_)
    go_simp
    refine (pick_any s 256 _ (by decide) (by decide) hs).mono ?_
    rintro e W2 ⟨rfl, hw⟩
    obtain rfl : W = W2 := hw.symm
    refine hK' _ _ (Below.refl _ _) ?_
    clear hK' K' hw
    rw [Hs.out]
    try simp only [Act.put, List.setIfInBounds_toArray, List.set_cons_zero, List.set_cons_succ]
    rw [wpSchedB]
    simp only [pick, List.map_cons, List.map_nil, Array.getD_eq_getD_getElem?, List.getElem?_toArray, List.getElem?_cons_succ, List.getElem?_cons_zero, Option.getD_some]
    repeat (first | go_big_quiet_step (fail) | quiet_step (fail))
    refine wpQuiet_nil ?_
    refine heavyB_want (by rfl) (fun K' hK' => ?_)
    go_simp
    refine hK' _ _ (four_set (Below.refl _ _) (Nat.le_refl _) _ _ _ _) ?_
    clear hK' K'
    try simp only [Act.put, List.setIfInBounds_toArray, List.set_cons_zero, List.set_cons_succ]
    rw [wpSchedB]
    simp only [List.map_nil]
    refine wpQuiet_nil ?_
    go_wp2_with fail
    refine bodyPost_ret (v := .agg #[.int .i64 (a.toNat : Int), .int .i64 (b.toNat : Int), .int .i64 (d.toNat : Int), .slice (some ⟨w1.heap.size, 0, none⟩) 1 1]) (by obtain ⟨e0, e1, e2, e3⟩ := four_cells r0 r1 r2 r3 (.int .i64 (a.toNat : Int)) (.int .i64 (b.toNat : Int)) (.int .i64 (d.toNat : Int)) (.slice (some ⟨w1.heap.size, 0, none⟩) 1 1); simp [results, Tryd.results25, go_sem, e0, e1, e2, e3]) rfl ⟨(some ⟨w1.heap.size, 0, none⟩), 1, by first | (rw [HR.out]; done) | rw [HR.out, HRL.out], ?_, four_set hB (by omega) _ _ _ _⟩
    rw [HR.out]
    exact (HO.out.turn (four_turn (w.heap.size + 1) _ _ _ _ _) (fun b hb e => by have := (HO.out.low b hb).1; omega)).weaken (by omega)
  · have hlp : 0 < l.length := List.length_pos_iff.2 hl0
    by_cases h64 : 64 < (l.length : Int)
    · have hk64 : 64 ≤ l.length := by omega
      obtain ⟨r, hr⟩ : ∃ r, l.take 64 = r := ⟨_, rfl⟩
      have hrl : r.length = 64 := by rw [← hr]; simp <;> omega
      have hr0 : ((r.length : Int) == 0) = false := by rw [beq_eq_false_iff_ne]; omega
      have HR : Hid (nearL l = r) := by show _ = _; unfold nearL; rw [if_neg hl0, ← hr]
      have yr : Bts w x r := by rw [← hr]; exact hx.take _
      have HRL := Lib.hid hrl
      clear hr hrl hx
      go_enter Tryd.func25, Tryd.ntmps25
      go_wp2_with (at_builtin; (refine wpList_app rfl _ _ rfl (l := []) (B := w.heap.size + 2) (OwnsB.made' _ (w.heap.size + 1 + 1) _ (by simp) (by simp)) rfl (m := r) (c := cx) (show Value.slice x 64 cx = Value.slice x r.length cx by rw [HRL.out]) (yr.later (al (al (al (Below.refl _ w) _) _) _)) hn (by have := HRL.out; simp; omega) (show [] ++ r = r from rfl) (by simp) ?_); intro x1 c1 w1 ho hb _; refine Hid.out ?_)
      unfold Hid
      have p0 := later_lt (a := ⟨w.heap.size, 0, none⟩) (v := .int .i64 v) hb (by simp) (by go_simp)
      have p1 := later_lt (a := ⟨w.heap.size, 1, none⟩) (v := .int .i64 n) hb (by simp) (by go_simp)
      have p2 := later_lt (a := ⟨w.heap.size, 2, none⟩) (v := .int .i64 s) hb (by simp) (by go_simp)
      have p3 := later_lt (a := ⟨w.heap.size, 3, none⟩) (v := .slice x l.length cx) hb (by simp) (by go_simp)
      have r0 := later_lt (a := ⟨w.heap.size + 1, 0, none⟩) (v := .int .i64 0) hb (by simp) (by go_simp)
      have z0 := (Below.frozen hb (p := ⟨w.heap.size + 1, 0, none⟩) (by simp)).trans (show _ = false by go_simp)
      have r1 := later_lt (a := ⟨w.heap.size + 1, 1, none⟩) (v := .int .i64 0) hb (by simp) (by go_simp)
      have z1 := (Below.frozen hb (p := ⟨w.heap.size + 1, 1, none⟩) (by simp)).trans (show _ = false by go_simp)
      have r2 := later_lt (a := ⟨w.heap.size + 1, 2, none⟩) (v := .int .i64 0) hb (by simp) (by go_simp)
      have z2 := (Below.frozen hb (p := ⟨w.heap.size + 1, 2, none⟩) (by simp)).trans (show _ = false by go_simp)
      have r3 := later_lt (a := ⟨w.heap.size + 1, 3, none⟩) (v := .slice none 0 0) hb (by simp) (by go_simp)
      have z3 := (Below.frozen hb (p := ⟨w.heap.size + 1, 3, none⟩) (by simp)).trans (show _ = false by go_simp)
      have hB := (al (al (al (Below.refl _ w) (.cells #[.int .i64 v, .int .i64 n, .int .i64 s, .slice x l.length cx] 24)) (.cells #[.int .i64 0, .int .i64 0, .int .i64 0, .slice none 0 0] 24)) (.cells #[] 5)).trans (hb.mono (by omega))
      have HO := Lib.hid ho
      clear ho hb yr
      go_wp2_with fail
      refine wp_region_schedB (B := w.heap.size + 1) (fun W => W.cell? ⟨w.heap.size, 0, none⟩ = some (.int .i64 v) ∧ W.cell? ⟨w.heap.size, 1, none⟩ = some (.int .i64 n) ∧ W.cell? ⟨w.heap.size, 2, none⟩ = some (.int .i64 s) ∧ W.cell? ⟨w.heap.size + 1, 0, none⟩ = some (.int .i64 0) ∧ W.frozen? ⟨w.heap.size + 1, 0, none⟩ = false ∧ W.cell? ⟨w.heap.size + 1, 1, none⟩ = some (.int .i64 0) ∧ W.frozen? ⟨w.heap.size + 1, 1, none⟩ = false ∧ W.cell? ⟨w.heap.size + 1, 2, none⟩ = some (.int .i64 0) ∧ W.frozen? ⟨w.heap.size + 1, 2, none⟩ = false ∧ W.cell? ⟨w.heap.size + 1, 3, none⟩ = some (.slice none 0 0) ∧ W.frozen? ⟨w.heap.size + 1, 3, none⟩ = false ∧ OwnsB (w.heap.size + 2) W x1 c1 r ∧ Below w.heap.size w W) (.one [0, 1, 3, 4, 6, 7, 9] 2 (.one [] 5 (.one [] 8 (.one [10] 11 (.done []))))) (by kernel_rfl) (by kernel_rfl) (fun _ _ _ _ _ h => h) ⟨p0, p1, p2, r0, z0, r1, z1, r2, z2, r3, z3, HO.out.turn ((Turns.refl (fun _ => False) _).drew) (fun _ _ h => h), hB.drew⟩ ?_
      clear p0 p1 p2 p3 hB HO r0 z0 r1 z1 r2 z2 r3 z3
      rintro W ⟨p0, p1, p2, r0, z0, r1, z1, r2, z2, r3, z3, ho, hB⟩
      have HO := Lib.hid ho
      clear ho
      rw [wpSchedB]
      simp only [pick, List.map_cons, List.map_nil, Array.getD_eq_getD_getElem?, List.getElem?_toArray, List.getElem?_cons_succ, List.getElem?_cons_zero, Option.getD_some]
      have k0 := plusB_cell p0 (show w.heap.size < w.heap.size + 1 by omega)
      have k1 := plusB_cell p1 (show w.heap.size < w.heap.size + 1 by omega)
      have k2 := plusB_cell p2 (show w.heap.size < w.heap.size + 1 by omega)
      repeat (first | go_big_quiet_step (fail) | quiet_step (fail))
      refine wpQuiet_nil ?_
      clear k0 k1 k2
      refine heavyB_want (by rfl) (fun K' hK' => ?_)
      go_simp
      refine (pick_any v 16 _ (by decide) (by decide) hv).mono ?_
      rintro e W2 ⟨rfl, hw⟩
      obtain rfl : W = W2 := hw.symm
      refine hK' _ _ (Below.refl _ _) ?_
      clear hK' K' hw
      rw [Hv.out]
      try simp only [Act.put, List.setIfInBounds_toArray, List.set_cons_zero, List.set_cons_succ]
      rw [wpSchedB]
      simp only [pick, List.map_nil, Array.getD_eq_getD_getElem?, List.getElem?_toArray, List.getElem?_cons_succ, List.getElem?_cons_zero, Option.getD_some]
      refine wpQuiet_nil ?_
      refine heavyB_want (by rfl) (fun K' hK' => ?_)
      go_simp
      refine (pick_any n 2 _ (by decide) (by decide) hn_).mono ?_
      rintro e W2 ⟨rfl, hw⟩
      obtain rfl : W = W2 := hw.symm
      refine hK' _ _ (Below.refl _ _) ?_
      clear hK' K' hw
      rw [Hn.out]
      try simp only [Act.put, List.setIfInBounds_toArray, List.set_cons_zero, List.set_cons_succ]
      rw [wpSchedB]
      simp only [pick, List.map_nil, Array.getD_eq_getD_getElem?, List.getElem?_toArray, List.getElem?_cons_succ, List.getElem?_cons_zero, Option.getD_some]
      refine wpQuiet_nil ?_
      refine heavyB_want (by rfl) (fun K' hK' => ?_)
      go_simp
      refine (pick_any s 256 _ (by decide) (by decide) hs).mono ?_
      rintro e W2 ⟨rfl, hw⟩
      obtain rfl : W = W2 := hw.symm
      refine hK' _ _ (Below.refl _ _) ?_
      clear hK' K' hw
      rw [Hs.out]
      try simp only [Act.put, List.setIfInBounds_toArray, List.set_cons_zero, List.set_cons_succ]
      rw [wpSchedB]
      simp only [pick, List.map_cons, List.map_nil, Array.getD_eq_getD_getElem?, List.getElem?_toArray, List.getElem?_cons_succ, List.getElem?_cons_zero, Option.getD_some]
      repeat (first | go_big_quiet_step (fail) | quiet_step (fail))
      refine wpQuiet_nil ?_
      refine heavyB_want (by rfl) (fun K' hK' => ?_)
      go_simp
      refine hK' _ _ (four_set (Below.refl _ _) (Nat.le_refl _) _ _ _ _) ?_
      clear hK' K'
      try simp only [Act.put, List.setIfInBounds_toArray, List.set_cons_zero, List.set_cons_succ]
      rw [wpSchedB]
      simp only [List.map_nil]
      refine wpQuiet_nil ?_
      go_wp2_with fail
      refine bodyPost_ret (v := .agg #[.int .i64 (a.toNat : Int), .int .i64 (b.toNat : Int), .int .i64 (d.toNat : Int), .slice x1 r.length c1]) (by obtain ⟨e0, e1, e2, e3⟩ := four_cells r0 r1 r2 r3 (.int .i64 (a.toNat : Int)) (.int .i64 (b.toNat : Int)) (.int .i64 (d.toNat : Int)) (.slice x1 r.length c1); simp [results, Tryd.results25, go_sem, e0, e1, e2, e3]) rfl ⟨x1, c1, by first | (rw [HR.out]; done) | rw [HR.out, HRL.out], ?_, four_set hB (by omega) _ _ _ _⟩
      rw [HR.out]
      exact (HO.out.turn (four_turn (w.heap.size + 1) _ _ _ _ _) (fun b hb e => by have := (HO.out.low b hb).1; omega)).weaken (by omega)
    · have hk64 : l.take 64 = l := List.take_of_length_le (by omega)
      obtain ⟨r, hr⟩ : ∃ r, l.take l.length = r := ⟨_, rfl⟩
      have hrl : r.length = l.length := by rw [← hr]; simp <;> omega
      have hr0 : ((r.length : Int) == 0) = false := by rw [beq_eq_false_iff_ne]; omega
      have HR : Hid (nearL l = r) := by show _ = _; unfold nearL; rw [if_neg hl0, ← hr]; rw [hk64, List.take_length]
      have yr : Bts w x r := by rw [← hr]; exact hx.take _
      have HRL := Lib.hid hrl
      clear hr hrl hx
      go_enter Tryd.func25, Tryd.ntmps25
      go_wp2_with (at_builtin; (refine wpList_app rfl _ _ rfl (l := []) (B := w.heap.size + 2) (OwnsB.made' _ (w.heap.size + 1 + 1) _ (by simp) (by simp)) rfl (m := r) (c := cx) (show Value.slice x l.length cx = Value.slice x r.length cx by rw [HRL.out]) (yr.later (al (al (al (Below.refl _ w) _) _) _)) hn (by have := HRL.out; simp; omega) (show [] ++ r = r from rfl) (by simp) ?_); intro x1 c1 w1 ho hb _; refine Hid.out ?_)
      unfold Hid
      have p0 := later_lt (a := ⟨w.heap.size, 0, none⟩) (v := .int .i64 v) hb (by simp) (by go_simp)
      have p1 := later_lt (a := ⟨w.heap.size, 1, none⟩) (v := .int .i64 n) hb (by simp) (by go_simp)
      have p2 := later_lt (a := ⟨w.heap.size, 2, none⟩) (v := .int .i64 s) hb (by simp) (by go_simp)
      have p3 := later_lt (a := ⟨w.heap.size, 3, none⟩) (v := .slice x l.length cx) hb (by simp) (by go_simp)
      have r0 := later_lt (a := ⟨w.heap.size + 1, 0, none⟩) (v := .int .i64 0) hb (by simp) (by go_simp)
      have z0 := (Below.frozen hb (p := ⟨w.heap.size + 1, 0, none⟩) (by simp)).trans (show _ = false by go_simp)
      have r1 := later_lt (a := ⟨w.heap.size + 1, 1, none⟩) (v := .int .i64 0) hb (by simp) (by go_simp)
      have z1 := (Below.frozen hb (p := ⟨w.heap.size + 1, 1, none⟩) (by simp)).trans (show _ = false by go_simp)
      have r2 := later_lt (a := ⟨w.heap.size + 1, 2, none⟩) (v := .int .i64 0) hb (by simp) (by go_simp)
      have z2 := (Below.frozen hb (p := ⟨w.heap.size + 1, 2, none⟩) (by simp)).trans (show _ = false by go_simp)
      have r3 := later_lt (a := ⟨w.heap.size + 1, 3, none⟩) (v := .slice none 0 0) hb (by simp) (by go_simp)
      have z3 := (Below.frozen hb (p := ⟨w.heap.size + 1, 3, none⟩) (by simp)).trans (show _ = false by go_simp)
      have hB := (al (al (al (Below.refl _ w) (.cells #[.int .i64 v, .int .i64 n, .int .i64 s, .slice x l.length cx] 24)) (.cells #[.int .i64 0, .int .i64 0, .int .i64 0, .slice none 0 0] 24)) (.cells #[] 5)).trans (hb.mono (by omega))
      have HO := Lib.hid ho
      clear ho hb yr
      go_wp2_with fail
      refine wp_region_schedB (B := w.heap.size + 1) (fun W => W.cell? ⟨w.heap.size, 0, none⟩ = some (.int .i64 v) ∧ W.cell? ⟨w.heap.size, 1, none⟩ = some (.int .i64 n) ∧ W.cell? ⟨w.heap.size, 2, none⟩ = some (.int .i64 s) ∧ W.cell? ⟨w.heap.size + 1, 0, none⟩ = some (.int .i64 0) ∧ W.frozen? ⟨w.heap.size + 1, 0, none⟩ = false ∧ W.cell? ⟨w.heap.size + 1, 1, none⟩ = some (.int .i64 0) ∧ W.frozen? ⟨w.heap.size + 1, 1, none⟩ = false ∧ W.cell? ⟨w.heap.size + 1, 2, none⟩ = some (.int .i64 0) ∧ W.frozen? ⟨w.heap.size + 1, 2, none⟩ = false ∧ W.cell? ⟨w.heap.size + 1, 3, none⟩ = some (.slice none 0 0) ∧ W.frozen? ⟨w.heap.size + 1, 3, none⟩ = false ∧ OwnsB (w.heap.size + 2) W x1 c1 r ∧ Below w.heap.size w W) (.one [0, 1, 3, 4, 6, 7, 9] 2 (.one [] 5 (.one [] 8 (.one [10] 11 (.done []))))) (by kernel_rfl) (by kernel_rfl) (fun _ _ _ _ _ h => h) ⟨p0, p1, p2, r0, z0, r1, z1, r2, z2, r3, z3, HO.out.turn ((Turns.refl (fun _ => False) _).drew) (fun _ _ h => h), hB.drew⟩ ?_
      clear p0 p1 p2 p3 hB HO r0 z0 r1 z1 r2 z2 r3 z3
      rintro W ⟨p0, p1, p2, r0, z0, r1, z1, r2, z2, r3, z3, ho, hB⟩
      have HO := Lib.hid ho
      clear ho
      rw [wpSchedB]
      simp only [pick, List.map_cons, List.map_nil, Array.getD_eq_getD_getElem?, List.getElem?_toArray, List.getElem?_cons_succ, List.getElem?_cons_zero, Option.getD_some]
      have k0 := plusB_cell p0 (show w.heap.size < w.heap.size + 1 by omega)
      have k1 := plusB_cell p1 (show w.heap.size < w.heap.size + 1 by omega)
      have k2 := plusB_cell p2 (show w.heap.size < w.heap.size + 1 by omega)
      repeat (first | go_big_quiet_step (fail) | quiet_step (fail))
      refine wpQuiet_nil ?_
      clear k0 k1 k2
      refine heavyB_want (by rfl) (fun K' hK' => ?_)
      go_simp
      refine (pick_any v 16 _ (by decide) (by decide) hv).mono ?_
      rintro e W2 ⟨rfl, hw⟩
      obtain rfl : W = W2 := hw.symm
      refine hK' _ _ (Below.refl _ _) ?_
      clear hK' K' hw
      rw [Hv.out]
      try simp only [Act.put, List.setIfInBounds_toArray, List.set_cons_zero, List.set_cons_succ]
      rw [wpSchedB]
      simp only [pick, List.map_nil, Array.getD_eq_getD_getElem?, List.getElem?_toArray, List.getElem?_cons_succ, List.getElem?_cons_zero, Option.getD_some]
      refine wpQuiet_nil ?_
      refine heavyB_want (by rfl) (fun K' hK' => ?_)
      go_simp
      refine (pick_any n 2 _ (by decide) (by decide) hn_).mono ?_
      rintro e W2 ⟨rfl, hw⟩
      obtain rfl : W = W2 := hw.symm
      refine hK' _ _ (Below.refl _ _) ?_
      clear hK' K' hw
      rw [Hn.out]
      try simp only [Act.put, List.setIfInBounds_toArray, List.set_cons_zero, List.set_cons_succ]
      rw [wpSchedB]
      simp only [pick, List.map_nil, Array.getD_eq_getD_getElem?, List.getElem?_toArray, List.getElem?_cons_succ, List.getElem?_cons_zero, Option.getD_some]
      refine wpQuiet_nil ?_
      refine heavyB_want (by rfl) (fun K' hK' => ?_)
      go_simp
      refine (pick_any s 256 _ (by decide) (by decide) hs).mono ?_
      rintro e W2 ⟨rfl, hw⟩
      obtain rfl : W = W2 := hw.symm
      refine hK' _ _ (Below.refl _ _) ?_
      clear hK' K' hw
      rw [Hs.out]
      try simp only [Act.put, List.setIfInBounds_toArray, List.set_cons_zero, List.set_cons_succ]
      rw [wpSchedB]
      simp only [pick, List.map_cons, List.map_nil, Array.getD_eq_getD_getElem?, List.getElem?_toArray, List.getElem?_cons_succ, List.getElem?_cons_zero, Option.getD_some]
      repeat (first | go_big_quiet_step (fail) | quiet_step (fail))
      refine wpQuiet_nil ?_
      refine heavyB_want (by rfl) (fun K' hK' => ?_)
      go_simp
      refine hK' _ _ (four_set (Below.refl _ _) (Nat.le_refl _) _ _ _ _) ?_
      clear hK' K'
      try simp only [Act.put, List.setIfInBounds_toArray, List.set_cons_zero, List.set_cons_succ]
      rw [wpSchedB]
      simp only [List.map_nil]
      refine wpQuiet_nil ?_
      go_wp2_with fail
      refine bodyPost_ret (v := .agg #[.int .i64 (a.toNat : Int), .int .i64 (b.toNat : Int), .int .i64 (d.toNat : Int), .slice x1 r.length c1]) (by obtain ⟨e0, e1, e2, e3⟩ := four_cells r0 r1 r2 r3 (.int .i64 (a.toNat : Int)) (.int .i64 (b.toNat : Int)) (.int .i64 (d.toNat : Int)) (.slice x1 r.length c1); simp [results, Tryd.results25, go_sem, e0, e1, e2, e3]) rfl ⟨x1, c1, by first | (rw [HR.out]; done) | rw [HR.out, HRL.out], ?_, four_set hB (by omega) _ _ _ _⟩
      rw [HR.out]
      exact (HO.out.turn (four_turn (w.heap.size + 1) _ _ _ _ _) (fun b hb e => by have := (HO.out.low b hb).1; omega)).weaken (by omega)

end Go.Proofs.YtjnjjnkanbnliaaDoor
