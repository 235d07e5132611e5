/- WALKS of the laws of the digest layer: DigestParts. -/
import Derived.Test.YtmlmgpliajffnaaLawB5
namespace Go.Proofs.Ytmlmgpliajffnaa
open Go.RowKit

theorem wrap_add (a j : Int) : wrap64 (wrap64 a + j) = wrap64 (a + j) := by
  unfold wrap64
  rw [show (a + 9223372036854775808) % 18446744073709551616 - 9223372036854775808 + j + 9223372036854775808 = (a + 9223372036854775808) % 18446744073709551616 + j by omega, Int.emod_add_emod, show a + 9223372036854775808 + j = a + j + 9223372036854775808 by omega]
theorem wrap_two (n : Int) (i j : Nat) : wrap64 (n + ((i + j : Nat) : Int)) = wrap64 (wrap64 (n + (i : Int)) + (j : Int)) := by
  rw [wrap_add, Int.natCast_add, Int.add_assoc]

set_option maxHeartbeats 4000000 in
theorem parts_law (xa : Option Addr) (la : List UInt8) (ca : Nat) (xb : Option Addr) (lb : List UInt8) (cb : Nat) (xc : Option Addr) (lc : List UInt8) (cc : Nat) (x : D64) (n : Int) (w : World)
    (ya : Bts w xa la) (yb : Bts w xb lb) (yc : Bts w xc lc) (oa : xa = none → ca = 0) (ob : xb = none → cb = 0) (oc : xc = none → cc = 0) (hn : -9223372036854775808 ≤ n ∧ n ≤ 9223372036854775807)
    (h63 : la.length ≤ 9223372036854775807 ∧ lb.length ≤ 9223372036854775807 ∧ lc.length ≤ 9223372036854775807) :
    Calls Try.prog 4 #[.slice xa la.length ca, .slice xb lb.length cb, .slice xc lc.length cc, .agg #[.int .u64 (num x), .int .i64 n]] w (YesOf w) := by
  obtain ⟨h63a, h63b, h63c⟩ := h63
  by_cases c0 : 300 < (la.length : Int)
  · have y0_0 : decide (300 < (la.length : Int)) = true := decide_eq_true c0
    go_enter Try.func4, Try.ntmps4
    go_wp2_with fail
    refine (awake_any _).mono ?_
    rintro e w' ⟨rfl, hb⟩
    go_wp2_with fail
    go_ret
    exact ⟨rfl, thru (al (Below.refl _ w) _) hb⟩
  · have y0_0 : decide (300 < (la.length : Int)) = false := decide_eq_false c0
    by_cases c1 : 300 < (lb.length : Int)
    · have y1_0 : decide (300 < (lb.length : Int)) = true := decide_eq_true c1
      go_enter Try.func4, Try.ntmps4
      go_wp2_with fail
      refine (awake_any _).mono ?_
      rintro e w' ⟨rfl, hb⟩
      go_wp2_with fail
      go_ret
      exact ⟨rfl, thru (al (Below.refl _ w) _) hb⟩
    · have y1_0 : decide (300 < (lb.length : Int)) = false := decide_eq_false c1
      by_cases c2 : 300 < (lc.length : Int)
      · have y2_0 : decide (300 < (lc.length : Int)) = true := decide_eq_true c2
        go_enter Try.func4, Try.ntmps4
        go_wp2_with fail
        refine (awake_any _).mono ?_
        rintro e w' ⟨rfl, hb⟩
        go_wp2_with fail
        go_ret
        exact ⟨rfl, thru (al (Below.refl _ w) _) hb⟩
      · have y2_0 : decide (300 < (lc.length : Int)) = false := decide_eq_false c2
        have la3 : la.length ≤ 300 := by omega
        have lb3 : lb.length ≤ 300 := by omega
        have lc3 : lc.length ≤ 300 := by omega
        have hla0 : [] ++ la = la := rfl
        obtain ⟨lab, hlab⟩ : ∃ l, la ++ lb = l := ⟨_, rfl⟩
        obtain ⟨wl, hwl⟩ : ∃ l, lab ++ lc = l := ⟨_, rfl⟩
        obtain ⟨lbc, hlbc⟩ : ∃ l, lb ++ lc = l := ⟨_, rfl⟩
        have lab6 : lab.length = la.length + lb.length := by rw [← hlab]; simp
        have lwl9 : wl.length = lab.length + lc.length := by rw [← hwl]; simp
        have lbc6 : lbc.length = lb.length + lc.length := by rw [← hlbc]; simp
        have l6 : lab.length ≤ 600 := by omega
        have l9 : wl.length ≤ 900 := by omega
        have k6 : lbc.length ≤ 600 := by omega
        obtain ⟨x1', hx1⟩ : ∃ y, Dig.addL x la = y := ⟨_, rfl⟩
        obtain ⟨x2', hx2⟩ : ∃ y, Dig.addL x1' lb = y := ⟨_, rfl⟩
        obtain ⟨X, hX⟩ : ∃ y, Dig.addL x2' lc = y := ⟨_, rfl⟩
        have hX2 : Dig.addL x1' lbc = X := by rw [← hlbc, Dig.addL_append, hx2, hX]
        have hX3 : Dig.addL x wl = X := by rw [← hwl, ← hlab, Dig.addL_append, Dig.addL_append, hx1, hx2, hX]
        obtain ⟨z1', hz1⟩ : ∃ y, Dig.addL Dig.start lab = y := ⟨_, rfl⟩
        obtain ⟨Z, hZ⟩ : ∃ y, Dig.addL z1' lc = y := ⟨_, rfl⟩
        have hO : Dig.ofL wl = Dig.fin Z (wl.length : Int) := by unfold Dig.ofL; rw [← hZ, ← hz1, ← Dig.addL_append, hwl]
        obtain ⟨n1, hn1⟩ : ∃ m, wrap64 (n + (la.length : Int)) = m := ⟨_, rfl⟩
        obtain ⟨n2, hn2⟩ : ∃ m, wrap64 (n1 + (lb.length : Int)) = m := ⟨_, rfl⟩
        obtain ⟨N, hN⟩ : ∃ m, wrap64 (n2 + (lc.length : Int)) = m := ⟨_, rfl⟩
        have hN2 : wrap64 (n1 + (lbc.length : Int)) = N := by rw [← hN, ← hn2, lbc6]; exact wrap_two _ _ _
        have hN3 : wrap64 (n + (wl.length : Int)) = N := by rw [← hN, ← hn2, ← hn1, ← wrap_two, ← wrap_two, lwl9, lab6]; congr 1; push_cast; omega
        obtain ⟨M1, hM1⟩ : ∃ m, wrap64 (0 + (lab.length : Int)) = m := ⟨_, rfl⟩
        have hM : wrap64 (M1 + (lc.length : Int)) = (wl.length : Int) := by rw [← hM1, lwl9, ← wrap_two, Int.zero_add]; exact (wrap64_id (by omega))
        have r1 := hn1 ▸ wrap_rng (n + (la.length : Int))
        have r2 := hn2 ▸ wrap_rng (n1 + (lb.length : Int))
        have L0 := Lib.hid hla0
        have L4 := Lib.hid (show [] ++ lb = lb from rfl)
        have L1 := Lib.hid hlab
        have L2 := Lib.hid hwl
        have L3 := Lib.hid hlbc
        clear lab6 lwl9 lbc6 hla0 hlab hwl hlbc
        have r3 := hM1 ▸ wrap_rng (0 + (lab.length : Int))
        have R3 := Lib.hid r3
        have G7 := Lib.hid hM1
        have G8 := Lib.hid (show wrap64 (n + ((([] : List UInt8).length : Nat) : Int)) = n from by rw [show n + ((([] : List UInt8).length : Nat) : Int) = n by simp]; exact wrap64_id hn)
        have R0 := Lib.hid hn
        have R1 := Lib.hid r1
        have R2 := Lib.hid r2
        have F1 := Lib.hid hx1
        have F2 := Lib.hid hx2
        have F3 := Lib.hid hX
        have F4 := Lib.hid hX2
        have F5 := Lib.hid hX3
        have F6 := Lib.hid hz1
        have F7 := Lib.hid hZ
        have F8 := Lib.hid hO
        have G1 := Lib.hid hn1
        have G2 := Lib.hid hn2
        have G3 := Lib.hid hN
        have G4 := Lib.hid hN2
        have G5 := Lib.hid hN3
        have G6 := Lib.hid hM
        clear hn r1 r2 r3 hM1 hx1 hx2 hX hX2 hX3 hz1 hZ hO hn1 hn2 hN hN2 hN3 hM c0 c1 c2
        have hB := Below.refl w.heap.size w
        go_enter Try.func4, Try.ntmps4
        go_wp2_with (at_builtin; (refine wpList_app rfl _ _ rfl (l := []) (B := w.heap.size + 1) (OwnsB.made' _ (w.heap.size + 1) _ (by simp) (by simp)) rfl (m := la) rfl (ya.later (al (al (Below.refl _ w) _) _)) (oa) (by simp; omega) L0.out (by simp) ?_); intro x1 c1 w1 ho hb _; refine Hid.out ?_)
        unfold Hid
        have g1_0 := later_lt (a := ⟨w.heap.size, 0, none⟩) (v := .int .u64 (num x)) hb (by simp <;> omega) (by go_simp)
        have g1_1 := later_lt (a := ⟨w.heap.size, 1, none⟩) (v := .int .i64 n) hb (by simp <;> omega) (by go_simp)
        have z1_0 : w.heap.size < w1.heap.size := (by have := hb.size; first | omega | (simp at this; omega))
        replace hB := (al (al hB _) _).trans (hb.mono (by have := hB.size; first | omega | (simp <;> omega)))
        have O1 := Lib.hid ho
        clear ho
        clear hb 
        go_wp2_with (at_builtin; (refine wpList_app rfl _ _ rfl (l := la) (B := w.heap.size + 1) (O1.out) rfl (m := lb) rfl (yb.later hB) (ob) (by omega) L1.out (by omega) ?_); intro x2 c2 w2 ho hb _; refine Hid.out ?_)
        unfold Hid
        have g2_0 := later_lt (a := ⟨w.heap.size, 0, none⟩) (v := .int .u64 (num x)) hb (by simp <;> omega) (by go_simp)
        have g2_1 := later_lt (a := ⟨w.heap.size, 1, none⟩) (v := .int .i64 n) hb (by simp <;> omega) (by go_simp)
        have z2_0 : w.heap.size < w2.heap.size := (by have := hb.size; first | omega | (simp at this; omega))
        replace hB := (hB).trans (hb.mono (by have := hB.size; first | omega | (simp <;> omega)))
        have O2 := Lib.hid ho
        clear ho O1
        clear hb g1_0 g1_1 z1_0
        go_wp2_with (at_builtin; (refine wpList_app rfl _ _ rfl (l := lab) (B := w.heap.size + 1) (O2.out) rfl (m := lc) rfl (yc.later hB) (oc) (by omega) L2.out (by omega) ?_); intro x3 c3 w3 ho hb _; refine Hid.out ?_)
        unfold Hid
        have g3_0 := later_lt (a := ⟨w.heap.size, 0, none⟩) (v := .int .u64 (num x)) hb (by simp <;> omega) (by go_simp)
        have g3_1 := later_lt (a := ⟨w.heap.size, 1, none⟩) (v := .int .i64 n) hb (by simp <;> omega) (by go_simp)
        have z3_0 : w.heap.size < w3.heap.size := (by have := hb.size; first | omega | (simp at this; omega))
        replace hB := (hB).trans (hb.mono (by have := hB.size; first | omega | (simp <;> omega)))
        have O3 := Lib.hid ho
        clear ho O2
        clear hb g2_0 g2_1 z2_0
        have yw := O3.out.bts
        have ow := O3.out.none_cap
        have hC := Below.refl w3.heap.size w3
        clear O3
        go_wp2_with fail
        refine (add_any x (n) _ la ca _ R0.out (by omega) (ya.later (al hB _))).mono ?_
        rintro e w4 ⟨rfl, hb⟩
        rw [F1.out, G1.out]
        have hq := thru (al (Below.refl _ w3) _) hb
        have g4_0 := later hq g3_0
        have g4_1 := later hq g3_1
        have g4_2 := later (a := ⟨w3.heap.size, 0, none⟩) (v := .int .u64 (num x)) hb (by go_simp)
        have g4_3 := later (a := ⟨w3.heap.size, 1, none⟩) (v := .int .i64 n) hb (by go_simp)
        have z4_0 : w.heap.size < w4.heap.size := Nat.lt_of_lt_of_le z3_0 hq.size
        have z4_1 : w3.heap.size < w4.heap.size := (by have := hb.size; first | omega | (simp at this; omega))
        replace hB := thru hB hq
        replace hC := thru hC hq
        clear hb hq g3_0 g3_1 z3_0
        go_wp2_with fail
        refine (add_any x1' (n1) _ lb cb _ R1.out (by omega) (yb.later hB)).mono ?_
        rintro e w5 ⟨rfl, hb⟩
        rw [F2.out, G2.out]
        have hq := thru (Below.refl _ w4) hb
        have g5_0 := later hq g4_0
        have g5_1 := later hq g4_1
        have g5_2 := later hq g4_2
        have g5_3 := later hq g4_3
        have z5_0 : w.heap.size < w5.heap.size := Nat.lt_of_lt_of_le z4_0 hq.size
        have z5_1 : w3.heap.size < w5.heap.size := Nat.lt_of_lt_of_le z4_1 hq.size
        replace hB := thru hB hq
        replace hC := thru hC hq
        clear hb hq g4_0 g4_1 g4_2 g4_3 z4_0 z4_1
        go_wp2_with fail
        refine (add_any x2' (n2) _ lc cc _ R2.out (by omega) (yc.later hB)).mono ?_
        rintro e w6 ⟨rfl, hb⟩
        rw [F3.out, G3.out]
        have hq := thru (Below.refl _ w5) hb
        have g6_0 := later hq g5_0
        have g6_1 := later hq g5_1
        have g6_2 := later hq g5_2
        have g6_3 := later hq g5_3
        have z6_0 : w.heap.size < w6.heap.size := Nat.lt_of_lt_of_le z5_0 hq.size
        have z6_1 : w3.heap.size < w6.heap.size := Nat.lt_of_lt_of_le z5_1 hq.size
        replace hB := thru hB hq
        replace hC := thru hC hq
        clear hb hq g5_0 g5_1 g5_2 g5_3 z5_0 z5_1
        go_wp2_with fail
        refine (add_any x (n) _ la ca _ R0.out (by omega) (ya.later (al hB _))).mono ?_
        rintro e w7 ⟨rfl, hb⟩
        rw [F1.out, G1.out]
        have hq := thru (al (Below.refl _ w6) _) hb
        have g7_0 := later hq g6_0
        have g7_1 := later hq g6_1
        have g7_2 := later hq g6_2
        have g7_3 := later hq g6_3
        have g7_4 := later (a := ⟨w6.heap.size, 0, none⟩) (v := .int .u64 (num X)) hb (by go_simp)
        have g7_5 := later (a := ⟨w6.heap.size, 1, none⟩) (v := .int .i64 N) hb (by go_simp)
        have z7_0 : w.heap.size < w7.heap.size := Nat.lt_of_lt_of_le z6_0 hq.size
        have z7_1 : w3.heap.size < w7.heap.size := Nat.lt_of_lt_of_le z6_1 hq.size
        have z7_2 : w6.heap.size < w7.heap.size := (by have := hb.size; first | omega | (simp at this; omega))
        replace hB := thru hB hq
        replace hC := thru hC hq
        clear hb hq g6_0 g6_1 g6_2 g6_3 z6_0 z6_1
        go_wp2_with (at_builtin; (refine wpList_app rfl _ _ rfl (l := []) (B := w7.heap.size) (OwnsB.made' _ (w7.heap.size) _ (Nat.le_refl _) rfl) rfl (m := lb) rfl (yb.later (al hB _)) (ob) (by simp; omega) L4.out (by simp) ?_); intro x4 c4 w8 ho hb _; refine Hid.out ?_)
        unfold Hid
        have g8_0 := later_lt (a := ⟨w.heap.size, 0, none⟩) (v := .int .u64 (num x)) hb (by simp <;> omega) (by go_simp)
        have g8_1 := later_lt (a := ⟨w.heap.size, 1, none⟩) (v := .int .i64 n) hb (by simp <;> omega) (by go_simp)
        have g8_2 := later_lt (a := ⟨w3.heap.size, 0, none⟩) (v := .int .u64 (num x)) hb (by simp <;> omega) (by go_simp)
        have g8_3 := later_lt (a := ⟨w3.heap.size, 1, none⟩) (v := .int .i64 n) hb (by simp <;> omega) (by go_simp)
        have g8_4 := later_lt (a := ⟨w6.heap.size, 0, none⟩) (v := .int .u64 (num X)) hb (by simp <;> omega) (by go_simp)
        have g8_5 := later_lt (a := ⟨w6.heap.size, 1, none⟩) (v := .int .i64 N) hb (by simp <;> omega) (by go_simp)
        have z8_0 : w.heap.size < w8.heap.size := (by have := hb.size; first | omega | (simp at this; omega))
        have z8_1 : w3.heap.size < w8.heap.size := (by have := hb.size; first | omega | (simp at this; omega))
        have z8_2 : w6.heap.size < w8.heap.size := (by have := hb.size; first | omega | (simp at this; omega))
        replace hB := (al hB _).trans (hb.mono (by have := hB.size; first | omega | (simp <;> omega)))
        replace hC := (al (hC) _).trans (hb.mono (by have := hC.size; first | omega | (simp <;> omega)))
        have O1 := Lib.hid ho
        have HZ := hb.size
        simp at HZ
        clear ho
        clear hb g7_0 g7_1 g7_2 g7_3 g7_4 g7_5
        go_wp2_with (at_builtin; (refine wpList_app rfl _ _ rfl (l := lb) (B := w7.heap.size) (O1.out) rfl (m := lc) rfl (yc.later hB) (oc) (by omega) L3.out (by omega) ?_); intro x5 c5 w9 ho hb _; refine Hid.out ?_)
        unfold Hid
        have g9_0 := later_lt (a := ⟨w.heap.size, 0, none⟩) (v := .int .u64 (num x)) hb (by simp <;> omega) (by go_simp)
        have g9_1 := later_lt (a := ⟨w.heap.size, 1, none⟩) (v := .int .i64 n) hb (by simp <;> omega) (by go_simp)
        have g9_2 := later_lt (a := ⟨w3.heap.size, 0, none⟩) (v := .int .u64 (num x)) hb (by simp <;> omega) (by go_simp)
        have g9_3 := later_lt (a := ⟨w3.heap.size, 1, none⟩) (v := .int .i64 n) hb (by simp <;> omega) (by go_simp)
        have g9_4 := later_lt (a := ⟨w6.heap.size, 0, none⟩) (v := .int .u64 (num X)) hb (by simp <;> omega) (by go_simp)
        have g9_5 := later_lt (a := ⟨w6.heap.size, 1, none⟩) (v := .int .i64 N) hb (by simp <;> omega) (by go_simp)
        have z9_0 : w.heap.size < w9.heap.size := (by have := hb.size; first | omega | (simp at this; omega))
        have z9_1 : w3.heap.size < w9.heap.size := (by have := hb.size; first | omega | (simp at this; omega))
        have z9_2 : w6.heap.size < w9.heap.size := (by have := hb.size; first | omega | (simp at this; omega))
        replace hB := (hB).trans (hb.mono (by have := hB.size; first | omega | (simp <;> omega)))
        replace hC := (hC).trans (hb.mono (by have := hC.size; first | omega | (simp <;> omega)))
        have O2 := Lib.hid ho
        clear ho O1 HZ
        clear hb g8_0 g8_1 g8_2 g8_3 g8_4 g8_5 z8_0 z8_1 z8_2
        have y5 := O2.out.bts
        clear O2
        go_wp2_with fail
        refine (add_any x1' n1 x5 lbc c5 _ R1.out (by omega) y5).mono ?_
        rintro e w10 ⟨rfl, hb⟩
        rw [F4.out, G4.out]
        clear y5
        have hq := thru (Below.refl _ w9) hb
        have g10_0 := later hq g9_0
        have g10_1 := later hq g9_1
        have g10_2 := later hq g9_2
        have g10_3 := later hq g9_3
        have g10_4 := later hq g9_4
        have g10_5 := later hq g9_5
        have z10_0 : w.heap.size < w10.heap.size := Nat.lt_of_lt_of_le z9_0 hq.size
        have z10_1 : w3.heap.size < w10.heap.size := Nat.lt_of_lt_of_le z9_1 hq.size
        have z10_2 : w6.heap.size < w10.heap.size := Nat.lt_of_lt_of_le z9_2 hq.size
        replace hB := thru hB hq
        replace hC := thru hC hq
        clear hb hq g9_0 g9_1 g9_2 g9_3 g9_4 g9_5 z9_0 z9_1 z9_2
        go_wp2_with fail
        refine (new_any _).mono ?_
        rintro e w11 ⟨rfl, hb⟩
        have hq := thru (al (Below.refl _ w10) _) hb
        have g11_0 := later hq g10_0
        have g11_1 := later hq g10_1
        have g11_2 := later hq g10_2
        have g11_3 := later hq g10_3
        have g11_4 := later hq g10_4
        have g11_5 := later hq g10_5
        have g11_6 := later (a := ⟨w10.heap.size, 0, none⟩) (v := .int .u64 (num X)) hb (by go_simp)
        have g11_7 := later (a := ⟨w10.heap.size, 1, none⟩) (v := .int .i64 N) hb (by go_simp)
        have z11_0 : w.heap.size < w11.heap.size := Nat.lt_of_lt_of_le z10_0 hq.size
        have z11_1 : w3.heap.size < w11.heap.size := Nat.lt_of_lt_of_le z10_1 hq.size
        have z11_2 : w6.heap.size < w11.heap.size := Nat.lt_of_lt_of_le z10_2 hq.size
        have z11_3 : w10.heap.size < w11.heap.size := (by have := hb.size; first | omega | (simp at this; omega))
        replace hB := thru hB hq
        replace hC := thru hC hq
        clear hb hq g10_0 g10_1 g10_2 g10_3 g10_4 g10_5 z10_0 z10_1 z10_2
        go_wp2_with (at_builtin; (refine wpList_app rfl _ _ rfl (l := []) (B := w11.heap.size) (OwnsB.made' _ (w11.heap.size) _ (Nat.le_refl _) rfl) rfl (m := la) rfl (ya.later (al hB _)) (oa) (by simp; omega) L0.out (by simp) ?_); intro x6 c6 w12 ho hb _; refine Hid.out ?_)
        unfold Hid
        have g12_0 := later_lt (a := ⟨w.heap.size, 0, none⟩) (v := .int .u64 (num x)) hb (by simp <;> omega) (by go_simp)
        have g12_1 := later_lt (a := ⟨w.heap.size, 1, none⟩) (v := .int .i64 n) hb (by simp <;> omega) (by go_simp)
        have g12_2 := later_lt (a := ⟨w3.heap.size, 0, none⟩) (v := .int .u64 (num x)) hb (by simp <;> omega) (by go_simp)
        have g12_3 := later_lt (a := ⟨w3.heap.size, 1, none⟩) (v := .int .i64 n) hb (by simp <;> omega) (by go_simp)
        have g12_4 := later_lt (a := ⟨w6.heap.size, 0, none⟩) (v := .int .u64 (num X)) hb (by simp <;> omega) (by go_simp)
        have g12_5 := later_lt (a := ⟨w6.heap.size, 1, none⟩) (v := .int .i64 N) hb (by simp <;> omega) (by go_simp)
        have g12_6 := later_lt (a := ⟨w10.heap.size, 0, none⟩) (v := .int .u64 (num X)) hb (by simp <;> omega) (by go_simp)
        have g12_7 := later_lt (a := ⟨w10.heap.size, 1, none⟩) (v := .int .i64 N) hb (by simp <;> omega) (by go_simp)
        have z12_0 : w.heap.size < w12.heap.size := (by have := hb.size; first | omega | (simp at this; omega))
        have z12_1 : w3.heap.size < w12.heap.size := (by have := hb.size; first | omega | (simp at this; omega))
        have z12_2 : w6.heap.size < w12.heap.size := (by have := hb.size; first | omega | (simp at this; omega))
        have z12_3 : w10.heap.size < w12.heap.size := (by have := hb.size; first | omega | (simp at this; omega))
        replace hB := (al hB _).trans (hb.mono (by have := hB.size; first | omega | (simp <;> omega)))
        replace hC := (al (hC) _).trans (hb.mono (by have := hC.size; first | omega | (simp <;> omega)))
        have O1 := Lib.hid ho
        have HZ := hb.size
        simp at HZ
        clear ho
        clear hb g11_0 g11_1 g11_2 g11_3 g11_4 g11_5 g11_6 g11_7
        go_wp2_with (at_builtin; (refine wpList_app rfl _ _ rfl (l := la) (B := w11.heap.size) (O1.out) rfl (m := lb) rfl (yb.later hB) (ob) (by omega) L1.out (by omega) ?_); intro x7 c7 w13 ho hb _; refine Hid.out ?_)
        unfold Hid
        have g13_0 := later_lt (a := ⟨w.heap.size, 0, none⟩) (v := .int .u64 (num x)) hb (by simp <;> omega) (by go_simp)
        have g13_1 := later_lt (a := ⟨w.heap.size, 1, none⟩) (v := .int .i64 n) hb (by simp <;> omega) (by go_simp)
        have g13_2 := later_lt (a := ⟨w3.heap.size, 0, none⟩) (v := .int .u64 (num x)) hb (by simp <;> omega) (by go_simp)
        have g13_3 := later_lt (a := ⟨w3.heap.size, 1, none⟩) (v := .int .i64 n) hb (by simp <;> omega) (by go_simp)
        have g13_4 := later_lt (a := ⟨w6.heap.size, 0, none⟩) (v := .int .u64 (num X)) hb (by simp <;> omega) (by go_simp)
        have g13_5 := later_lt (a := ⟨w6.heap.size, 1, none⟩) (v := .int .i64 N) hb (by simp <;> omega) (by go_simp)
        have g13_6 := later_lt (a := ⟨w10.heap.size, 0, none⟩) (v := .int .u64 (num X)) hb (by simp <;> omega) (by go_simp)
        have g13_7 := later_lt (a := ⟨w10.heap.size, 1, none⟩) (v := .int .i64 N) hb (by simp <;> omega) (by go_simp)
        have z13_0 : w.heap.size < w13.heap.size := (by have := hb.size; first | omega | (simp at this; omega))
        have z13_1 : w3.heap.size < w13.heap.size := (by have := hb.size; first | omega | (simp at this; omega))
        have z13_2 : w6.heap.size < w13.heap.size := (by have := hb.size; first | omega | (simp at this; omega))
        have z13_3 : w10.heap.size < w13.heap.size := (by have := hb.size; first | omega | (simp at this; omega))
        replace hB := (hB).trans (hb.mono (by have := hB.size; first | omega | (simp <;> omega)))
        replace hC := (hC).trans (hb.mono (by have := hC.size; first | omega | (simp <;> omega)))
        have O2 := Lib.hid ho
        clear ho O1 HZ
        clear hb g12_0 g12_1 g12_2 g12_3 g12_4 g12_5 g12_6 g12_7 z12_0 z12_1 z12_2 z12_3
        have y7 := O2.out.bts
        clear O2
        go_wp2_with fail
        refine (add_any Dig.start 0 x7 lab c7 _ (by decide) (by omega) y7).mono ?_
        rintro e w14 ⟨rfl, hb⟩
        rw [F6.out, G7.out]
        clear y7
        have hq := thru (Below.refl _ w13) hb
        have g14_0 := later hq g13_0
        have g14_1 := later hq g13_1
        have g14_2 := later hq g13_2
        have g14_3 := later hq g13_3
        have g14_4 := later hq g13_4
        have g14_5 := later hq g13_5
        have g14_6 := later hq g13_6
        have g14_7 := later hq g13_7
        have z14_0 : w.heap.size < w14.heap.size := Nat.lt_of_lt_of_le z13_0 hq.size
        have z14_1 : w3.heap.size < w14.heap.size := Nat.lt_of_lt_of_le z13_1 hq.size
        have z14_2 : w6.heap.size < w14.heap.size := Nat.lt_of_lt_of_le z13_2 hq.size
        have z14_3 : w10.heap.size < w14.heap.size := Nat.lt_of_lt_of_le z13_3 hq.size
        replace hB := thru hB hq
        replace hC := thru hC hq
        clear hb hq g13_0 g13_1 g13_2 g13_3 g13_4 g13_5 g13_6 g13_7 z13_0 z13_1 z13_2 z13_3
        go_wp2_with fail
        refine (add_any z1' (M1) _ lc cc _ R3.out (by omega) (yc.later hB)).mono ?_
        rintro e w15 ⟨rfl, hb⟩
        rw [F7.out, G6.out]
        have hq := thru (Below.refl _ w14) hb
        have g15_0 := later hq g14_0
        have g15_1 := later hq g14_1
        have g15_2 := later hq g14_2
        have g15_3 := later hq g14_3
        have g15_4 := later hq g14_4
        have g15_5 := later hq g14_5
        have g15_6 := later hq g14_6
        have g15_7 := later hq g14_7
        have z15_0 : w.heap.size < w15.heap.size := Nat.lt_of_lt_of_le z14_0 hq.size
        have z15_1 : w3.heap.size < w15.heap.size := Nat.lt_of_lt_of_le z14_1 hq.size
        have z15_2 : w6.heap.size < w15.heap.size := Nat.lt_of_lt_of_le z14_2 hq.size
        have z15_3 : w10.heap.size < w15.heap.size := Nat.lt_of_lt_of_le z14_3 hq.size
        replace hB := thru hB hq
        replace hC := thru hC hq
        clear hb hq g14_0 g14_1 g14_2 g14_3 g14_4 g14_5 g14_6 g14_7 z14_0 z14_1 z14_2 z14_3
        go_wp2_with fail
        refine wp_region_sched (fun W => W.cell? ⟨w.heap.size, 0, none⟩ = some (.int .u64 (num x)) ∧ W.cell? ⟨w.heap.size, 1, none⟩ = some (.int .i64 n) ∧ W.cell? ⟨w3.heap.size, 0, none⟩ = some (.int .u64 (num x)) ∧ W.cell? ⟨w3.heap.size, 1, none⟩ = some (.int .i64 n) ∧ W.cell? ⟨w6.heap.size, 0, none⟩ = some (.int .u64 (num X)) ∧ W.cell? ⟨w6.heap.size, 1, none⟩ = some (.int .i64 N) ∧ W.cell? ⟨w10.heap.size, 0, none⟩ = some (.int .u64 (num X)) ∧ W.cell? ⟨w10.heap.size, 1, none⟩ = some (.int .i64 N) ∧ W.cell? ⟨w15.heap.size, 0, none⟩ = some (.int .u64 (num Z)) ∧ W.cell? ⟨w15.heap.size, 1, none⟩ = some (.int .i64 (wl.length : Int)) ∧ w.heap.size < W.heap.size ∧ w3.heap.size < W.heap.size ∧ w6.heap.size < W.heap.size ∧ w10.heap.size < W.heap.size ∧ w15.heap.size < W.heap.size ∧ Below w3.heap.size w3 W ∧ Below w.heap.size w W) (.one [0, 1, 2] 3 (.one [4, 5, 6, 7, 8, 9, 10, 11, 12, 13, 14, 15, 16, 18] 17 (.one [] 19 (.one [20, 21, 22, 23, 25] 24 (.one [26, 27, 28] 29 (.done [30, 31])))))) (by kernel_rfl) (by kernel_rfl) (fun _ _ _ _ _ h => h) ⟨(by go_simp), (by go_simp), (by go_simp), (by go_simp), (by go_simp), (by go_simp), (by go_simp), (by go_simp), (by go_simp), (by go_simp), (by simp <;> omega), (by simp <;> omega), (by simp <;> omega), (by simp <;> omega), (by simp <;> omega), (thru hC (al (Below.refl _ w15) _)).drew, (thru hB (al (Below.refl _ w15) _)).drew⟩ ?_
        clear hB hC g15_0 g15_1 g15_2 g15_3 g15_4 g15_5 g15_6 g15_7 z15_0 z15_1 z15_2 z15_3
        rintro W ⟨g16_0, g16_1, g16_2, g16_3, g16_4, g16_5, g16_6, g16_7, g16_8, g16_9, z16_0, z16_1, z16_2, z16_3, z16_4, hC, hB⟩
        rw [wpSched]
        simp only [pick, List.map_cons, List.map_nil, Array.getD_eq_getD_getElem?, List.getElem?_toArray, List.getElem?_cons_succ, List.getElem?_cons_zero, Option.getD_some]
        have kg16_4 := plusW_cell g16_4
        have kg16_5 := plusW_cell g16_5
        have kg16_0 := plusW_cell g16_0
        have kg16_1 := plusW_cell g16_1
        repeat (first | go_big_quiet_step (fail) | quiet_step (fail))
        refine wpQuiet_nil ?_
        clear kg16_4 kg16_5 kg16_0 kg16_1
        refine heavy_want (by rfl) (fun K' hK' => ?_)
        go_simp
        refine (add_any x n x3 wl c3 _ R0.out (by omega) (yw.later hC)).mono ?_
        rintro e V1 ⟨rfl, hb⟩
        refine hK' _ _ hb ?_
        clear hK' K'
        rw [F5.out, G5.out]
        have hq := thru (Below.refl _ W) hb
        clear hb
        have g17_0 := later hq g16_0
        have g17_1 := later hq g16_1
        have g17_2 := later hq g16_2
        have g17_3 := later hq g16_3
        have g17_4 := later hq g16_4
        have g17_5 := later hq g16_5
        have g17_6 := later hq g16_6
        have g17_7 := later hq g16_7
        have g17_8 := later hq g16_8
        have g17_9 := later hq g16_9
        have z17_0 : w.heap.size < V1.heap.size := Nat.lt_of_lt_of_le z16_0 hq.size
        have z17_1 : w3.heap.size < V1.heap.size := Nat.lt_of_lt_of_le z16_1 hq.size
        have z17_2 : w6.heap.size < V1.heap.size := Nat.lt_of_lt_of_le z16_2 hq.size
        have z17_3 : w10.heap.size < V1.heap.size := Nat.lt_of_lt_of_le z16_3 hq.size
        have z17_4 : w15.heap.size < V1.heap.size := Nat.lt_of_lt_of_le z16_4 hq.size
        replace hB := thru hB hq
        replace hC := thru hC hq
        clear hq g16_0 g16_1 g16_2 g16_3 g16_4 g16_5 g16_6 g16_7 g16_8 g16_9 z16_0 z16_1 z16_2 z16_3 z16_4
        try simp only [Act.put, List.setIfInBounds_toArray, List.set_cons_zero, List.set_cons_succ]
        rw [wpSched]
        simp only [pick, List.map_cons, List.map_nil, Array.getD_eq_getD_getElem?, List.getElem?_toArray, List.getElem?_cons_succ, List.getElem?_cons_zero, Option.getD_some]
        have kg17_6 := plusW_cell g17_6
        have kg17_7 := plusW_cell g17_7
        have kg17_4 := plusW_cell g17_4
        have kg17_5 := plusW_cell g17_5
        have kg17_0 := plusW_cell g17_0
        have kg17_1 := plusW_cell g17_1
        have kg17_2 := plusW_cell g17_2
        have kg17_3 := plusW_cell g17_3
        have kg17_8 := plusW_cell g17_8
        have kg17_9 := plusW_cell g17_9
        repeat (first | go_big_quiet_step (fail) | quiet_step (fail))
        refine wpQuiet_nil ?_
        clear kg17_6 kg17_7 kg17_4 kg17_5 kg17_0 kg17_1 kg17_2 kg17_3 kg17_8 kg17_9
        refine heavy_want (by rfl) (fun K' hK' => ?_)
        go_simp
        refine (fin_any _ _ _).mono ?_
        rintro e V2 ⟨rfl, hb⟩
        refine hK' _ _ hb ?_
        clear hK' K'
        have hq := thru (Below.refl _ V1) hb
        clear hb
        have g18_0 := later hq g17_0
        have g18_1 := later hq g17_1
        have g18_2 := later hq g17_2
        have g18_3 := later hq g17_3
        have g18_4 := later hq g17_4
        have g18_5 := later hq g17_5
        have g18_6 := later hq g17_6
        have g18_7 := later hq g17_7
        have g18_8 := later hq g17_8
        have g18_9 := later hq g17_9
        have z18_0 : w.heap.size < V2.heap.size := Nat.lt_of_lt_of_le z17_0 hq.size
        have z18_1 : w3.heap.size < V2.heap.size := Nat.lt_of_lt_of_le z17_1 hq.size
        have z18_2 : w6.heap.size < V2.heap.size := Nat.lt_of_lt_of_le z17_2 hq.size
        have z18_3 : w10.heap.size < V2.heap.size := Nat.lt_of_lt_of_le z17_3 hq.size
        have z18_4 : w15.heap.size < V2.heap.size := Nat.lt_of_lt_of_le z17_4 hq.size
        replace hB := thru hB hq
        replace hC := thru hC hq
        clear hq g17_0 g17_1 g17_2 g17_3 g17_4 g17_5 g17_6 g17_7 g17_8 g17_9 z17_0 z17_1 z17_2 z17_3 z17_4
        try simp only [Act.put, List.setIfInBounds_toArray, List.set_cons_zero, List.set_cons_succ]
        rw [wpSched]
        simp only [pick, List.map_nil, Array.getD_eq_getD_getElem?, List.getElem?_toArray, List.getElem?_cons_succ, List.getElem?_cons_zero, Option.getD_some]
        refine wpQuiet_nil ?_
        refine heavy_want (by rfl) (fun K' hK' => ?_)
        go_simp
        refine (of_any x3 wl c3 _ (by omega) (yw.later hC)).mono ?_
        rintro e V3 ⟨rfl, hb⟩
        refine hK' _ _ hb ?_
        clear hK' K'
        rw [F8.out]
        have hq := thru (Below.refl _ V2) hb
        clear hb
        have g19_0 := later hq g18_0
        have g19_1 := later hq g18_1
        have g19_2 := later hq g18_2
        have g19_3 := later hq g18_3
        have g19_4 := later hq g18_4
        have g19_5 := later hq g18_5
        have g19_6 := later hq g18_6
        have g19_7 := later hq g18_7
        have g19_8 := later hq g18_8
        have g19_9 := later hq g18_9
        have z19_0 : w.heap.size < V3.heap.size := Nat.lt_of_lt_of_le z18_0 hq.size
        have z19_1 : w3.heap.size < V3.heap.size := Nat.lt_of_lt_of_le z18_1 hq.size
        have z19_2 : w6.heap.size < V3.heap.size := Nat.lt_of_lt_of_le z18_2 hq.size
        have z19_3 : w10.heap.size < V3.heap.size := Nat.lt_of_lt_of_le z18_3 hq.size
        have z19_4 : w15.heap.size < V3.heap.size := Nat.lt_of_lt_of_le z18_4 hq.size
        replace hB := thru hB hq
        replace hC := thru hC hq
        clear hq g18_0 g18_1 g18_2 g18_3 g18_4 g18_5 g18_6 g18_7 g18_8 g18_9 z18_0 z18_1 z18_2 z18_3 z18_4
        try simp only [Act.put, List.setIfInBounds_toArray, List.set_cons_zero, List.set_cons_succ]
        rw [wpSched]
        simp only [pick, List.map_cons, List.map_nil, Array.getD_eq_getD_getElem?, List.getElem?_toArray, List.getElem?_cons_succ, List.getElem?_cons_zero, Option.getD_some]
        have kg19_0 := plusW_cell g19_0
        have kg19_1 := plusW_cell g19_1
        repeat (first | go_big_quiet_step (fail) | quiet_step (fail))
        refine wpQuiet_nil ?_
        clear kg19_0 kg19_1
        refine heavy_want (by rfl) (fun K' hK' => ?_)
        go_simp
        refine (add_any x n none [] 0 _ R0.out (by decide) (Bts.nil _ _)).mono ?_
        rintro e V4 ⟨rfl, hb⟩
        refine hK' _ _ hb ?_
        clear hK' K'
        rw [Dig.addL_nil, G8.out]
        have hq := thru (Below.refl _ V3) hb
        clear hb
        have g20_0 := later hq g19_0
        have g20_1 := later hq g19_1
        have g20_2 := later hq g19_2
        have g20_3 := later hq g19_3
        have g20_4 := later hq g19_4
        have g20_5 := later hq g19_5
        have g20_6 := later hq g19_6
        have g20_7 := later hq g19_7
        have g20_8 := later hq g19_8
        have g20_9 := later hq g19_9
        have z20_0 : w.heap.size < V4.heap.size := Nat.lt_of_lt_of_le z19_0 hq.size
        have z20_1 : w3.heap.size < V4.heap.size := Nat.lt_of_lt_of_le z19_1 hq.size
        have z20_2 : w6.heap.size < V4.heap.size := Nat.lt_of_lt_of_le z19_2 hq.size
        have z20_3 : w10.heap.size < V4.heap.size := Nat.lt_of_lt_of_le z19_3 hq.size
        have z20_4 : w15.heap.size < V4.heap.size := Nat.lt_of_lt_of_le z19_4 hq.size
        replace hB := thru hB hq
        replace hC := thru hC hq
        clear hq g19_0 g19_1 g19_2 g19_3 g19_4 g19_5 g19_6 g19_7 g19_8 g19_9 z19_0 z19_1 z19_2 z19_3 z19_4
        try simp only [Act.put, List.setIfInBounds_toArray, List.set_cons_zero, List.set_cons_succ]
        rw [wpSched]
        simp only [pick, List.map_cons, List.map_nil, Array.getD_eq_getD_getElem?, List.getElem?_toArray, List.getElem?_cons_succ, List.getElem?_cons_zero, Option.getD_some]
        have kg20_0 := plusW_cell g20_0
        have kg20_1 := plusW_cell g20_1
        repeat (first | go_big_quiet_step (fail) | quiet_step (fail))
        refine wpQuiet_nil ?_
        clear kg20_0 kg20_1
        refine heavy_want (by rfl) (fun K' hK' => ?_)
        go_simp
        refine (awake_any _).mono ?_
        rintro e V5 ⟨rfl, hb⟩
        refine hK' _ _ hb ?_
        clear hK' K'
        have hq := thru (Below.refl _ V4) hb
        clear hb
        have g21_0 := later hq g20_0
        have g21_1 := later hq g20_1
        have g21_2 := later hq g20_2
        have g21_3 := later hq g20_3
        have g21_4 := later hq g20_4
        have g21_5 := later hq g20_5
        have g21_6 := later hq g20_6
        have g21_7 := later hq g20_7
        have g21_8 := later hq g20_8
        have g21_9 := later hq g20_9
        have z21_0 : w.heap.size < V5.heap.size := Nat.lt_of_lt_of_le z20_0 hq.size
        have z21_1 : w3.heap.size < V5.heap.size := Nat.lt_of_lt_of_le z20_1 hq.size
        have z21_2 : w6.heap.size < V5.heap.size := Nat.lt_of_lt_of_le z20_2 hq.size
        have z21_3 : w10.heap.size < V5.heap.size := Nat.lt_of_lt_of_le z20_3 hq.size
        have z21_4 : w15.heap.size < V5.heap.size := Nat.lt_of_lt_of_le z20_4 hq.size
        replace hB := thru hB hq
        replace hC := thru hC hq
        clear hq g20_0 g20_1 g20_2 g20_3 g20_4 g20_5 g20_6 g20_7 g20_8 g20_9 z20_0 z20_1 z20_2 z20_3 z20_4
        try simp only [Act.put, List.setIfInBounds_toArray, List.set_cons_zero, List.set_cons_succ]
        rw [wpSched]
        simp only [pick, List.map_cons, List.map_nil, Array.getD_eq_getD_getElem?, List.getElem?_toArray, List.getElem?_cons_succ, List.getElem?_cons_zero, Option.getD_some]
        repeat (first | go_big_quiet_step (fail) | quiet_step (fail))
        refine wpQuiet_nil ?_
        go_wp2_with fail
        go_ret
        exact ⟨rfl, hB⟩

end Go.Proofs.Ytmlmgpliajffnaa
