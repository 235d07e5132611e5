/- WALKS of the laws of the digest layer: DigestStates. -/
import Derived.Test.YtmlmgpliajffnaaLawB5
import Derived.Test.YtmlmgpliajffnaaRegionB
namespace Go.Proofs.Ytmlmgpliajffnaa
open Go.RowKit

def StR (xl : Option Addr) (l : List UInt8) (c : Nat) (x : D64) (n : Int) (y : D64) (m : Int) (u v : UInt8) (w : World) (X Y : D64) (N : Int) (a' : Act) (W : World) : Prop :=
  ∃ b1 b2, a' = ({ tmps := #[.slice xl l.length c, .agg #[.int .u64 (num x), .int .i64 n], .agg #[.int .u64 (num y), .int .i64 m], .int .u8 (u.toNat : Int), .int .u8 (v.toNat : Int), undef, .pointer (some ⟨w.heap.size, 0, none⟩), .pointer (some ⟨w.heap.size + 1, 0, none⟩), undef, undef, .bool false, .pointer (some ⟨b1, 0, none⟩), .pointer (some ⟨b2, 0, none⟩), .slice xl l.length c, .int .i64 (l.length : Int), .bool false, undef, .pointer (some ⟨w.heap.size, 1, none⟩), .int .i64 n, .pointer (some ⟨w.heap.size + 1, 1, none⟩), .agg #[.int .u64 (num x), .int .i64 n], .slice xl l.length c, .agg #[.int .u64 (num X), .int .i64 N], .agg #[.int .u64 (num y), .int .i64 n], .slice xl l.length c, .agg #[.int .u64 (num Y), .int .i64 N], undef, undef, undef, undef, undef, undef, undef, undef, undef, undef, undef, undef, undef, undef, undef, undef, undef, undef, undef, undef, undef, undef, undef, undef, undef, undef, undef, undef, undef, undef, undef, undef, undef, undef, undef, undef, undef, undef, undef, undef, undef, undef, undef, undef, undef], defers := [] } : Act) ∧ b1 < W.heap.size ∧ b2 < W.heap.size ∧ w.heap.size + 1 + 1 ≤ b1 ∧ w.heap.size + 1 + 1 ≤ b2 ∧ Below w.heap.size w W ∧ W.cell? ⟨w.heap.size, 0, none⟩ = some (.int .u64 (num x)) ∧ W.cell? ⟨w.heap.size, 1, none⟩ = some (.int .i64 n) ∧ W.cell? ⟨w.heap.size + 1, 0, none⟩ = some (.int .u64 (num y)) ∧ W.cell? ⟨w.heap.size + 1, 1, none⟩ = some (.int .i64 n) ∧ W.cell? ⟨b1, 0, none⟩ = some (.int .u64 (num X)) ∧ W.cell? ⟨b1, 1, none⟩ = some (.int .i64 N) ∧ W.cell? ⟨b2, 0, none⟩ = some (.int .u64 (num Y)) ∧ W.cell? ⟨b2, 1, none⟩ = some (.int .i64 N)

set_option maxHeartbeats 4000000 in
theorem states_law (xl : Option Addr) (l : List UInt8) (c : Nat) (x : D64) (n : Int) (y : D64) (m : Int) (u v : UInt8) (w : World) (yl : Bts w xl l) (hn : -9223372036854775808 ≤ n ∧ n ≤ 9223372036854775807) (h63 : l.length ≤ 9223372036854775807) :
    Calls Try.prog 5 #[.slice xl l.length c, .agg #[.int .u64 (num x), .int .i64 n], .agg #[.int .u64 (num y), .int .i64 m], .int .u8 (u.toNat : Int), .int .u8 (v.toNat : Int)] w (YesOf w) := by
  by_cases c0 : 300 < (l.length : Int)
  · have y0_0 : decide (300 < (l.length : Int)) = true := decide_eq_true c0
    go_enter Try.func5, Try.ntmps5
    go_wp2_with fail
    refine (awake_any _).mono ?_
    rintro e w' ⟨rfl, hb⟩
    go_wp2_with fail
    go_ret
    exact ⟨rfl, thru (al (al (Below.refl _ w) _) _) hb⟩
  · have y0_0 : decide (300 < (l.length : Int)) = false := decide_eq_false c0
    have l3 : l.length ≤ 300 := by omega
    obtain ⟨X, hX⟩ : ∃ z, Dig.addL x l = z := ⟨_, rfl⟩
    obtain ⟨Y, hY⟩ : ∃ z, Dig.addL y l = z := ⟨_, rfl⟩
    obtain ⟨N, hN⟩ : ∃ z, wrap64 (n + (l.length : Int)) = z := ⟨_, rfl⟩
    have FX := Lib.hid hX
    have FY := Lib.hid hY
    have GN := Lib.hid hN
    obtain ⟨q, hq⟩ : ∃ q, (x == y) = q := ⟨_, rfl⟩
    have e1 : (X == Y) = q := by
      rw [← hq, Bool.eq_iff_iff]; simp only [beq_iff_eq]
      exact ⟨fun h => Dig.addL_inj l (by rw [hX, hY]; exact h), fun h => by rw [← hX, ← hY, h]⟩
    have HE0 := Lib.hid hq
    have HE1 := Lib.hid e1
    have HE2 : Hid ((Dig.fin x n == Dig.fin y n) = q) := by
      show (Dig.fin x n == Dig.fin y n) = q
      rw [← hq, Bool.eq_iff_iff]; simp only [beq_iff_eq]
      exact ⟨fun h => Dig.fin_inj h, fun h => by rw [h]⟩
    have HE3 : Hid ((Dig.fin X N == Dig.fin Y N) = q) := by
      show (Dig.fin X N == Dig.fin Y N) = q
      rw [← e1, Bool.eq_iff_iff]; simp only [beq_iff_eq]
      exact ⟨fun h => Dig.fin_inj h, fun h => by rw [h]⟩
    obtain ⟨q2, hq2⟩ : ∃ q, (u == v) = q := ⟨_, rfl⟩
    have e4 : (Dig.addL x [u] == Dig.addL x [v]) = q2 := by
      rw [← hq2, Bool.eq_iff_iff]; simp only [beq_iff_eq]
      exact ⟨fun h => Dig.step_byte_inj h, fun h => by rw [h]⟩
    have e5 : ((u.toNat : Int) == (v.toNat : Int)) = q2 := by
      rw [← hq2, Bool.eq_iff_iff]; simp [← UInt8.toNat_inj]; omega
    have HN := Lib.hid hn
    have HE4 := Lib.hid e4
    have HE5 := Lib.hid e5
    clear e1 hq hq2 e4 e5
    clear hX hY hN hn c0
    have hB := Below.refl w.heap.size w
    go_enter Try.func5, Try.ntmps5
    go_wp2_with fail
    refine wp_cut (StR xl l c x n y m u v w X Y N) ?_ ?_
    · refine wp_region_schedB (B := w.heap.size + 1 + 1) (fun W => Below w.heap.size w W ∧ w.heap.size + 1 + 1 ≤ W.heap.size ∧ W.cell? ⟨w.heap.size, 0, none⟩ = some (.int .u64 (num x)) ∧ W.cell? ⟨w.heap.size, 1, none⟩ = some (.int .i64 n) ∧ W.cell? ⟨w.heap.size + 1, 0, none⟩ = some (.int .u64 (num y)) ∧ W.cell? ⟨w.heap.size + 1, 1, none⟩ = some (.int .i64 n)) (.three [0, 1, 3, 4] 2 (.three [] 5 (.two [] 6 (.one [] 7 (.one [] 8 (.one [] 9 (.done [])))) 7 (.one [] 6 (.one [] 8 (.one [] 9 (.done []))))) 6 (.two [] 5 (.one [] 7 (.one [] 8 (.one [] 9 (.done [])))) 7 (.one [] 5 (.one [] 8 (.one [] 9 (.done []))))) 7 (.two [] 5 (.one [] 6 (.one [] 8 (.one [] 9 (.done [])))) 6 (.one [] 5 (.one [] 8 (.one [] 9 (.done [])))))) 6 (.two [] 2 (.two [] 5 (.one [] 7 (.one [] 8 (.one [] 9 (.done [])))) 7 (.one [] 5 (.one [] 8 (.one [] 9 (.done []))))) 7 (.one [] 2 (.one [] 5 (.one [] 8 (.one [] 9 (.done [])))))) 7 (.two [] 2 (.two [] 5 (.one [] 6 (.one [] 8 (.one [] 9 (.done [])))) 6 (.one [] 5 (.one [] 8 (.one [] 9 (.done []))))) 6 (.one [] 2 (.one [] 5 (.one [] 8 (.one [] 9 (.done []))))))) (by kernel_rfl) (by kernel_rfl) (fun _ _ _ _ _ h => by cases h.1) ⟨(al (al hB _) _).drew, by simp, by go_simp, by go_simp, by go_simp, by go_simp⟩ ?_
      rintro V0 ⟨hB0, zB, k0, k1, k2, k3⟩
      have hC := Below.refl (w.heap.size + 1 + 1) V0
      rw [wpSchedB]
      simp only [pick, List.map_cons, List.map_nil, Array.getD_eq_getD_getElem?, List.getElem?_toArray, List.getElem?_cons_succ, List.getElem?_cons_zero, Option.getD_some]
      have kq0 := plusB_cell k0 (by simp <;> omega : _ < w.heap.size + 1 + 1)
      have kq1 := plusB_cell k1 (by simp <;> omega : _ < w.heap.size + 1 + 1)
      have kq2 := plusB_cell k2 (by simp <;> omega : _ < w.heap.size + 1 + 1)
      have kq3 := plusB_cell k3 (by simp <;> omega : _ < w.heap.size + 1 + 1)
      repeat (first | go_big_quiet_step (fail) | quiet_step (fail))
      refine wpQuiet_nil ?_
      clear kq0 kq1 kq2 kq3
      refine ⟨?_, ?_, ?_⟩
      · refine heavyB_want (by rfl) (fun K' hK' => ?_)
        go_simp
        refine (add_any x n xl l c _ HN.out (by omega) (yl.later (hB0.trans (hC.mono (by omega))))).mono ?_
        rintro e V1 ⟨rfl, hb⟩
        rw [FX.out, GN.out]
        refine hK' _ _ (hb.mono zB) ?_
        clear hK' K'
        replace hC := hC.trans (hb.mono zB)
        have zB := Nat.le_trans zB hb.size
        clear hb
        try simp only [Act.put, List.setIfInBounds_toArray, List.set_cons_zero, List.set_cons_succ]
        rw [wpSchedB]
        simp only [pick, List.map_nil, Array.getD_eq_getD_getElem?, List.getElem?_toArray, List.getElem?_cons_succ, List.getElem?_cons_zero, Option.getD_some]
        refine wpQuiet_nil ?_
        refine ⟨?_, ?_, ?_⟩
        · refine heavyB_want (by rfl) (fun K' hK' => ?_)
          go_simp
          refine (add_any y n xl l c _ HN.out (by omega) (yl.later (hB0.trans (hC.mono (by omega))))).mono ?_
          rintro e V2 ⟨rfl, hb⟩
          rw [FY.out, GN.out]
          refine hK' _ _ (hb.mono zB) ?_
          clear hK' K'
          replace hC := hC.trans (hb.mono zB)
          have zB := Nat.le_trans zB hb.size
          clear hb
          try simp only [Act.put, List.setIfInBounds_toArray, List.set_cons_zero, List.set_cons_succ]
          rw [wpSchedB]
          simp only [pick, List.map_nil, Array.getD_eq_getD_getElem?, List.getElem?_toArray, List.getElem?_cons_succ, List.getElem?_cons_zero, Option.getD_some]
          refine wpQuiet_nil ?_
          refine ⟨?_, ?_⟩
          · refine heavyB_want (by rfl) (fun K' hK' => ?_)
            go_simp
            refine hK' _ _ ((Below.refl _ _).alloc zB _) ?_
            clear hK' K'
            have hq := al (Below.refl _ V2) (.cells #[.int .u64 0, .int .i64 0] 28)
            have fr0 : (V2.alloc (.cells #[.int .u64 0, .int .i64 0] 28)).cell? ⟨V2.heap.size, 0, none⟩ = some (.int .u64 0) := by go_simp
            have fr1 : (V2.alloc (.cells #[.int .u64 0, .int .i64 0] 28)).cell? ⟨V2.heap.size, 1, none⟩ = some (.int .i64 0) := by go_simp
            have fz0 : (V2.alloc (.cells #[.int .u64 0, .int .i64 0] 28)).frozen? ⟨V2.heap.size, 0, none⟩ = false := by go_simp
            have fz1 : (V2.alloc (.cells #[.int .u64 0, .int .i64 0] 28)).frozen? ⟨V2.heap.size, 1, none⟩ = false := by go_simp
            have fl : V2.heap.size < (V2.alloc (.cells #[.int .u64 0, .int .i64 0] 28)).heap.size := by simp
            obtain ⟨V3, hw2⟩ : ∃ X : World, V2.alloc (.cells #[.int .u64 0, .int .i64 0] 28) = X := ⟨_, rfl⟩
            rw [hw2] at hq fr0 fr1 fz0 fz1 fl
            rw [hw2]
            clear hw2
            replace hC := hC.trans (hq.mono zB)
            have c60 := fr0
            have c61 := fr1
            have d60 := fz0
            have d61 := fz1
            have l6 := fl
            have m6 := zB
            have zB := Nat.le_trans zB hq.size
            clear hq fr0 fr1 fz0 fz1 fl
            try simp only [Act.put, List.setIfInBounds_toArray, List.set_cons_zero, List.set_cons_succ]
            rw [wpSchedB]
            simp only [pick, List.map_nil, Array.getD_eq_getD_getElem?, List.getElem?_toArray, List.getElem?_cons_succ, List.getElem?_cons_zero, Option.getD_some]
            refine wpQuiet_nil ?_
            refine heavyB_want (by rfl) (fun K' hK' => ?_)
            go_simp
            refine hK' _ _ ((Below.refl _ _).alloc zB _) ?_
            clear hK' K'
            have hq := al (Below.refl _ V3) (.cells #[.int .u64 0, .int .i64 0] 28)
            have fr0 : (V3.alloc (.cells #[.int .u64 0, .int .i64 0] 28)).cell? ⟨V3.heap.size, 0, none⟩ = some (.int .u64 0) := by go_simp
            have fr1 : (V3.alloc (.cells #[.int .u64 0, .int .i64 0] 28)).cell? ⟨V3.heap.size, 1, none⟩ = some (.int .i64 0) := by go_simp
            have fz0 : (V3.alloc (.cells #[.int .u64 0, .int .i64 0] 28)).frozen? ⟨V3.heap.size, 0, none⟩ = false := by go_simp
            have fz1 : (V3.alloc (.cells #[.int .u64 0, .int .i64 0] 28)).frozen? ⟨V3.heap.size, 1, none⟩ = false := by go_simp
            have fl : V3.heap.size < (V3.alloc (.cells #[.int .u64 0, .int .i64 0] 28)).heap.size := by simp
            obtain ⟨V4, hw2⟩ : ∃ X : World, V3.alloc (.cells #[.int .u64 0, .int .i64 0] 28) = X := ⟨_, rfl⟩
            rw [hw2] at hq fr0 fr1 fz0 fz1 fl
            rw [hw2]
            clear hw2
            replace hC := hC.trans (hq.mono zB)
            have c60 := later hq c60
            have c61 := later hq c61
            have d60 := (hq.frozen l6).trans d60
            have d61 := (hq.frozen l6).trans d61
            have l6n := l6
            have l6 := Nat.lt_of_lt_of_le l6 hq.size
            have c70 := fr0
            have c71 := fr1
            have d70 := fz0
            have d71 := fz1
            have l7 := fl
            have m7 := zB
            have zB := Nat.le_trans zB hq.size
            clear hq fr0 fr1 fz0 fz1 fl
            try simp only [Act.put, List.setIfInBounds_toArray, List.set_cons_zero, List.set_cons_succ]
            rw [wpSchedB]
            simp only [pick, List.map_nil, Array.getD_eq_getD_getElem?, List.getElem?_toArray, List.getElem?_cons_succ, List.getElem?_cons_zero, Option.getD_some]
            refine wpQuiet_nil ?_
            refine heavyB_want (by rfl) (fun K' hK' => ?_)
            go_simp
            refine hK' _ _ ((Below.refl _ _).setCell (p := ⟨V2.heap.size, 0, none⟩) (by show _ ≤ _; omega) _ |>.setCell (p := ⟨V2.heap.size, 1, none⟩) (by show _ ≤ _; omega) _) ?_
            clear hK' K'
            try simp only [Act.put, List.setIfInBounds_toArray, List.set_cons_zero, List.set_cons_succ]
            rw [wpSchedB]
            simp only [pick, List.map_nil, Array.getD_eq_getD_getElem?, List.getElem?_toArray, List.getElem?_cons_succ, List.getElem?_cons_zero, Option.getD_some]
            refine wpQuiet_nil ?_
            refine heavyB_want (by rfl) (fun K' hK' => ?_)
            go_simp
            refine hK' _ _ ((Below.refl _ _).setCell (p := ⟨V3.heap.size, 0, none⟩) (by show _ ≤ _; omega) _ |>.setCell (p := ⟨V3.heap.size, 1, none⟩) (by show _ ≤ _; omega) _) ?_
            clear hK' K'
            try simp only [Act.put, List.setIfInBounds_toArray, List.set_cons_zero, List.set_cons_succ]
            rw [wpSchedB]
            simp only [List.map_nil]
            refine wpQuiet_nil ?_
            have hF := ((((hC.setCell (p := ⟨V2.heap.size, 0, none⟩) (by show _ ≤ _; omega) (.int .u64 (num X))).setCell (p := ⟨V2.heap.size, 1, none⟩) (by show _ ≤ _; omega) (.int .i64 N)).setCell (p := ⟨V3.heap.size, 0, none⟩) (by show _ ≤ _; omega) (.int .u64 (num Y))).setCell (p := ⟨V3.heap.size, 1, none⟩) (by show _ ≤ _; omega) (.int .i64 N))
            refine ⟨by first | rfl | trivial, V2.heap.size, V3.heap.size, rfl, by simp <;> omega, by simp <;> omega, by omega, by omega, hB0.trans (hF.mono (by omega)), later_lt hF (by simp <;> omega) k0, later_lt hF (by simp <;> omega) k1, later_lt hF (by simp <;> omega) k2, later_lt hF (by simp <;> omega) k3, by go_simp, by go_simp, by go_simp, by go_simp⟩
          · refine heavyB_want (by rfl) (fun K' hK' => ?_)
            go_simp
            refine hK' _ _ ((Below.refl _ _).alloc zB _) ?_
            clear hK' K'
            have hq := al (Below.refl _ V2) (.cells #[.int .u64 0, .int .i64 0] 28)
            have fr0 : (V2.alloc (.cells #[.int .u64 0, .int .i64 0] 28)).cell? ⟨V2.heap.size, 0, none⟩ = some (.int .u64 0) := by go_simp
            have fr1 : (V2.alloc (.cells #[.int .u64 0, .int .i64 0] 28)).cell? ⟨V2.heap.size, 1, none⟩ = some (.int .i64 0) := by go_simp
            have fz0 : (V2.alloc (.cells #[.int .u64 0, .int .i64 0] 28)).frozen? ⟨V2.heap.size, 0, none⟩ = false := by go_simp
            have fz1 : (V2.alloc (.cells #[.int .u64 0, .int .i64 0] 28)).frozen? ⟨V2.heap.size, 1, none⟩ = false := by go_simp
            have fl : V2.heap.size < (V2.alloc (.cells #[.int .u64 0, .int .i64 0] 28)).heap.size := by simp
            obtain ⟨V5, hw2⟩ : ∃ X : World, V2.alloc (.cells #[.int .u64 0, .int .i64 0] 28) = X := ⟨_, rfl⟩
            rw [hw2] at hq fr0 fr1 fz0 fz1 fl
            rw [hw2]
            clear hw2
            replace hC := hC.trans (hq.mono zB)
            have c70 := fr0
            have c71 := fr1
            have d70 := fz0
            have d71 := fz1
            have l7 := fl
            have m7 := zB
            have zB := Nat.le_trans zB hq.size
            clear hq fr0 fr1 fz0 fz1 fl
            try simp only [Act.put, List.setIfInBounds_toArray, List.set_cons_zero, List.set_cons_succ]
            rw [wpSchedB]
            simp only [pick, List.map_nil, Array.getD_eq_getD_getElem?, List.getElem?_toArray, List.getElem?_cons_succ, List.getElem?_cons_zero, Option.getD_some]
            refine wpQuiet_nil ?_
            refine heavyB_want (by rfl) (fun K' hK' => ?_)
            go_simp
            refine hK' _ _ ((Below.refl _ _).alloc zB _) ?_
            clear hK' K'
            have hq := al (Below.refl _ V5) (.cells #[.int .u64 0, .int .i64 0] 28)
            have fr0 : (V5.alloc (.cells #[.int .u64 0, .int .i64 0] 28)).cell? ⟨V5.heap.size, 0, none⟩ = some (.int .u64 0) := by go_simp
            have fr1 : (V5.alloc (.cells #[.int .u64 0, .int .i64 0] 28)).cell? ⟨V5.heap.size, 1, none⟩ = some (.int .i64 0) := by go_simp
            have fz0 : (V5.alloc (.cells #[.int .u64 0, .int .i64 0] 28)).frozen? ⟨V5.heap.size, 0, none⟩ = false := by go_simp
            have fz1 : (V5.alloc (.cells #[.int .u64 0, .int .i64 0] 28)).frozen? ⟨V5.heap.size, 1, none⟩ = false := by go_simp
            have fl : V5.heap.size < (V5.alloc (.cells #[.int .u64 0, .int .i64 0] 28)).heap.size := by simp
            obtain ⟨V6, hw2⟩ : ∃ X : World, V5.alloc (.cells #[.int .u64 0, .int .i64 0] 28) = X := ⟨_, rfl⟩
            rw [hw2] at hq fr0 fr1 fz0 fz1 fl
            rw [hw2]
            clear hw2
            replace hC := hC.trans (hq.mono zB)
            have c70 := later hq c70
            have c71 := later hq c71
            have d70 := (hq.frozen l7).trans d70
            have d71 := (hq.frozen l7).trans d71
            have l7n := l7
            have l7 := Nat.lt_of_lt_of_le l7 hq.size
            have c60 := fr0
            have c61 := fr1
            have d60 := fz0
            have d61 := fz1
            have l6 := fl
            have m6 := zB
            have zB := Nat.le_trans zB hq.size
            clear hq fr0 fr1 fz0 fz1 fl
            try simp only [Act.put, List.setIfInBounds_toArray, List.set_cons_zero, List.set_cons_succ]
            rw [wpSchedB]
            simp only [pick, List.map_nil, Array.getD_eq_getD_getElem?, List.getElem?_toArray, List.getElem?_cons_succ, List.getElem?_cons_zero, Option.getD_some]
            refine wpQuiet_nil ?_
            refine heavyB_want (by rfl) (fun K' hK' => ?_)
            go_simp
            refine hK' _ _ ((Below.refl _ _).setCell (p := ⟨V5.heap.size, 0, none⟩) (by show _ ≤ _; omega) _ |>.setCell (p := ⟨V5.heap.size, 1, none⟩) (by show _ ≤ _; omega) _) ?_
            clear hK' K'
            try simp only [Act.put, List.setIfInBounds_toArray, List.set_cons_zero, List.set_cons_succ]
            rw [wpSchedB]
            simp only [pick, List.map_nil, Array.getD_eq_getD_getElem?, List.getElem?_toArray, List.getElem?_cons_succ, List.getElem?_cons_zero, Option.getD_some]
            refine wpQuiet_nil ?_
            refine heavyB_want (by rfl) (fun K' hK' => ?_)
            go_simp
            refine hK' _ _ ((Below.refl _ _).setCell (p := ⟨V2.heap.size, 0, none⟩) (by show _ ≤ _; omega) _ |>.setCell (p := ⟨V2.heap.size, 1, none⟩) (by show _ ≤ _; omega) _) ?_
            clear hK' K'
            try simp only [Act.put, List.setIfInBounds_toArray, List.set_cons_zero, List.set_cons_succ]
            rw [wpSchedB]
            simp only [List.map_nil]
            refine wpQuiet_nil ?_
            have hF := ((((hC.setCell (p := ⟨V5.heap.size, 0, none⟩) (by show _ ≤ _; omega) (.int .u64 (num X))).setCell (p := ⟨V5.heap.size, 1, none⟩) (by show _ ≤ _; omega) (.int .i64 N)).setCell (p := ⟨V2.heap.size, 0, none⟩) (by show _ ≤ _; omega) (.int .u64 (num Y))).setCell (p := ⟨V2.heap.size, 1, none⟩) (by show _ ≤ _; omega) (.int .i64 N))
            refine ⟨by first | rfl | trivial, V5.heap.size, V2.heap.size, rfl, by simp <;> omega, by simp <;> omega, by omega, by omega, hB0.trans (hF.mono (by omega)), later_lt hF (by simp <;> omega) k0, later_lt hF (by simp <;> omega) k1, later_lt hF (by simp <;> omega) k2, later_lt hF (by simp <;> omega) k3, by go_simp, by go_simp, by go_simp, by go_simp⟩
        · refine heavyB_want (by rfl) (fun K' hK' => ?_)
          go_simp
          refine hK' _ _ ((Below.refl _ _).alloc zB _) ?_
          clear hK' K'
          have hq := al (Below.refl _ V1) (.cells #[.int .u64 0, .int .i64 0] 28)
          have fr0 : (V1.alloc (.cells #[.int .u64 0, .int .i64 0] 28)).cell? ⟨V1.heap.size, 0, none⟩ = some (.int .u64 0) := by go_simp
          have fr1 : (V1.alloc (.cells #[.int .u64 0, .int .i64 0] 28)).cell? ⟨V1.heap.size, 1, none⟩ = some (.int .i64 0) := by go_simp
          have fz0 : (V1.alloc (.cells #[.int .u64 0, .int .i64 0] 28)).frozen? ⟨V1.heap.size, 0, none⟩ = false := by go_simp
          have fz1 : (V1.alloc (.cells #[.int .u64 0, .int .i64 0] 28)).frozen? ⟨V1.heap.size, 1, none⟩ = false := by go_simp
          have fl : V1.heap.size < (V1.alloc (.cells #[.int .u64 0, .int .i64 0] 28)).heap.size := by simp
          obtain ⟨V7, hw2⟩ : ∃ X : World, V1.alloc (.cells #[.int .u64 0, .int .i64 0] 28) = X := ⟨_, rfl⟩
          rw [hw2] at hq fr0 fr1 fz0 fz1 fl
          rw [hw2]
          clear hw2
          replace hC := hC.trans (hq.mono zB)
          have c60 := fr0
          have c61 := fr1
          have d60 := fz0
          have d61 := fz1
          have l6 := fl
          have m6 := zB
          have zB := Nat.le_trans zB hq.size
          clear hq fr0 fr1 fz0 fz1 fl
          try simp only [Act.put, List.setIfInBounds_toArray, List.set_cons_zero, List.set_cons_succ]
          rw [wpSchedB]
          simp only [pick, List.map_nil, Array.getD_eq_getD_getElem?, List.getElem?_toArray, List.getElem?_cons_succ, List.getElem?_cons_zero, Option.getD_some]
          refine wpQuiet_nil ?_
          refine ⟨?_, ?_⟩
          · refine heavyB_want (by rfl) (fun K' hK' => ?_)
            go_simp
            refine (add_any y n xl l c _ HN.out (by omega) (yl.later (hB0.trans (hC.mono (by omega))))).mono ?_
            rintro e V8 ⟨rfl, hb⟩
            rw [FY.out, GN.out]
            refine hK' _ _ (hb.mono zB) ?_
            clear hK' K'
            replace hC := hC.trans (hb.mono zB)
            have c60 := later hb c60
            have c61 := later hb c61
            have d60 := (hb.frozen l6).trans d60
            have d61 := (hb.frozen l6).trans d61
            have l6 := Nat.lt_of_lt_of_le l6 hb.size
            have zB := Nat.le_trans zB hb.size
            clear hb
            try simp only [Act.put, List.setIfInBounds_toArray, List.set_cons_zero, List.set_cons_succ]
            rw [wpSchedB]
            simp only [pick, List.map_nil, Array.getD_eq_getD_getElem?, List.getElem?_toArray, List.getElem?_cons_succ, List.getElem?_cons_zero, Option.getD_some]
            refine wpQuiet_nil ?_
            refine heavyB_want (by rfl) (fun K' hK' => ?_)
            go_simp
            refine hK' _ _ ((Below.refl _ _).alloc zB _) ?_
            clear hK' K'
            have hq := al (Below.refl _ V8) (.cells #[.int .u64 0, .int .i64 0] 28)
            have fr0 : (V8.alloc (.cells #[.int .u64 0, .int .i64 0] 28)).cell? ⟨V8.heap.size, 0, none⟩ = some (.int .u64 0) := by go_simp
            have fr1 : (V8.alloc (.cells #[.int .u64 0, .int .i64 0] 28)).cell? ⟨V8.heap.size, 1, none⟩ = some (.int .i64 0) := by go_simp
            have fz0 : (V8.alloc (.cells #[.int .u64 0, .int .i64 0] 28)).frozen? ⟨V8.heap.size, 0, none⟩ = false := by go_simp
            have fz1 : (V8.alloc (.cells #[.int .u64 0, .int .i64 0] 28)).frozen? ⟨V8.heap.size, 1, none⟩ = false := by go_simp
            have fl : V8.heap.size < (V8.alloc (.cells #[.int .u64 0, .int .i64 0] 28)).heap.size := by simp
            obtain ⟨V9, hw2⟩ : ∃ X : World, V8.alloc (.cells #[.int .u64 0, .int .i64 0] 28) = X := ⟨_, rfl⟩
            rw [hw2] at hq fr0 fr1 fz0 fz1 fl
            rw [hw2]
            clear hw2
            replace hC := hC.trans (hq.mono zB)
            have c60 := later hq c60
            have c61 := later hq c61
            have d60 := (hq.frozen l6).trans d60
            have d61 := (hq.frozen l6).trans d61
            have l6n := l6
            have l6 := Nat.lt_of_lt_of_le l6 hq.size
            have c70 := fr0
            have c71 := fr1
            have d70 := fz0
            have d71 := fz1
            have l7 := fl
            have m7 := zB
            have zB := Nat.le_trans zB hq.size
            clear hq fr0 fr1 fz0 fz1 fl
            try simp only [Act.put, List.setIfInBounds_toArray, List.set_cons_zero, List.set_cons_succ]
            rw [wpSchedB]
            simp only [pick, List.map_nil, Array.getD_eq_getD_getElem?, List.getElem?_toArray, List.getElem?_cons_succ, List.getElem?_cons_zero, Option.getD_some]
            refine wpQuiet_nil ?_
            refine heavyB_want (by rfl) (fun K' hK' => ?_)
            go_simp
            refine hK' _ _ ((Below.refl _ _).setCell (p := ⟨V1.heap.size, 0, none⟩) (by show _ ≤ _; omega) _ |>.setCell (p := ⟨V1.heap.size, 1, none⟩) (by show _ ≤ _; omega) _) ?_
            clear hK' K'
            try simp only [Act.put, List.setIfInBounds_toArray, List.set_cons_zero, List.set_cons_succ]
            rw [wpSchedB]
            simp only [pick, List.map_nil, Array.getD_eq_getD_getElem?, List.getElem?_toArray, List.getElem?_cons_succ, List.getElem?_cons_zero, Option.getD_some]
            refine wpQuiet_nil ?_
            refine heavyB_want (by rfl) (fun K' hK' => ?_)
            go_simp
            refine hK' _ _ ((Below.refl _ _).setCell (p := ⟨V8.heap.size, 0, none⟩) (by show _ ≤ _; omega) _ |>.setCell (p := ⟨V8.heap.size, 1, none⟩) (by show _ ≤ _; omega) _) ?_
            clear hK' K'
            try simp only [Act.put, List.setIfInBounds_toArray, List.set_cons_zero, List.set_cons_succ]
            rw [wpSchedB]
            simp only [List.map_nil]
            refine wpQuiet_nil ?_
            have hF := ((((hC.setCell (p := ⟨V1.heap.size, 0, none⟩) (by show _ ≤ _; omega) (.int .u64 (num X))).setCell (p := ⟨V1.heap.size, 1, none⟩) (by show _ ≤ _; omega) (.int .i64 N)).setCell (p := ⟨V8.heap.size, 0, none⟩) (by show _ ≤ _; omega) (.int .u64 (num Y))).setCell (p := ⟨V8.heap.size, 1, none⟩) (by show _ ≤ _; omega) (.int .i64 N))
            refine ⟨by first | rfl | trivial, V1.heap.size, V8.heap.size, rfl, by simp <;> omega, by simp <;> omega, by omega, by omega, hB0.trans (hF.mono (by omega)), later_lt hF (by simp <;> omega) k0, later_lt hF (by simp <;> omega) k1, later_lt hF (by simp <;> omega) k2, later_lt hF (by simp <;> omega) k3, by go_simp, by go_simp, by go_simp, by go_simp⟩
          · refine heavyB_want (by rfl) (fun K' hK' => ?_)
            go_simp
            refine hK' _ _ ((Below.refl _ _).alloc zB _) ?_
            clear hK' K'
            have hq := al (Below.refl _ V7) (.cells #[.int .u64 0, .int .i64 0] 28)
            have fr0 : (V7.alloc (.cells #[.int .u64 0, .int .i64 0] 28)).cell? ⟨V7.heap.size, 0, none⟩ = some (.int .u64 0) := by go_simp
            have fr1 : (V7.alloc (.cells #[.int .u64 0, .int .i64 0] 28)).cell? ⟨V7.heap.size, 1, none⟩ = some (.int .i64 0) := by go_simp
            have fz0 : (V7.alloc (.cells #[.int .u64 0, .int .i64 0] 28)).frozen? ⟨V7.heap.size, 0, none⟩ = false := by go_simp
            have fz1 : (V7.alloc (.cells #[.int .u64 0, .int .i64 0] 28)).frozen? ⟨V7.heap.size, 1, none⟩ = false := by go_simp
            have fl : V7.heap.size < (V7.alloc (.cells #[.int .u64 0, .int .i64 0] 28)).heap.size := by simp
            obtain ⟨V10, hw2⟩ : ∃ X : World, V7.alloc (.cells #[.int .u64 0, .int .i64 0] 28) = X := ⟨_, rfl⟩
            rw [hw2] at hq fr0 fr1 fz0 fz1 fl
            rw [hw2]
            clear hw2
            replace hC := hC.trans (hq.mono zB)
            have c60 := later hq c60
            have c61 := later hq c61
            have d60 := (hq.frozen l6).trans d60
            have d61 := (hq.frozen l6).trans d61
            have l6n := l6
            have l6 := Nat.lt_of_lt_of_le l6 hq.size
            have c70 := fr0
            have c71 := fr1
            have d70 := fz0
            have d71 := fz1
            have l7 := fl
            have m7 := zB
            have zB := Nat.le_trans zB hq.size
            clear hq fr0 fr1 fz0 fz1 fl
            try simp only [Act.put, List.setIfInBounds_toArray, List.set_cons_zero, List.set_cons_succ]
            rw [wpSchedB]
            simp only [pick, List.map_nil, Array.getD_eq_getD_getElem?, List.getElem?_toArray, List.getElem?_cons_succ, List.getElem?_cons_zero, Option.getD_some]
            refine wpQuiet_nil ?_
            refine heavyB_want (by rfl) (fun K' hK' => ?_)
            go_simp
            refine (add_any y n xl l c _ HN.out (by omega) (yl.later (hB0.trans (hC.mono (by omega))))).mono ?_
            rintro e V11 ⟨rfl, hb⟩
            rw [FY.out, GN.out]
            refine hK' _ _ (hb.mono zB) ?_
            clear hK' K'
            replace hC := hC.trans (hb.mono zB)
            have c60 := later hb c60
            have c61 := later hb c61
            have d60 := (hb.frozen l6).trans d60
            have d61 := (hb.frozen l6).trans d61
            have l6 := Nat.lt_of_lt_of_le l6 hb.size
            have c70 := later hb c70
            have c71 := later hb c71
            have d70 := (hb.frozen l7).trans d70
            have d71 := (hb.frozen l7).trans d71
            have l7 := Nat.lt_of_lt_of_le l7 hb.size
            have zB := Nat.le_trans zB hb.size
            clear hb
            try simp only [Act.put, List.setIfInBounds_toArray, List.set_cons_zero, List.set_cons_succ]
            rw [wpSchedB]
            simp only [pick, List.map_nil, Array.getD_eq_getD_getElem?, List.getElem?_toArray, List.getElem?_cons_succ, List.getElem?_cons_zero, Option.getD_some]
            refine wpQuiet_nil ?_
            refine heavyB_want (by rfl) (fun K' hK' => ?_)
            go_simp
            refine hK' _ _ ((Below.refl _ _).setCell (p := ⟨V1.heap.size, 0, none⟩) (by show _ ≤ _; omega) _ |>.setCell (p := ⟨V1.heap.size, 1, none⟩) (by show _ ≤ _; omega) _) ?_
            clear hK' K'
            try simp only [Act.put, List.setIfInBounds_toArray, List.set_cons_zero, List.set_cons_succ]
            rw [wpSchedB]
            simp only [pick, List.map_nil, Array.getD_eq_getD_getElem?, List.getElem?_toArray, List.getElem?_cons_succ, List.getElem?_cons_zero, Option.getD_some]
            refine wpQuiet_nil ?_
            refine heavyB_want (by rfl) (fun K' hK' => ?_)
            go_simp
            refine hK' _ _ ((Below.refl _ _).setCell (p := ⟨V7.heap.size, 0, none⟩) (by show _ ≤ _; omega) _ |>.setCell (p := ⟨V7.heap.size, 1, none⟩) (by show _ ≤ _; omega) _) ?_
            clear hK' K'
            try simp only [Act.put, List.setIfInBounds_toArray, List.set_cons_zero, List.set_cons_succ]
            rw [wpSchedB]
            simp only [List.map_nil]
            refine wpQuiet_nil ?_
            have hF := ((((hC.setCell (p := ⟨V1.heap.size, 0, none⟩) (by show _ ≤ _; omega) (.int .u64 (num X))).setCell (p := ⟨V1.heap.size, 1, none⟩) (by show _ ≤ _; omega) (.int .i64 N)).setCell (p := ⟨V7.heap.size, 0, none⟩) (by show _ ≤ _; omega) (.int .u64 (num Y))).setCell (p := ⟨V7.heap.size, 1, none⟩) (by show _ ≤ _; omega) (.int .i64 N))
            refine ⟨by first | rfl | trivial, V1.heap.size, V7.heap.size, rfl, by simp <;> omega, by simp <;> omega, by omega, by omega, hB0.trans (hF.mono (by omega)), later_lt hF (by simp <;> omega) k0, later_lt hF (by simp <;> omega) k1, later_lt hF (by simp <;> omega) k2, later_lt hF (by simp <;> omega) k3, by go_simp, by go_simp, by go_simp, by go_simp⟩
        · refine heavyB_want (by rfl) (fun K' hK' => ?_)
          go_simp
          refine hK' _ _ ((Below.refl _ _).alloc zB _) ?_
          clear hK' K'
          have hq := al (Below.refl _ V1) (.cells #[.int .u64 0, .int .i64 0] 28)
          have fr0 : (V1.alloc (.cells #[.int .u64 0, .int .i64 0] 28)).cell? ⟨V1.heap.size, 0, none⟩ = some (.int .u64 0) := by go_simp
          have fr1 : (V1.alloc (.cells #[.int .u64 0, .int .i64 0] 28)).cell? ⟨V1.heap.size, 1, none⟩ = some (.int .i64 0) := by go_simp
          have fz0 : (V1.alloc (.cells #[.int .u64 0, .int .i64 0] 28)).frozen? ⟨V1.heap.size, 0, none⟩ = false := by go_simp
          have fz1 : (V1.alloc (.cells #[.int .u64 0, .int .i64 0] 28)).frozen? ⟨V1.heap.size, 1, none⟩ = false := by go_simp
          have fl : V1.heap.size < (V1.alloc (.cells #[.int .u64 0, .int .i64 0] 28)).heap.size := by simp
          obtain ⟨V12, hw2⟩ : ∃ X : World, V1.alloc (.cells #[.int .u64 0, .int .i64 0] 28) = X := ⟨_, rfl⟩
          rw [hw2] at hq fr0 fr1 fz0 fz1 fl
          rw [hw2]
          clear hw2
          replace hC := hC.trans (hq.mono zB)
          have c70 := fr0
          have c71 := fr1
          have d70 := fz0
          have d71 := fz1
          have l7 := fl
          have m7 := zB
          have zB := Nat.le_trans zB hq.size
          clear hq fr0 fr1 fz0 fz1 fl
          try simp only [Act.put, List.setIfInBounds_toArray, List.set_cons_zero, List.set_cons_succ]
          rw [wpSchedB]
          simp only [pick, List.map_nil, Array.getD_eq_getD_getElem?, List.getElem?_toArray, List.getElem?_cons_succ, List.getElem?_cons_zero, Option.getD_some]
          refine wpQuiet_nil ?_
          refine ⟨?_, ?_⟩
          · refine heavyB_want (by rfl) (fun K' hK' => ?_)
            go_simp
            refine (add_any y n xl l c _ HN.out (by omega) (yl.later (hB0.trans (hC.mono (by omega))))).mono ?_
            rintro e V13 ⟨rfl, hb⟩
            rw [FY.out, GN.out]
            refine hK' _ _ (hb.mono zB) ?_
            clear hK' K'
            replace hC := hC.trans (hb.mono zB)
            have c70 := later hb c70
            have c71 := later hb c71
            have d70 := (hb.frozen l7).trans d70
            have d71 := (hb.frozen l7).trans d71
            have l7 := Nat.lt_of_lt_of_le l7 hb.size
            have zB := Nat.le_trans zB hb.size
            clear hb
            try simp only [Act.put, List.setIfInBounds_toArray, List.set_cons_zero, List.set_cons_succ]
            rw [wpSchedB]
            simp only [pick, List.map_nil, Array.getD_eq_getD_getElem?, List.getElem?_toArray, List.getElem?_cons_succ, List.getElem?_cons_zero, Option.getD_some]
            refine wpQuiet_nil ?_
            refine heavyB_want (by rfl) (fun K' hK' => ?_)
            go_simp
            refine hK' _ _ ((Below.refl _ _).alloc zB _) ?_
            clear hK' K'
            have hq := al (Below.refl _ V13) (.cells #[.int .u64 0, .int .i64 0] 28)
            have fr0 : (V13.alloc (.cells #[.int .u64 0, .int .i64 0] 28)).cell? ⟨V13.heap.size, 0, none⟩ = some (.int .u64 0) := by go_simp
            have fr1 : (V13.alloc (.cells #[.int .u64 0, .int .i64 0] 28)).cell? ⟨V13.heap.size, 1, none⟩ = some (.int .i64 0) := by go_simp
            have fz0 : (V13.alloc (.cells #[.int .u64 0, .int .i64 0] 28)).frozen? ⟨V13.heap.size, 0, none⟩ = false := by go_simp
            have fz1 : (V13.alloc (.cells #[.int .u64 0, .int .i64 0] 28)).frozen? ⟨V13.heap.size, 1, none⟩ = false := by go_simp
            have fl : V13.heap.size < (V13.alloc (.cells #[.int .u64 0, .int .i64 0] 28)).heap.size := by simp
            obtain ⟨V14, hw2⟩ : ∃ X : World, V13.alloc (.cells #[.int .u64 0, .int .i64 0] 28) = X := ⟨_, rfl⟩
            rw [hw2] at hq fr0 fr1 fz0 fz1 fl
            rw [hw2]
            clear hw2
            replace hC := hC.trans (hq.mono zB)
            have c70 := later hq c70
            have c71 := later hq c71
            have d70 := (hq.frozen l7).trans d70
            have d71 := (hq.frozen l7).trans d71
            have l7n := l7
            have l7 := Nat.lt_of_lt_of_le l7 hq.size
            have c60 := fr0
            have c61 := fr1
            have d60 := fz0
            have d61 := fz1
            have l6 := fl
            have m6 := zB
            have zB := Nat.le_trans zB hq.size
            clear hq fr0 fr1 fz0 fz1 fl
            try simp only [Act.put, List.setIfInBounds_toArray, List.set_cons_zero, List.set_cons_succ]
            rw [wpSchedB]
            simp only [pick, List.map_nil, Array.getD_eq_getD_getElem?, List.getElem?_toArray, List.getElem?_cons_succ, List.getElem?_cons_zero, Option.getD_some]
            refine wpQuiet_nil ?_
            refine heavyB_want (by rfl) (fun K' hK' => ?_)
            go_simp
            refine hK' _ _ ((Below.refl _ _).setCell (p := ⟨V13.heap.size, 0, none⟩) (by show _ ≤ _; omega) _ |>.setCell (p := ⟨V13.heap.size, 1, none⟩) (by show _ ≤ _; omega) _) ?_
            clear hK' K'
            try simp only [Act.put, List.setIfInBounds_toArray, List.set_cons_zero, List.set_cons_succ]
            rw [wpSchedB]
            simp only [pick, List.map_nil, Array.getD_eq_getD_getElem?, List.getElem?_toArray, List.getElem?_cons_succ, List.getElem?_cons_zero, Option.getD_some]
            refine wpQuiet_nil ?_
            refine heavyB_want (by rfl) (fun K' hK' => ?_)
            go_simp
            refine hK' _ _ ((Below.refl _ _).setCell (p := ⟨V1.heap.size, 0, none⟩) (by show _ ≤ _; omega) _ |>.setCell (p := ⟨V1.heap.size, 1, none⟩) (by show _ ≤ _; omega) _) ?_
            clear hK' K'
            try simp only [Act.put, List.setIfInBounds_toArray, List.set_cons_zero, List.set_cons_succ]
            rw [wpSchedB]
            simp only [List.map_nil]
            refine wpQuiet_nil ?_
            have hF := ((((hC.setCell (p := ⟨V13.heap.size, 0, none⟩) (by show _ ≤ _; omega) (.int .u64 (num X))).setCell (p := ⟨V13.heap.size, 1, none⟩) (by show _ ≤ _; omega) (.int .i64 N)).setCell (p := ⟨V1.heap.size, 0, none⟩) (by show _ ≤ _; omega) (.int .u64 (num Y))).setCell (p := ⟨V1.heap.size, 1, none⟩) (by show _ ≤ _; omega) (.int .i64 N))
            refine ⟨by first | rfl | trivial, V13.heap.size, V1.heap.size, rfl, by simp <;> omega, by simp <;> omega, by omega, by omega, hB0.trans (hF.mono (by omega)), later_lt hF (by simp <;> omega) k0, later_lt hF (by simp <;> omega) k1, later_lt hF (by simp <;> omega) k2, later_lt hF (by simp <;> omega) k3, by go_simp, by go_simp, by go_simp, by go_simp⟩
          · refine heavyB_want (by rfl) (fun K' hK' => ?_)
            go_simp
            refine hK' _ _ ((Below.refl _ _).alloc zB _) ?_
            clear hK' K'
            have hq := al (Below.refl _ V12) (.cells #[.int .u64 0, .int .i64 0] 28)
            have fr0 : (V12.alloc (.cells #[.int .u64 0, .int .i64 0] 28)).cell? ⟨V12.heap.size, 0, none⟩ = some (.int .u64 0) := by go_simp
            have fr1 : (V12.alloc (.cells #[.int .u64 0, .int .i64 0] 28)).cell? ⟨V12.heap.size, 1, none⟩ = some (.int .i64 0) := by go_simp
            have fz0 : (V12.alloc (.cells #[.int .u64 0, .int .i64 0] 28)).frozen? ⟨V12.heap.size, 0, none⟩ = false := by go_simp
            have fz1 : (V12.alloc (.cells #[.int .u64 0, .int .i64 0] 28)).frozen? ⟨V12.heap.size, 1, none⟩ = false := by go_simp
            have fl : V12.heap.size < (V12.alloc (.cells #[.int .u64 0, .int .i64 0] 28)).heap.size := by simp
            obtain ⟨V15, hw2⟩ : ∃ X : World, V12.alloc (.cells #[.int .u64 0, .int .i64 0] 28) = X := ⟨_, rfl⟩
            rw [hw2] at hq fr0 fr1 fz0 fz1 fl
            rw [hw2]
            clear hw2
            replace hC := hC.trans (hq.mono zB)
            have c70 := later hq c70
            have c71 := later hq c71
            have d70 := (hq.frozen l7).trans d70
            have d71 := (hq.frozen l7).trans d71
            have l7n := l7
            have l7 := Nat.lt_of_lt_of_le l7 hq.size
            have c60 := fr0
            have c61 := fr1
            have d60 := fz0
            have d61 := fz1
            have l6 := fl
            have m6 := zB
            have zB := Nat.le_trans zB hq.size
            clear hq fr0 fr1 fz0 fz1 fl
            try simp only [Act.put, List.setIfInBounds_toArray, List.set_cons_zero, List.set_cons_succ]
            rw [wpSchedB]
            simp only [pick, List.map_nil, Array.getD_eq_getD_getElem?, List.getElem?_toArray, List.getElem?_cons_succ, List.getElem?_cons_zero, Option.getD_some]
            refine wpQuiet_nil ?_
            refine heavyB_want (by rfl) (fun K' hK' => ?_)
            go_simp
            refine (add_any y n xl l c _ HN.out (by omega) (yl.later (hB0.trans (hC.mono (by omega))))).mono ?_
            rintro e V16 ⟨rfl, hb⟩
            rw [FY.out, GN.out]
            refine hK' _ _ (hb.mono zB) ?_
            clear hK' K'
            replace hC := hC.trans (hb.mono zB)
            have c60 := later hb c60
            have c61 := later hb c61
            have d60 := (hb.frozen l6).trans d60
            have d61 := (hb.frozen l6).trans d61
            have l6 := Nat.lt_of_lt_of_le l6 hb.size
            have c70 := later hb c70
            have c71 := later hb c71
            have d70 := (hb.frozen l7).trans d70
            have d71 := (hb.frozen l7).trans d71
            have l7 := Nat.lt_of_lt_of_le l7 hb.size
            have zB := Nat.le_trans zB hb.size
            clear hb
            try simp only [Act.put, List.setIfInBounds_toArray, List.set_cons_zero, List.set_cons_succ]
            rw [wpSchedB]
            simp only [pick, List.map_nil, Array.getD_eq_getD_getElem?, List.getElem?_toArray, List.getElem?_cons_succ, List.getElem?_cons_zero, Option.getD_some]
            refine wpQuiet_nil ?_
            refine heavyB_want (by rfl) (fun K' hK' => ?_)
            go_simp
            refine hK' _ _ ((Below.refl _ _).setCell (p := ⟨V12.heap.size, 0, none⟩) (by show _ ≤ _; omega) _ |>.setCell (p := ⟨V12.heap.size, 1, none⟩) (by show _ ≤ _; omega) _) ?_
            clear hK' K'
            try simp only [Act.put, List.setIfInBounds_toArray, List.set_cons_zero, List.set_cons_succ]
            rw [wpSchedB]
            simp only [pick, List.map_nil, Array.getD_eq_getD_getElem?, List.getElem?_toArray, List.getElem?_cons_succ, List.getElem?_cons_zero, Option.getD_some]
            refine wpQuiet_nil ?_
            refine heavyB_want (by rfl) (fun K' hK' => ?_)
            go_simp
            refine hK' _ _ ((Below.refl _ _).setCell (p := ⟨V1.heap.size, 0, none⟩) (by show _ ≤ _; omega) _ |>.setCell (p := ⟨V1.heap.size, 1, none⟩) (by show _ ≤ _; omega) _) ?_
            clear hK' K'
            try simp only [Act.put, List.setIfInBounds_toArray, List.set_cons_zero, List.set_cons_succ]
            rw [wpSchedB]
            simp only [List.map_nil]
            refine wpQuiet_nil ?_
            have hF := ((((hC.setCell (p := ⟨V12.heap.size, 0, none⟩) (by show _ ≤ _; omega) (.int .u64 (num X))).setCell (p := ⟨V12.heap.size, 1, none⟩) (by show _ ≤ _; omega) (.int .i64 N)).setCell (p := ⟨V1.heap.size, 0, none⟩) (by show _ ≤ _; omega) (.int .u64 (num Y))).setCell (p := ⟨V1.heap.size, 1, none⟩) (by show _ ≤ _; omega) (.int .i64 N))
            refine ⟨by first | rfl | trivial, V12.heap.size, V1.heap.size, rfl, by simp <;> omega, by simp <;> omega, by omega, by omega, hB0.trans (hF.mono (by omega)), later_lt hF (by simp <;> omega) k0, later_lt hF (by simp <;> omega) k1, later_lt hF (by simp <;> omega) k2, later_lt hF (by simp <;> omega) k3, by go_simp, by go_simp, by go_simp, by go_simp⟩
      · refine heavyB_want (by rfl) (fun K' hK' => ?_)
        go_simp
        refine hK' _ _ ((Below.refl _ _).alloc zB _) ?_
        clear hK' K'
        have hq := al (Below.refl _ V0) (.cells #[.int .u64 0, .int .i64 0] 28)
        have fr0 : (V0.alloc (.cells #[.int .u64 0, .int .i64 0] 28)).cell? ⟨V0.heap.size, 0, none⟩ = some (.int .u64 0) := by go_simp
        have fr1 : (V0.alloc (.cells #[.int .u64 0, .int .i64 0] 28)).cell? ⟨V0.heap.size, 1, none⟩ = some (.int .i64 0) := by go_simp
        have fz0 : (V0.alloc (.cells #[.int .u64 0, .int .i64 0] 28)).frozen? ⟨V0.heap.size, 0, none⟩ = false := by go_simp
        have fz1 : (V0.alloc (.cells #[.int .u64 0, .int .i64 0] 28)).frozen? ⟨V0.heap.size, 1, none⟩ = false := by go_simp
        have fl : V0.heap.size < (V0.alloc (.cells #[.int .u64 0, .int .i64 0] 28)).heap.size := by simp
        obtain ⟨V17, hw2⟩ : ∃ X : World, V0.alloc (.cells #[.int .u64 0, .int .i64 0] 28) = X := ⟨_, rfl⟩
        rw [hw2] at hq fr0 fr1 fz0 fz1 fl
        rw [hw2]
        clear hw2
        replace hC := hC.trans (hq.mono zB)
        have c60 := fr0
        have c61 := fr1
        have d60 := fz0
        have d61 := fz1
        have l6 := fl
        have m6 := zB
        have zB := Nat.le_trans zB hq.size
        clear hq fr0 fr1 fz0 fz1 fl
        try simp only [Act.put, List.setIfInBounds_toArray, List.set_cons_zero, List.set_cons_succ]
        rw [wpSchedB]
        simp only [pick, List.map_nil, Array.getD_eq_getD_getElem?, List.getElem?_toArray, List.getElem?_cons_succ, List.getElem?_cons_zero, Option.getD_some]
        refine wpQuiet_nil ?_
        refine ⟨?_, ?_⟩
        · refine heavyB_want (by rfl) (fun K' hK' => ?_)
          go_simp
          refine (add_any x n xl l c _ HN.out (by omega) (yl.later (hB0.trans (hC.mono (by omega))))).mono ?_
          rintro e V18 ⟨rfl, hb⟩
          rw [FX.out, GN.out]
          refine hK' _ _ (hb.mono zB) ?_
          clear hK' K'
          replace hC := hC.trans (hb.mono zB)
          have c60 := later hb c60
          have c61 := later hb c61
          have d60 := (hb.frozen l6).trans d60
          have d61 := (hb.frozen l6).trans d61
          have l6 := Nat.lt_of_lt_of_le l6 hb.size
          have zB := Nat.le_trans zB hb.size
          clear hb
          try simp only [Act.put, List.setIfInBounds_toArray, List.set_cons_zero, List.set_cons_succ]
          rw [wpSchedB]
          simp only [pick, List.map_nil, Array.getD_eq_getD_getElem?, List.getElem?_toArray, List.getElem?_cons_succ, List.getElem?_cons_zero, Option.getD_some]
          refine wpQuiet_nil ?_
          refine ⟨?_, ?_⟩
          · refine heavyB_want (by rfl) (fun K' hK' => ?_)
            go_simp
            refine (add_any y n xl l c _ HN.out (by omega) (yl.later (hB0.trans (hC.mono (by omega))))).mono ?_
            rintro e V19 ⟨rfl, hb⟩
            rw [FY.out, GN.out]
            refine hK' _ _ (hb.mono zB) ?_
            clear hK' K'
            replace hC := hC.trans (hb.mono zB)
            have c60 := later hb c60
            have c61 := later hb c61
            have d60 := (hb.frozen l6).trans d60
            have d61 := (hb.frozen l6).trans d61
            have l6 := Nat.lt_of_lt_of_le l6 hb.size
            have zB := Nat.le_trans zB hb.size
            clear hb
            try simp only [Act.put, List.setIfInBounds_toArray, List.set_cons_zero, List.set_cons_succ]
            rw [wpSchedB]
            simp only [pick, List.map_nil, Array.getD_eq_getD_getElem?, List.getElem?_toArray, List.getElem?_cons_succ, List.getElem?_cons_zero, Option.getD_some]
            refine wpQuiet_nil ?_
            refine heavyB_want (by rfl) (fun K' hK' => ?_)
            go_simp
            refine hK' _ _ ((Below.refl _ _).alloc zB _) ?_
            clear hK' K'
            have hq := al (Below.refl _ V19) (.cells #[.int .u64 0, .int .i64 0] 28)
            have fr0 : (V19.alloc (.cells #[.int .u64 0, .int .i64 0] 28)).cell? ⟨V19.heap.size, 0, none⟩ = some (.int .u64 0) := by go_simp
            have fr1 : (V19.alloc (.cells #[.int .u64 0, .int .i64 0] 28)).cell? ⟨V19.heap.size, 1, none⟩ = some (.int .i64 0) := by go_simp
            have fz0 : (V19.alloc (.cells #[.int .u64 0, .int .i64 0] 28)).frozen? ⟨V19.heap.size, 0, none⟩ = false := by go_simp
            have fz1 : (V19.alloc (.cells #[.int .u64 0, .int .i64 0] 28)).frozen? ⟨V19.heap.size, 1, none⟩ = false := by go_simp
            have fl : V19.heap.size < (V19.alloc (.cells #[.int .u64 0, .int .i64 0] 28)).heap.size := by simp
            obtain ⟨V20, hw2⟩ : ∃ X : World, V19.alloc (.cells #[.int .u64 0, .int .i64 0] 28) = X := ⟨_, rfl⟩
            rw [hw2] at hq fr0 fr1 fz0 fz1 fl
            rw [hw2]
            clear hw2
            replace hC := hC.trans (hq.mono zB)
            have c60 := later hq c60
            have c61 := later hq c61
            have d60 := (hq.frozen l6).trans d60
            have d61 := (hq.frozen l6).trans d61
            have l6n := l6
            have l6 := Nat.lt_of_lt_of_le l6 hq.size
            have c70 := fr0
            have c71 := fr1
            have d70 := fz0
            have d71 := fz1
            have l7 := fl
            have m7 := zB
            have zB := Nat.le_trans zB hq.size
            clear hq fr0 fr1 fz0 fz1 fl
            try simp only [Act.put, List.setIfInBounds_toArray, List.set_cons_zero, List.set_cons_succ]
            rw [wpSchedB]
            simp only [pick, List.map_nil, Array.getD_eq_getD_getElem?, List.getElem?_toArray, List.getElem?_cons_succ, List.getElem?_cons_zero, Option.getD_some]
            refine wpQuiet_nil ?_
            refine heavyB_want (by rfl) (fun K' hK' => ?_)
            go_simp
            refine hK' _ _ ((Below.refl _ _).setCell (p := ⟨V0.heap.size, 0, none⟩) (by show _ ≤ _; omega) _ |>.setCell (p := ⟨V0.heap.size, 1, none⟩) (by show _ ≤ _; omega) _) ?_
            clear hK' K'
            try simp only [Act.put, List.setIfInBounds_toArray, List.set_cons_zero, List.set_cons_succ]
            rw [wpSchedB]
            simp only [pick, List.map_nil, Array.getD_eq_getD_getElem?, List.getElem?_toArray, List.getElem?_cons_succ, List.getElem?_cons_zero, Option.getD_some]
            refine wpQuiet_nil ?_
            refine heavyB_want (by rfl) (fun K' hK' => ?_)
            go_simp
            refine hK' _ _ ((Below.refl _ _).setCell (p := ⟨V19.heap.size, 0, none⟩) (by show _ ≤ _; omega) _ |>.setCell (p := ⟨V19.heap.size, 1, none⟩) (by show _ ≤ _; omega) _) ?_
            clear hK' K'
            try simp only [Act.put, List.setIfInBounds_toArray, List.set_cons_zero, List.set_cons_succ]
            rw [wpSchedB]
            simp only [List.map_nil]
            refine wpQuiet_nil ?_
            have hF := ((((hC.setCell (p := ⟨V0.heap.size, 0, none⟩) (by show _ ≤ _; omega) (.int .u64 (num X))).setCell (p := ⟨V0.heap.size, 1, none⟩) (by show _ ≤ _; omega) (.int .i64 N)).setCell (p := ⟨V19.heap.size, 0, none⟩) (by show _ ≤ _; omega) (.int .u64 (num Y))).setCell (p := ⟨V19.heap.size, 1, none⟩) (by show _ ≤ _; omega) (.int .i64 N))
            refine ⟨by first | rfl | trivial, V0.heap.size, V19.heap.size, rfl, by simp <;> omega, by simp <;> omega, by omega, by omega, hB0.trans (hF.mono (by omega)), later_lt hF (by simp <;> omega) k0, later_lt hF (by simp <;> omega) k1, later_lt hF (by simp <;> omega) k2, later_lt hF (by simp <;> omega) k3, by go_simp, by go_simp, by go_simp, by go_simp⟩
          · refine heavyB_want (by rfl) (fun K' hK' => ?_)
            go_simp
            refine hK' _ _ ((Below.refl _ _).alloc zB _) ?_
            clear hK' K'
            have hq := al (Below.refl _ V18) (.cells #[.int .u64 0, .int .i64 0] 28)
            have fr0 : (V18.alloc (.cells #[.int .u64 0, .int .i64 0] 28)).cell? ⟨V18.heap.size, 0, none⟩ = some (.int .u64 0) := by go_simp
            have fr1 : (V18.alloc (.cells #[.int .u64 0, .int .i64 0] 28)).cell? ⟨V18.heap.size, 1, none⟩ = some (.int .i64 0) := by go_simp
            have fz0 : (V18.alloc (.cells #[.int .u64 0, .int .i64 0] 28)).frozen? ⟨V18.heap.size, 0, none⟩ = false := by go_simp
            have fz1 : (V18.alloc (.cells #[.int .u64 0, .int .i64 0] 28)).frozen? ⟨V18.heap.size, 1, none⟩ = false := by go_simp
            have fl : V18.heap.size < (V18.alloc (.cells #[.int .u64 0, .int .i64 0] 28)).heap.size := by simp
            obtain ⟨V21, hw2⟩ : ∃ X : World, V18.alloc (.cells #[.int .u64 0, .int .i64 0] 28) = X := ⟨_, rfl⟩
            rw [hw2] at hq fr0 fr1 fz0 fz1 fl
            rw [hw2]
            clear hw2
            replace hC := hC.trans (hq.mono zB)
            have c60 := later hq c60
            have c61 := later hq c61
            have d60 := (hq.frozen l6).trans d60
            have d61 := (hq.frozen l6).trans d61
            have l6n := l6
            have l6 := Nat.lt_of_lt_of_le l6 hq.size
            have c70 := fr0
            have c71 := fr1
            have d70 := fz0
            have d71 := fz1
            have l7 := fl
            have m7 := zB
            have zB := Nat.le_trans zB hq.size
            clear hq fr0 fr1 fz0 fz1 fl
            try simp only [Act.put, List.setIfInBounds_toArray, List.set_cons_zero, List.set_cons_succ]
            rw [wpSchedB]
            simp only [pick, List.map_nil, Array.getD_eq_getD_getElem?, List.getElem?_toArray, List.getElem?_cons_succ, List.getElem?_cons_zero, Option.getD_some]
            refine wpQuiet_nil ?_
            refine heavyB_want (by rfl) (fun K' hK' => ?_)
            go_simp
            refine (add_any y n xl l c _ HN.out (by omega) (yl.later (hB0.trans (hC.mono (by omega))))).mono ?_
            rintro e V22 ⟨rfl, hb⟩
            rw [FY.out, GN.out]
            refine hK' _ _ (hb.mono zB) ?_
            clear hK' K'
            replace hC := hC.trans (hb.mono zB)
            have c60 := later hb c60
            have c61 := later hb c61
            have d60 := (hb.frozen l6).trans d60
            have d61 := (hb.frozen l6).trans d61
            have l6 := Nat.lt_of_lt_of_le l6 hb.size
            have c70 := later hb c70
            have c71 := later hb c71
            have d70 := (hb.frozen l7).trans d70
            have d71 := (hb.frozen l7).trans d71
            have l7 := Nat.lt_of_lt_of_le l7 hb.size
            have zB := Nat.le_trans zB hb.size
            clear hb
            try simp only [Act.put, List.setIfInBounds_toArray, List.set_cons_zero, List.set_cons_succ]
            rw [wpSchedB]
            simp only [pick, List.map_nil, Array.getD_eq_getD_getElem?, List.getElem?_toArray, List.getElem?_cons_succ, List.getElem?_cons_zero, Option.getD_some]
            refine wpQuiet_nil ?_
            refine heavyB_want (by rfl) (fun K' hK' => ?_)
            go_simp
            refine hK' _ _ ((Below.refl _ _).setCell (p := ⟨V0.heap.size, 0, none⟩) (by show _ ≤ _; omega) _ |>.setCell (p := ⟨V0.heap.size, 1, none⟩) (by show _ ≤ _; omega) _) ?_
            clear hK' K'
            try simp only [Act.put, List.setIfInBounds_toArray, List.set_cons_zero, List.set_cons_succ]
            rw [wpSchedB]
            simp only [pick, List.map_nil, Array.getD_eq_getD_getElem?, List.getElem?_toArray, List.getElem?_cons_succ, List.getElem?_cons_zero, Option.getD_some]
            refine wpQuiet_nil ?_
            refine heavyB_want (by rfl) (fun K' hK' => ?_)
            go_simp
            refine hK' _ _ ((Below.refl _ _).setCell (p := ⟨V18.heap.size, 0, none⟩) (by show _ ≤ _; omega) _ |>.setCell (p := ⟨V18.heap.size, 1, none⟩) (by show _ ≤ _; omega) _) ?_
            clear hK' K'
            try simp only [Act.put, List.setIfInBounds_toArray, List.set_cons_zero, List.set_cons_succ]
            rw [wpSchedB]
            simp only [List.map_nil]
            refine wpQuiet_nil ?_
            have hF := ((((hC.setCell (p := ⟨V0.heap.size, 0, none⟩) (by show _ ≤ _; omega) (.int .u64 (num X))).setCell (p := ⟨V0.heap.size, 1, none⟩) (by show _ ≤ _; omega) (.int .i64 N)).setCell (p := ⟨V18.heap.size, 0, none⟩) (by show _ ≤ _; omega) (.int .u64 (num Y))).setCell (p := ⟨V18.heap.size, 1, none⟩) (by show _ ≤ _; omega) (.int .i64 N))
            refine ⟨by first | rfl | trivial, V0.heap.size, V18.heap.size, rfl, by simp <;> omega, by simp <;> omega, by omega, by omega, hB0.trans (hF.mono (by omega)), later_lt hF (by simp <;> omega) k0, later_lt hF (by simp <;> omega) k1, later_lt hF (by simp <;> omega) k2, later_lt hF (by simp <;> omega) k3, by go_simp, by go_simp, by go_simp, by go_simp⟩
        · refine heavyB_want (by rfl) (fun K' hK' => ?_)
          go_simp
          refine hK' _ _ ((Below.refl _ _).alloc zB _) ?_
          clear hK' K'
          have hq := al (Below.refl _ V17) (.cells #[.int .u64 0, .int .i64 0] 28)
          have fr0 : (V17.alloc (.cells #[.int .u64 0, .int .i64 0] 28)).cell? ⟨V17.heap.size, 0, none⟩ = some (.int .u64 0) := by go_simp
          have fr1 : (V17.alloc (.cells #[.int .u64 0, .int .i64 0] 28)).cell? ⟨V17.heap.size, 1, none⟩ = some (.int .i64 0) := by go_simp
          have fz0 : (V17.alloc (.cells #[.int .u64 0, .int .i64 0] 28)).frozen? ⟨V17.heap.size, 0, none⟩ = false := by go_simp
          have fz1 : (V17.alloc (.cells #[.int .u64 0, .int .i64 0] 28)).frozen? ⟨V17.heap.size, 1, none⟩ = false := by go_simp
          have fl : V17.heap.size < (V17.alloc (.cells #[.int .u64 0, .int .i64 0] 28)).heap.size := by simp
          obtain ⟨V23, hw2⟩ : ∃ X : World, V17.alloc (.cells #[.int .u64 0, .int .i64 0] 28) = X := ⟨_, rfl⟩
          rw [hw2] at hq fr0 fr1 fz0 fz1 fl
          rw [hw2]
          clear hw2
          replace hC := hC.trans (hq.mono zB)
          have c60 := later hq c60
          have c61 := later hq c61
          have d60 := (hq.frozen l6).trans d60
          have d61 := (hq.frozen l6).trans d61
          have l6n := l6
          have l6 := Nat.lt_of_lt_of_le l6 hq.size
          have c70 := fr0
          have c71 := fr1
          have d70 := fz0
          have d71 := fz1
          have l7 := fl
          have m7 := zB
          have zB := Nat.le_trans zB hq.size
          clear hq fr0 fr1 fz0 fz1 fl
          try simp only [Act.put, List.setIfInBounds_toArray, List.set_cons_zero, List.set_cons_succ]
          rw [wpSchedB]
          simp only [pick, List.map_nil, Array.getD_eq_getD_getElem?, List.getElem?_toArray, List.getElem?_cons_succ, List.getElem?_cons_zero, Option.getD_some]
          refine wpQuiet_nil ?_
          refine heavyB_want (by rfl) (fun K' hK' => ?_)
          go_simp
          refine (add_any x n xl l c _ HN.out (by omega) (yl.later (hB0.trans (hC.mono (by omega))))).mono ?_
          rintro e V24 ⟨rfl, hb⟩
          rw [FX.out, GN.out]
          refine hK' _ _ (hb.mono zB) ?_
          clear hK' K'
          replace hC := hC.trans (hb.mono zB)
          have c60 := later hb c60
          have c61 := later hb c61
          have d60 := (hb.frozen l6).trans d60
          have d61 := (hb.frozen l6).trans d61
          have l6 := Nat.lt_of_lt_of_le l6 hb.size
          have c70 := later hb c70
          have c71 := later hb c71
          have d70 := (hb.frozen l7).trans d70
          have d71 := (hb.frozen l7).trans d71
          have l7 := Nat.lt_of_lt_of_le l7 hb.size
          have zB := Nat.le_trans zB hb.size
          clear hb
          try simp only [Act.put, List.setIfInBounds_toArray, List.set_cons_zero, List.set_cons_succ]
          rw [wpSchedB]
          simp only [pick, List.map_nil, Array.getD_eq_getD_getElem?, List.getElem?_toArray, List.getElem?_cons_succ, List.getElem?_cons_zero, Option.getD_some]
          refine wpQuiet_nil ?_
          refine heavyB_want (by rfl) (fun K' hK' => ?_)
          go_simp
          refine (add_any y n xl l c _ HN.out (by omega) (yl.later (hB0.trans (hC.mono (by omega))))).mono ?_
          rintro e V25 ⟨rfl, hb⟩
          rw [FY.out, GN.out]
          refine hK' _ _ (hb.mono zB) ?_
          clear hK' K'
          replace hC := hC.trans (hb.mono zB)
          have c60 := later hb c60
          have c61 := later hb c61
          have d60 := (hb.frozen l6).trans d60
          have d61 := (hb.frozen l6).trans d61
          have l6 := Nat.lt_of_lt_of_le l6 hb.size
          have c70 := later hb c70
          have c71 := later hb c71
          have d70 := (hb.frozen l7).trans d70
          have d71 := (hb.frozen l7).trans d71
          have l7 := Nat.lt_of_lt_of_le l7 hb.size
          have zB := Nat.le_trans zB hb.size
          clear hb
          try simp only [Act.put, List.setIfInBounds_toArray, List.set_cons_zero, List.set_cons_succ]
          rw [wpSchedB]
          simp only [pick, List.map_nil, Array.getD_eq_getD_getElem?, List.getElem?_toArray, List.getElem?_cons_succ, List.getElem?_cons_zero, Option.getD_some]
          refine wpQuiet_nil ?_
          refine heavyB_want (by rfl) (fun K' hK' => ?_)
          go_simp
          refine hK' _ _ ((Below.refl _ _).setCell (p := ⟨V0.heap.size, 0, none⟩) (by show _ ≤ _; omega) _ |>.setCell (p := ⟨V0.heap.size, 1, none⟩) (by show _ ≤ _; omega) _) ?_
          clear hK' K'
          try simp only [Act.put, List.setIfInBounds_toArray, List.set_cons_zero, List.set_cons_succ]
          rw [wpSchedB]
          simp only [pick, List.map_nil, Array.getD_eq_getD_getElem?, List.getElem?_toArray, List.getElem?_cons_succ, List.getElem?_cons_zero, Option.getD_some]
          refine wpQuiet_nil ?_
          refine heavyB_want (by rfl) (fun K' hK' => ?_)
          go_simp
          refine hK' _ _ ((Below.refl _ _).setCell (p := ⟨V17.heap.size, 0, none⟩) (by show _ ≤ _; omega) _ |>.setCell (p := ⟨V17.heap.size, 1, none⟩) (by show _ ≤ _; omega) _) ?_
          clear hK' K'
          try simp only [Act.put, List.setIfInBounds_toArray, List.set_cons_zero, List.set_cons_succ]
          rw [wpSchedB]
          simp only [List.map_nil]
          refine wpQuiet_nil ?_
          have hF := ((((hC.setCell (p := ⟨V0.heap.size, 0, none⟩) (by show _ ≤ _; omega) (.int .u64 (num X))).setCell (p := ⟨V0.heap.size, 1, none⟩) (by show _ ≤ _; omega) (.int .i64 N)).setCell (p := ⟨V17.heap.size, 0, none⟩) (by show _ ≤ _; omega) (.int .u64 (num Y))).setCell (p := ⟨V17.heap.size, 1, none⟩) (by show _ ≤ _; omega) (.int .i64 N))
          refine ⟨by first | rfl | trivial, V0.heap.size, V17.heap.size, rfl, by simp <;> omega, by simp <;> omega, by omega, by omega, hB0.trans (hF.mono (by omega)), later_lt hF (by simp <;> omega) k0, later_lt hF (by simp <;> omega) k1, later_lt hF (by simp <;> omega) k2, later_lt hF (by simp <;> omega) k3, by go_simp, by go_simp, by go_simp, by go_simp⟩
      · refine heavyB_want (by rfl) (fun K' hK' => ?_)
        go_simp
        refine hK' _ _ ((Below.refl _ _).alloc zB _) ?_
        clear hK' K'
        have hq := al (Below.refl _ V0) (.cells #[.int .u64 0, .int .i64 0] 28)
        have fr0 : (V0.alloc (.cells #[.int .u64 0, .int .i64 0] 28)).cell? ⟨V0.heap.size, 0, none⟩ = some (.int .u64 0) := by go_simp
        have fr1 : (V0.alloc (.cells #[.int .u64 0, .int .i64 0] 28)).cell? ⟨V0.heap.size, 1, none⟩ = some (.int .i64 0) := by go_simp
        have fz0 : (V0.alloc (.cells #[.int .u64 0, .int .i64 0] 28)).frozen? ⟨V0.heap.size, 0, none⟩ = false := by go_simp
        have fz1 : (V0.alloc (.cells #[.int .u64 0, .int .i64 0] 28)).frozen? ⟨V0.heap.size, 1, none⟩ = false := by go_simp
        have fl : V0.heap.size < (V0.alloc (.cells #[.int .u64 0, .int .i64 0] 28)).heap.size := by simp
        obtain ⟨V26, hw2⟩ : ∃ X : World, V0.alloc (.cells #[.int .u64 0, .int .i64 0] 28) = X := ⟨_, rfl⟩
        rw [hw2] at hq fr0 fr1 fz0 fz1 fl
        rw [hw2]
        clear hw2
        replace hC := hC.trans (hq.mono zB)
        have c70 := fr0
        have c71 := fr1
        have d70 := fz0
        have d71 := fz1
        have l7 := fl
        have m7 := zB
        have zB := Nat.le_trans zB hq.size
        clear hq fr0 fr1 fz0 fz1 fl
        try simp only [Act.put, List.setIfInBounds_toArray, List.set_cons_zero, List.set_cons_succ]
        rw [wpSchedB]
        simp only [pick, List.map_nil, Array.getD_eq_getD_getElem?, List.getElem?_toArray, List.getElem?_cons_succ, List.getElem?_cons_zero, Option.getD_some]
        refine wpQuiet_nil ?_
        refine ⟨?_, ?_⟩
        · refine heavyB_want (by rfl) (fun K' hK' => ?_)
          go_simp
          refine (add_any x n xl l c _ HN.out (by omega) (yl.later (hB0.trans (hC.mono (by omega))))).mono ?_
          rintro e V27 ⟨rfl, hb⟩
          rw [FX.out, GN.out]
          refine hK' _ _ (hb.mono zB) ?_
          clear hK' K'
          replace hC := hC.trans (hb.mono zB)
          have c70 := later hb c70
          have c71 := later hb c71
          have d70 := (hb.frozen l7).trans d70
          have d71 := (hb.frozen l7).trans d71
          have l7 := Nat.lt_of_lt_of_le l7 hb.size
          have zB := Nat.le_trans zB hb.size
          clear hb
          try simp only [Act.put, List.setIfInBounds_toArray, List.set_cons_zero, List.set_cons_succ]
          rw [wpSchedB]
          simp only [pick, List.map_nil, Array.getD_eq_getD_getElem?, List.getElem?_toArray, List.getElem?_cons_succ, List.getElem?_cons_zero, Option.getD_some]
          refine wpQuiet_nil ?_
          refine ⟨?_, ?_⟩
          · refine heavyB_want (by rfl) (fun K' hK' => ?_)
            go_simp
            refine (add_any y n xl l c _ HN.out (by omega) (yl.later (hB0.trans (hC.mono (by omega))))).mono ?_
            rintro e V28 ⟨rfl, hb⟩
            rw [FY.out, GN.out]
            refine hK' _ _ (hb.mono zB) ?_
            clear hK' K'
            replace hC := hC.trans (hb.mono zB)
            have c70 := later hb c70
            have c71 := later hb c71
            have d70 := (hb.frozen l7).trans d70
            have d71 := (hb.frozen l7).trans d71
            have l7 := Nat.lt_of_lt_of_le l7 hb.size
            have zB := Nat.le_trans zB hb.size
            clear hb
            try simp only [Act.put, List.setIfInBounds_toArray, List.set_cons_zero, List.set_cons_succ]
            rw [wpSchedB]
            simp only [pick, List.map_nil, Array.getD_eq_getD_getElem?, List.getElem?_toArray, List.getElem?_cons_succ, List.getElem?_cons_zero, Option.getD_some]
            refine wpQuiet_nil ?_
            refine heavyB_want (by rfl) (fun K' hK' => ?_)
            go_simp
            refine hK' _ _ ((Below.refl _ _).alloc zB _) ?_
            clear hK' K'
            have hq := al (Below.refl _ V28) (.cells #[.int .u64 0, .int .i64 0] 28)
            have fr0 : (V28.alloc (.cells #[.int .u64 0, .int .i64 0] 28)).cell? ⟨V28.heap.size, 0, none⟩ = some (.int .u64 0) := by go_simp
            have fr1 : (V28.alloc (.cells #[.int .u64 0, .int .i64 0] 28)).cell? ⟨V28.heap.size, 1, none⟩ = some (.int .i64 0) := by go_simp
            have fz0 : (V28.alloc (.cells #[.int .u64 0, .int .i64 0] 28)).frozen? ⟨V28.heap.size, 0, none⟩ = false := by go_simp
            have fz1 : (V28.alloc (.cells #[.int .u64 0, .int .i64 0] 28)).frozen? ⟨V28.heap.size, 1, none⟩ = false := by go_simp
            have fl : V28.heap.size < (V28.alloc (.cells #[.int .u64 0, .int .i64 0] 28)).heap.size := by simp
            obtain ⟨V29, hw2⟩ : ∃ X : World, V28.alloc (.cells #[.int .u64 0, .int .i64 0] 28) = X := ⟨_, rfl⟩
            rw [hw2] at hq fr0 fr1 fz0 fz1 fl
            rw [hw2]
            clear hw2
            replace hC := hC.trans (hq.mono zB)
            have c70 := later hq c70
            have c71 := later hq c71
            have d70 := (hq.frozen l7).trans d70
            have d71 := (hq.frozen l7).trans d71
            have l7n := l7
            have l7 := Nat.lt_of_lt_of_le l7 hq.size
            have c60 := fr0
            have c61 := fr1
            have d60 := fz0
            have d61 := fz1
            have l6 := fl
            have m6 := zB
            have zB := Nat.le_trans zB hq.size
            clear hq fr0 fr1 fz0 fz1 fl
            try simp only [Act.put, List.setIfInBounds_toArray, List.set_cons_zero, List.set_cons_succ]
            rw [wpSchedB]
            simp only [pick, List.map_nil, Array.getD_eq_getD_getElem?, List.getElem?_toArray, List.getElem?_cons_succ, List.getElem?_cons_zero, Option.getD_some]
            refine wpQuiet_nil ?_
            refine heavyB_want (by rfl) (fun K' hK' => ?_)
            go_simp
            refine hK' _ _ ((Below.refl _ _).setCell (p := ⟨V28.heap.size, 0, none⟩) (by show _ ≤ _; omega) _ |>.setCell (p := ⟨V28.heap.size, 1, none⟩) (by show _ ≤ _; omega) _) ?_
            clear hK' K'
            try simp only [Act.put, List.setIfInBounds_toArray, List.set_cons_zero, List.set_cons_succ]
            rw [wpSchedB]
            simp only [pick, List.map_nil, Array.getD_eq_getD_getElem?, List.getElem?_toArray, List.getElem?_cons_succ, List.getElem?_cons_zero, Option.getD_some]
            refine wpQuiet_nil ?_
            refine heavyB_want (by rfl) (fun K' hK' => ?_)
            go_simp
            refine hK' _ _ ((Below.refl _ _).setCell (p := ⟨V0.heap.size, 0, none⟩) (by show _ ≤ _; omega) _ |>.setCell (p := ⟨V0.heap.size, 1, none⟩) (by show _ ≤ _; omega) _) ?_
            clear hK' K'
            try simp only [Act.put, List.setIfInBounds_toArray, List.set_cons_zero, List.set_cons_succ]
            rw [wpSchedB]
            simp only [List.map_nil]
            refine wpQuiet_nil ?_
            have hF := ((((hC.setCell (p := ⟨V28.heap.size, 0, none⟩) (by show _ ≤ _; omega) (.int .u64 (num X))).setCell (p := ⟨V28.heap.size, 1, none⟩) (by show _ ≤ _; omega) (.int .i64 N)).setCell (p := ⟨V0.heap.size, 0, none⟩) (by show _ ≤ _; omega) (.int .u64 (num Y))).setCell (p := ⟨V0.heap.size, 1, none⟩) (by show _ ≤ _; omega) (.int .i64 N))
            refine ⟨by first | rfl | trivial, V28.heap.size, V0.heap.size, rfl, by simp <;> omega, by simp <;> omega, by omega, by omega, hB0.trans (hF.mono (by omega)), later_lt hF (by simp <;> omega) k0, later_lt hF (by simp <;> omega) k1, later_lt hF (by simp <;> omega) k2, later_lt hF (by simp <;> omega) k3, by go_simp, by go_simp, by go_simp, by go_simp⟩
          · refine heavyB_want (by rfl) (fun K' hK' => ?_)
            go_simp
            refine hK' _ _ ((Below.refl _ _).alloc zB _) ?_
            clear hK' K'
            have hq := al (Below.refl _ V27) (.cells #[.int .u64 0, .int .i64 0] 28)
            have fr0 : (V27.alloc (.cells #[.int .u64 0, .int .i64 0] 28)).cell? ⟨V27.heap.size, 0, none⟩ = some (.int .u64 0) := by go_simp
            have fr1 : (V27.alloc (.cells #[.int .u64 0, .int .i64 0] 28)).cell? ⟨V27.heap.size, 1, none⟩ = some (.int .i64 0) := by go_simp
            have fz0 : (V27.alloc (.cells #[.int .u64 0, .int .i64 0] 28)).frozen? ⟨V27.heap.size, 0, none⟩ = false := by go_simp
            have fz1 : (V27.alloc (.cells #[.int .u64 0, .int .i64 0] 28)).frozen? ⟨V27.heap.size, 1, none⟩ = false := by go_simp
            have fl : V27.heap.size < (V27.alloc (.cells #[.int .u64 0, .int .i64 0] 28)).heap.size := by simp
            obtain ⟨V30, hw2⟩ : ∃ X : World, V27.alloc (.cells #[.int .u64 0, .int .i64 0] 28) = X := ⟨_, rfl⟩
            rw [hw2] at hq fr0 fr1 fz0 fz1 fl
            rw [hw2]
            clear hw2
            replace hC := hC.trans (hq.mono zB)
            have c70 := later hq c70
            have c71 := later hq c71
            have d70 := (hq.frozen l7).trans d70
            have d71 := (hq.frozen l7).trans d71
            have l7n := l7
            have l7 := Nat.lt_of_lt_of_le l7 hq.size
            have c60 := fr0
            have c61 := fr1
            have d60 := fz0
            have d61 := fz1
            have l6 := fl
            have m6 := zB
            have zB := Nat.le_trans zB hq.size
            clear hq fr0 fr1 fz0 fz1 fl
            try simp only [Act.put, List.setIfInBounds_toArray, List.set_cons_zero, List.set_cons_succ]
            rw [wpSchedB]
            simp only [pick, List.map_nil, Array.getD_eq_getD_getElem?, List.getElem?_toArray, List.getElem?_cons_succ, List.getElem?_cons_zero, Option.getD_some]
            refine wpQuiet_nil ?_
            refine heavyB_want (by rfl) (fun K' hK' => ?_)
            go_simp
            refine (add_any y n xl l c _ HN.out (by omega) (yl.later (hB0.trans (hC.mono (by omega))))).mono ?_
            rintro e V31 ⟨rfl, hb⟩
            rw [FY.out, GN.out]
            refine hK' _ _ (hb.mono zB) ?_
            clear hK' K'
            replace hC := hC.trans (hb.mono zB)
            have c60 := later hb c60
            have c61 := later hb c61
            have d60 := (hb.frozen l6).trans d60
            have d61 := (hb.frozen l6).trans d61
            have l6 := Nat.lt_of_lt_of_le l6 hb.size
            have c70 := later hb c70
            have c71 := later hb c71
            have d70 := (hb.frozen l7).trans d70
            have d71 := (hb.frozen l7).trans d71
            have l7 := Nat.lt_of_lt_of_le l7 hb.size
            have zB := Nat.le_trans zB hb.size
            clear hb
            try simp only [Act.put, List.setIfInBounds_toArray, List.set_cons_zero, List.set_cons_succ]
            rw [wpSchedB]
            simp only [pick, List.map_nil, Array.getD_eq_getD_getElem?, List.getElem?_toArray, List.getElem?_cons_succ, List.getElem?_cons_zero, Option.getD_some]
            refine wpQuiet_nil ?_
            refine heavyB_want (by rfl) (fun K' hK' => ?_)
            go_simp
            refine hK' _ _ ((Below.refl _ _).setCell (p := ⟨V27.heap.size, 0, none⟩) (by show _ ≤ _; omega) _ |>.setCell (p := ⟨V27.heap.size, 1, none⟩) (by show _ ≤ _; omega) _) ?_
            clear hK' K'
            try simp only [Act.put, List.setIfInBounds_toArray, List.set_cons_zero, List.set_cons_succ]
            rw [wpSchedB]
            simp only [pick, List.map_nil, Array.getD_eq_getD_getElem?, List.getElem?_toArray, List.getElem?_cons_succ, List.getElem?_cons_zero, Option.getD_some]
            refine wpQuiet_nil ?_
            refine heavyB_want (by rfl) (fun K' hK' => ?_)
            go_simp
            refine hK' _ _ ((Below.refl _ _).setCell (p := ⟨V0.heap.size, 0, none⟩) (by show _ ≤ _; omega) _ |>.setCell (p := ⟨V0.heap.size, 1, none⟩) (by show _ ≤ _; omega) _) ?_
            clear hK' K'
            try simp only [Act.put, List.setIfInBounds_toArray, List.set_cons_zero, List.set_cons_succ]
            rw [wpSchedB]
            simp only [List.map_nil]
            refine wpQuiet_nil ?_
            have hF := ((((hC.setCell (p := ⟨V27.heap.size, 0, none⟩) (by show _ ≤ _; omega) (.int .u64 (num X))).setCell (p := ⟨V27.heap.size, 1, none⟩) (by show _ ≤ _; omega) (.int .i64 N)).setCell (p := ⟨V0.heap.size, 0, none⟩) (by show _ ≤ _; omega) (.int .u64 (num Y))).setCell (p := ⟨V0.heap.size, 1, none⟩) (by show _ ≤ _; omega) (.int .i64 N))
            refine ⟨by first | rfl | trivial, V27.heap.size, V0.heap.size, rfl, by simp <;> omega, by simp <;> omega, by omega, by omega, hB0.trans (hF.mono (by omega)), later_lt hF (by simp <;> omega) k0, later_lt hF (by simp <;> omega) k1, later_lt hF (by simp <;> omega) k2, later_lt hF (by simp <;> omega) k3, by go_simp, by go_simp, by go_simp, by go_simp⟩
        · refine heavyB_want (by rfl) (fun K' hK' => ?_)
          go_simp
          refine hK' _ _ ((Below.refl _ _).alloc zB _) ?_
          clear hK' K'
          have hq := al (Below.refl _ V26) (.cells #[.int .u64 0, .int .i64 0] 28)
          have fr0 : (V26.alloc (.cells #[.int .u64 0, .int .i64 0] 28)).cell? ⟨V26.heap.size, 0, none⟩ = some (.int .u64 0) := by go_simp
          have fr1 : (V26.alloc (.cells #[.int .u64 0, .int .i64 0] 28)).cell? ⟨V26.heap.size, 1, none⟩ = some (.int .i64 0) := by go_simp
          have fz0 : (V26.alloc (.cells #[.int .u64 0, .int .i64 0] 28)).frozen? ⟨V26.heap.size, 0, none⟩ = false := by go_simp
          have fz1 : (V26.alloc (.cells #[.int .u64 0, .int .i64 0] 28)).frozen? ⟨V26.heap.size, 1, none⟩ = false := by go_simp
          have fl : V26.heap.size < (V26.alloc (.cells #[.int .u64 0, .int .i64 0] 28)).heap.size := by simp
          obtain ⟨V32, hw2⟩ : ∃ X : World, V26.alloc (.cells #[.int .u64 0, .int .i64 0] 28) = X := ⟨_, rfl⟩
          rw [hw2] at hq fr0 fr1 fz0 fz1 fl
          rw [hw2]
          clear hw2
          replace hC := hC.trans (hq.mono zB)
          have c70 := later hq c70
          have c71 := later hq c71
          have d70 := (hq.frozen l7).trans d70
          have d71 := (hq.frozen l7).trans d71
          have l7n := l7
          have l7 := Nat.lt_of_lt_of_le l7 hq.size
          have c60 := fr0
          have c61 := fr1
          have d60 := fz0
          have d61 := fz1
          have l6 := fl
          have m6 := zB
          have zB := Nat.le_trans zB hq.size
          clear hq fr0 fr1 fz0 fz1 fl
          try simp only [Act.put, List.setIfInBounds_toArray, List.set_cons_zero, List.set_cons_succ]
          rw [wpSchedB]
          simp only [pick, List.map_nil, Array.getD_eq_getD_getElem?, List.getElem?_toArray, List.getElem?_cons_succ, List.getElem?_cons_zero, Option.getD_some]
          refine wpQuiet_nil ?_
          refine heavyB_want (by rfl) (fun K' hK' => ?_)
          go_simp
          refine (add_any x n xl l c _ HN.out (by omega) (yl.later (hB0.trans (hC.mono (by omega))))).mono ?_
          rintro e V33 ⟨rfl, hb⟩
          rw [FX.out, GN.out]
          refine hK' _ _ (hb.mono zB) ?_
          clear hK' K'
          replace hC := hC.trans (hb.mono zB)
          have c60 := later hb c60
          have c61 := later hb c61
          have d60 := (hb.frozen l6).trans d60
          have d61 := (hb.frozen l6).trans d61
          have l6 := Nat.lt_of_lt_of_le l6 hb.size
          have c70 := later hb c70
          have c71 := later hb c71
          have d70 := (hb.frozen l7).trans d70
          have d71 := (hb.frozen l7).trans d71
          have l7 := Nat.lt_of_lt_of_le l7 hb.size
          have zB := Nat.le_trans zB hb.size
          clear hb
          try simp only [Act.put, List.setIfInBounds_toArray, List.set_cons_zero, List.set_cons_succ]
          rw [wpSchedB]
          simp only [pick, List.map_nil, Array.getD_eq_getD_getElem?, List.getElem?_toArray, List.getElem?_cons_succ, List.getElem?_cons_zero, Option.getD_some]
          refine wpQuiet_nil ?_
          refine heavyB_want (by rfl) (fun K' hK' => ?_)
          go_simp
          refine (add_any y n xl l c _ HN.out (by omega) (yl.later (hB0.trans (hC.mono (by omega))))).mono ?_
          rintro e V34 ⟨rfl, hb⟩
          rw [FY.out, GN.out]
          refine hK' _ _ (hb.mono zB) ?_
          clear hK' K'
          replace hC := hC.trans (hb.mono zB)
          have c60 := later hb c60
          have c61 := later hb c61
          have d60 := (hb.frozen l6).trans d60
          have d61 := (hb.frozen l6).trans d61
          have l6 := Nat.lt_of_lt_of_le l6 hb.size
          have c70 := later hb c70
          have c71 := later hb c71
          have d70 := (hb.frozen l7).trans d70
          have d71 := (hb.frozen l7).trans d71
          have l7 := Nat.lt_of_lt_of_le l7 hb.size
          have zB := Nat.le_trans zB hb.size
          clear hb
          try simp only [Act.put, List.setIfInBounds_toArray, List.set_cons_zero, List.set_cons_succ]
          rw [wpSchedB]
          simp only [pick, List.map_nil, Array.getD_eq_getD_getElem?, List.getElem?_toArray, List.getElem?_cons_succ, List.getElem?_cons_zero, Option.getD_some]
          refine wpQuiet_nil ?_
          refine heavyB_want (by rfl) (fun K' hK' => ?_)
          go_simp
          refine hK' _ _ ((Below.refl _ _).setCell (p := ⟨V26.heap.size, 0, none⟩) (by show _ ≤ _; omega) _ |>.setCell (p := ⟨V26.heap.size, 1, none⟩) (by show _ ≤ _; omega) _) ?_
          clear hK' K'
          try simp only [Act.put, List.setIfInBounds_toArray, List.set_cons_zero, List.set_cons_succ]
          rw [wpSchedB]
          simp only [pick, List.map_nil, Array.getD_eq_getD_getElem?, List.getElem?_toArray, List.getElem?_cons_succ, List.getElem?_cons_zero, Option.getD_some]
          refine wpQuiet_nil ?_
          refine heavyB_want (by rfl) (fun K' hK' => ?_)
          go_simp
          refine hK' _ _ ((Below.refl _ _).setCell (p := ⟨V0.heap.size, 0, none⟩) (by show _ ≤ _; omega) _ |>.setCell (p := ⟨V0.heap.size, 1, none⟩) (by show _ ≤ _; omega) _) ?_
          clear hK' K'
          try simp only [Act.put, List.setIfInBounds_toArray, List.set_cons_zero, List.set_cons_succ]
          rw [wpSchedB]
          simp only [List.map_nil]
          refine wpQuiet_nil ?_
          have hF := ((((hC.setCell (p := ⟨V26.heap.size, 0, none⟩) (by show _ ≤ _; omega) (.int .u64 (num X))).setCell (p := ⟨V26.heap.size, 1, none⟩) (by show _ ≤ _; omega) (.int .i64 N)).setCell (p := ⟨V0.heap.size, 0, none⟩) (by show _ ≤ _; omega) (.int .u64 (num Y))).setCell (p := ⟨V0.heap.size, 1, none⟩) (by show _ ≤ _; omega) (.int .i64 N))
          refine ⟨by first | rfl | trivial, V26.heap.size, V0.heap.size, rfl, by simp <;> omega, by simp <;> omega, by omega, by omega, hB0.trans (hF.mono (by omega)), later_lt hF (by simp <;> omega) k0, later_lt hF (by simp <;> omega) k1, later_lt hF (by simp <;> omega) k2, later_lt hF (by simp <;> omega) k3, by go_simp, by go_simp, by go_simp, by go_simp⟩
    · rintro a' V ⟨b1, b2, rfl, l1, l2, e1, e2, hB, k0, k1, k2, k3, p0, p1, q0, q1⟩
      dsimp only
      have hz0 : w.heap.size < V.heap.size := World.block_lt_of_cell? _ _ k0
      have hz1 : w.heap.size + 1 < V.heap.size := World.block_lt_of_cell? _ _ k2
      cases q with
      | true =>
        have E1 := HE1.out
        have E2 := HE2.out
        have E3 := HE3.out
        have E0 := HE0.out
        go_wp2_with fail
        refine wp_region_sched (fun W => W.cell? ⟨w.heap.size, 0, none⟩ = some (.int .u64 (num x)) ∧ W.cell? ⟨w.heap.size, 1, none⟩ = some (.int .i64 n) ∧ W.cell? ⟨w.heap.size + 1, 0, none⟩ = some (.int .u64 (num y)) ∧ W.cell? ⟨w.heap.size + 1, 1, none⟩ = some (.int .i64 n) ∧ W.cell? ⟨b1, 0, none⟩ = some (.int .u64 (num X)) ∧ W.cell? ⟨b1, 1, none⟩ = some (.int .i64 N) ∧ W.cell? ⟨b2, 0, none⟩ = some (.int .u64 (num Y)) ∧ W.cell? ⟨b2, 1, none⟩ = some (.int .i64 N) ∧ w.heap.size < W.heap.size ∧ w.heap.size + 1 < W.heap.size ∧ Below w.heap.size w W) (.one [0, 1, 2, 3, 4, 5, 6, 7, 8, 10, 13, 14, 15] 9 (.one [] 11 (.one [12, 16, 17, 18, 19, 21, 24, 25, 26] 20 (.one [] 22 (.done [23, 27, 28]))))) (by kernel_rfl) (by kernel_rfl) (fun _ _ _ _ _ h => h) ⟨(by go_simp), (by go_simp), (by go_simp), (by go_simp), (by go_simp), (by go_simp), (by go_simp), (by go_simp), (by simp <;> omega), (by simp <;> omega), hB.drew⟩ ?_
        clear hB k0 k1 k2 k3 p0 p1 q0 q1 hz0 hz1
        rintro U ⟨g1_0, g1_1, g1_2, g1_3, g1_4, g1_5, g1_6, g1_7, z1_0, z1_1, hB⟩
        rw [wpSched]
        simp only [pick, List.map_cons, List.map_nil, Array.getD_eq_getD_getElem?, List.getElem?_toArray, List.getElem?_cons_succ, List.getElem?_cons_zero, Option.getD_some]
        have kg1_0 := plusW_cell g1_0
        have kg1_1 := plusW_cell g1_1
        have kg1_2 := plusW_cell g1_2
        have kg1_3 := plusW_cell g1_3
        have kg1_4 := plusW_cell g1_4
        have kg1_5 := plusW_cell g1_5
        have kg1_6 := plusW_cell g1_6
        have kg1_7 := plusW_cell g1_7
        repeat (first | go_big_quiet_step (fail) | quiet_step (fail))
        refine wpQuiet_nil ?_
        clear kg1_0 kg1_1 kg1_2 kg1_3 kg1_4 kg1_5 kg1_6 kg1_7
        refine heavy_want (by rfl) (fun K' hK' => ?_)
        go_simp
        refine (fin_any _ _ _).mono ?_
        rintro e U1 ⟨rfl, hb⟩
        refine hK' _ _ hb ?_
        clear hK' K'
        have hq := thru (Below.refl _ U) hb
        clear hb
        have g2_0 := later hq g1_0
        have g2_1 := later hq g1_1
        have g2_2 := later hq g1_2
        have g2_3 := later hq g1_3
        have g2_4 := later hq g1_4
        have g2_5 := later hq g1_5
        have g2_6 := later hq g1_6
        have g2_7 := later hq g1_7
        have z2_0 : w.heap.size < U1.heap.size := Nat.lt_of_lt_of_le z1_0 hq.size
        have z2_1 : w.heap.size + 1 < U1.heap.size := Nat.lt_of_lt_of_le z1_1 hq.size
        replace hB := thru hB hq
        clear hq g1_0 g1_1 g1_2 g1_3 g1_4 g1_5 g1_6 g1_7 z1_0 z1_1
        try simp only [Act.put, List.setIfInBounds_toArray, List.set_cons_zero, List.set_cons_succ]
        rw [wpSched]
        simp only [pick, List.map_nil, Array.getD_eq_getD_getElem?, List.getElem?_toArray, List.getElem?_cons_succ, List.getElem?_cons_zero, Option.getD_some]
        refine wpQuiet_nil ?_
        refine heavy_want (by rfl) (fun K' hK' => ?_)
        go_simp
        refine (fin_any _ _ _).mono ?_
        rintro e U2 ⟨rfl, hb⟩
        refine hK' _ _ hb ?_
        clear hK' K'
        have hq := thru (Below.refl _ U1) hb
        clear hb
        have g3_0 := later hq g2_0
        have g3_1 := later hq g2_1
        have g3_2 := later hq g2_2
        have g3_3 := later hq g2_3
        have g3_4 := later hq g2_4
        have g3_5 := later hq g2_5
        have g3_6 := later hq g2_6
        have g3_7 := later hq g2_7
        have z3_0 : w.heap.size < U2.heap.size := Nat.lt_of_lt_of_le z2_0 hq.size
        have z3_1 : w.heap.size + 1 < U2.heap.size := Nat.lt_of_lt_of_le z2_1 hq.size
        replace hB := thru hB hq
        clear hq g2_0 g2_1 g2_2 g2_3 g2_4 g2_5 g2_6 g2_7 z2_0 z2_1
        try simp only [Act.put, List.setIfInBounds_toArray, List.set_cons_zero, List.set_cons_succ]
        rw [wpSched]
        simp only [pick, List.map_cons, List.map_nil, Array.getD_eq_getD_getElem?, List.getElem?_toArray, List.getElem?_cons_succ, List.getElem?_cons_zero, Option.getD_some]
        have kg3_0 := plusW_cell g3_0
        have kg3_1 := plusW_cell g3_1
        have kg3_2 := plusW_cell g3_2
        have kg3_3 := plusW_cell g3_3
        have kg3_4 := plusW_cell g3_4
        have kg3_5 := plusW_cell g3_5
        have kg3_6 := plusW_cell g3_6
        have kg3_7 := plusW_cell g3_7
        repeat (first | go_big_quiet_step (fail) | quiet_step (fail))
        refine wpQuiet_nil ?_
        clear kg3_0 kg3_1 kg3_2 kg3_3 kg3_4 kg3_5 kg3_6 kg3_7
        refine heavy_want (by rfl) (fun K' hK' => ?_)
        go_simp
        refine (fin_any _ _ _).mono ?_
        rintro e U3 ⟨rfl, hb⟩
        refine hK' _ _ hb ?_
        clear hK' K'
        have hq := thru (Below.refl _ U2) hb
        clear hb
        have g4_0 := later hq g3_0
        have g4_1 := later hq g3_1
        have g4_2 := later hq g3_2
        have g4_3 := later hq g3_3
        have g4_4 := later hq g3_4
        have g4_5 := later hq g3_5
        have g4_6 := later hq g3_6
        have g4_7 := later hq g3_7
        have z4_0 : w.heap.size < U3.heap.size := Nat.lt_of_lt_of_le z3_0 hq.size
        have z4_1 : w.heap.size + 1 < U3.heap.size := Nat.lt_of_lt_of_le z3_1 hq.size
        replace hB := thru hB hq
        clear hq g3_0 g3_1 g3_2 g3_3 g3_4 g3_5 g3_6 g3_7 z3_0 z3_1
        try simp only [Act.put, List.setIfInBounds_toArray, List.set_cons_zero, List.set_cons_succ]
        rw [wpSched]
        simp only [pick, List.map_nil, Array.getD_eq_getD_getElem?, List.getElem?_toArray, List.getElem?_cons_succ, List.getElem?_cons_zero, Option.getD_some]
        refine wpQuiet_nil ?_
        refine heavy_want (by rfl) (fun K' hK' => ?_)
        go_simp
        refine (fin_any _ _ _).mono ?_
        rintro e U4 ⟨rfl, hb⟩
        refine hK' _ _ hb ?_
        clear hK' K'
        have hq := thru (Below.refl _ U3) hb
        clear hb
        have g5_0 := later hq g4_0
        have g5_1 := later hq g4_1
        have g5_2 := later hq g4_2
        have g5_3 := later hq g4_3
        have g5_4 := later hq g4_4
        have g5_5 := later hq g4_5
        have g5_6 := later hq g4_6
        have g5_7 := later hq g4_7
        have z5_0 : w.heap.size < U4.heap.size := Nat.lt_of_lt_of_le z4_0 hq.size
        have z5_1 : w.heap.size + 1 < U4.heap.size := Nat.lt_of_lt_of_le z4_1 hq.size
        replace hB := thru hB hq
        clear hq g4_0 g4_1 g4_2 g4_3 g4_4 g4_5 g4_6 g4_7 z4_0 z4_1
        try simp only [Act.put, List.setIfInBounds_toArray, List.set_cons_zero, List.set_cons_succ]
        rw [wpSched]
        simp only [pick, List.map_cons, List.map_nil, Array.getD_eq_getD_getElem?, List.getElem?_toArray, List.getElem?_cons_succ, List.getElem?_cons_zero, Option.getD_some]
        repeat (first | go_big_quiet_step (fail) | quiet_step (fail))
        refine wpQuiet_nil ?_
        cases q2 with
        | true =>
          have e4 := HE4.out
          have e5 := HE5.out
          go_wp2_with fail
          refine wp_region_sched (fun W => W.cell? ⟨w.heap.size, 0, none⟩ = some (.int .u64 (num x)) ∧ W.cell? ⟨w.heap.size, 1, none⟩ = some (.int .i64 n) ∧ w.heap.size < W.heap.size ∧ w.heap.size + 1 < W.heap.size ∧ Below w.heap.size w W) (.two [0, 1, 4, 5, 9, 10, 11] 2 (.two [] 3 (.one [] 6 (.one [] 7 (.one [8, 12, 13] 14 (.done [15, 16])))) 6 (.one [] 3 (.one [] 7 (.one [8, 12, 13] 14 (.done [15, 16]))))) 6 (.one [] 2 (.one [] 3 (.one [] 7 (.one [8, 12, 13] 14 (.done [15, 16])))))) (by kernel_rfl) (by kernel_rfl) (fun _ _ _ _ _ h => h) ⟨(by go_simp), (by go_simp), (by simp <;> omega), (by simp <;> omega), hB.drew⟩ ?_
          clear hB g5_0 g5_1 z5_0 z5_1
          rintro T ⟨g6_0, g6_1, z6_0, z6_1, hB⟩
          rw [wpSched]
          simp only [pick, List.map_cons, List.map_nil, Array.getD_eq_getD_getElem?, List.getElem?_toArray, List.getElem?_cons_succ, List.getElem?_cons_zero, Option.getD_some]
          have kg6_0 := plusW_cell g6_0
          have kg6_1 := plusW_cell g6_1
          repeat (first | go_big_quiet_step (fail) | quiet_step (fail))
          refine wpQuiet_nil ?_
          clear kg6_0 kg6_1
          refine ⟨?_, ?_⟩
          · refine heavy_want (by rfl) (fun K' hK' => ?_)
            go_simp
            refine hK' _ _ (al (Below.refl _ _) _) ?_
            clear hK' K'
            have hq := al (Below.refl _ T) (.cells #[.int .u8 (u.toNat : Int)] 5)
            have fr0 : (T.alloc (.cells #[.int .u8 (u.toNat : Int)] 5)).cell? ⟨T.heap.size, 0, none⟩ = some (.int .u8 (u.toNat : Int)) := by go_simp
            have frz : T.heap.size < (T.alloc (.cells #[.int .u8 (u.toNat : Int)] 5)).heap.size := by simp
            have hbtu := bts_one T u 5 (0, 0)
            obtain ⟨T_2, hw2⟩ : ∃ X : World, T.alloc (.cells #[.int .u8 (u.toNat : Int)] 5) = X := ⟨_, rfl⟩
            rw [hw2] at hq frz fr0 hbtu
            rw [hw2]
            clear hw2
            have g7_0 := later hq g6_0
            have g7_1 := later hq g6_1
            have z7_0 : w.heap.size < T_2.heap.size := Nat.lt_of_lt_of_le z6_0 hq.size
            have z7_1 : w.heap.size + 1 < T_2.heap.size := Nat.lt_of_lt_of_le z6_1 hq.size
            replace hB := thru hB hq
            clear hq g6_0 g6_1 z6_0 z6_1
            have n7_0 := fr0
            have m7 := frz
            clear frz fr0
            try simp only [Act.put, List.setIfInBounds_toArray, List.set_cons_zero, List.set_cons_succ]
            rw [wpSched]
            simp only [pick, List.map_nil, Array.getD_eq_getD_getElem?, List.getElem?_toArray, List.getElem?_cons_succ, List.getElem?_cons_zero, Option.getD_some]
            refine wpQuiet_nil ?_
            refine ⟨?_, ?_⟩
            · refine heavy_want (by rfl) (fun K' hK' => ?_)
              go_simp
              refine (add_any x n _ [u] 1 _ HN.out (by simp) hbtu).mono ?_
              rintro e T2_3 ⟨rfl, hb⟩
              refine hK' _ _ hb ?_
              clear hK' K'
              have hq := thru (Below.refl _ T_2) hb
              clear hb
              have g8_0 := later hq g7_0
              have g8_1 := later hq g7_1
              have g8_2 := later hq n7_0
              have z8_0 : w.heap.size < T2_3.heap.size := Nat.lt_of_lt_of_le z7_0 hq.size
              have z8_1 : w.heap.size + 1 < T2_3.heap.size := Nat.lt_of_lt_of_le z7_1 hq.size
              have z8_2 : T.heap.size < T2_3.heap.size := Nat.lt_of_lt_of_le m7 hq.size
              replace hB := thru hB hq
              replace hbtu := hbtu.later hq
              clear hq g7_0 g7_1 n7_0 z7_0 z7_1 m7
              try simp only [Act.put, List.setIfInBounds_toArray, List.set_cons_zero, List.set_cons_succ]
              rw [wpSched]
              simp only [pick, List.map_nil, Array.getD_eq_getD_getElem?, List.getElem?_toArray, List.getElem?_cons_succ, List.getElem?_cons_zero, Option.getD_some]
              refine wpQuiet_nil ?_
              refine heavy_want (by rfl) (fun K' hK' => ?_)
              go_simp
              refine hK' _ _ (al (Below.refl _ _) _) ?_
              clear hK' K'
              have hq := al (Below.refl _ T2_3) (.cells #[.int .u8 (v.toNat : Int)] 5)
              have fr0 : (T2_3.alloc (.cells #[.int .u8 (v.toNat : Int)] 5)).cell? ⟨T2_3.heap.size, 0, none⟩ = some (.int .u8 (v.toNat : Int)) := by go_simp
              have frz : T2_3.heap.size < (T2_3.alloc (.cells #[.int .u8 (v.toNat : Int)] 5)).heap.size := by simp
              have hbtv := bts_one T2_3 v 5 (0, 0)
              obtain ⟨T23_6, hw2⟩ : ∃ X : World, T2_3.alloc (.cells #[.int .u8 (v.toNat : Int)] 5) = X := ⟨_, rfl⟩
              rw [hw2] at hq frz fr0 hbtv
              rw [hw2]
              clear hw2
              have g9_0 := later hq g8_0
              have g9_1 := later hq g8_1
              have g9_2 := later hq g8_2
              have z9_0 : w.heap.size < T23_6.heap.size := Nat.lt_of_lt_of_le z8_0 hq.size
              have z9_1 : w.heap.size + 1 < T23_6.heap.size := Nat.lt_of_lt_of_le z8_1 hq.size
              have z9_2 : T.heap.size < T23_6.heap.size := Nat.lt_of_lt_of_le z8_2 hq.size
              replace hB := thru hB hq
              replace hbtu := hbtu.later hq
              clear hq g8_0 g8_1 g8_2 z8_0 z8_1 z8_2
              have n9_0 := fr0
              have m9 := frz
              clear frz fr0
              try simp only [Act.put, List.setIfInBounds_toArray, List.set_cons_zero, List.set_cons_succ]
              rw [wpSched]
              simp only [pick, List.map_nil, Array.getD_eq_getD_getElem?, List.getElem?_toArray, List.getElem?_cons_succ, List.getElem?_cons_zero, Option.getD_some]
              refine wpQuiet_nil ?_
              refine heavy_want (by rfl) (fun K' hK' => ?_)
              go_simp
              refine (add_any x n _ [v] 1 _ HN.out (by simp) hbtv).mono ?_
              rintro e T236_7 ⟨rfl, hb⟩
              refine hK' _ _ hb ?_
              clear hK' K'
              have hq := thru (Below.refl _ T23_6) hb
              clear hb
              have g10_0 := later hq g9_0
              have g10_1 := later hq g9_1
              have g10_2 := later hq g9_2
              have g10_3 := later hq n9_0
              have z10_0 : w.heap.size < T236_7.heap.size := Nat.lt_of_lt_of_le z9_0 hq.size
              have z10_1 : w.heap.size + 1 < T236_7.heap.size := Nat.lt_of_lt_of_le z9_1 hq.size
              have z10_2 : T.heap.size < T236_7.heap.size := Nat.lt_of_lt_of_le z9_2 hq.size
              have z10_3 : T2_3.heap.size < T236_7.heap.size := Nat.lt_of_lt_of_le m9 hq.size
              replace hB := thru hB hq
              replace hbtu := hbtu.later hq
              replace hbtv := hbtv.later hq
              clear hq g9_0 g9_1 g9_2 n9_0 z9_0 z9_1 z9_2 m9
              try simp only [Act.put, List.setIfInBounds_toArray, List.set_cons_zero, List.set_cons_succ]
              rw [wpSched]
              simp only [pick, List.map_cons, List.map_nil, Array.getD_eq_getD_getElem?, List.getElem?_toArray, List.getElem?_cons_succ, List.getElem?_cons_zero, Option.getD_some]
              repeat (first | go_big_quiet_step (fail) | quiet_step (fail))
              refine wpQuiet_nil ?_
              refine heavy_want (by rfl) (fun K' hK' => ?_)
              go_simp
              refine (awake_any _).mono ?_
              rintro e T2367_14 ⟨rfl, hb⟩
              refine hK' _ _ hb ?_
              clear hK' K'
              have hq := thru (Below.refl _ T236_7) hb
              clear hb
              have g11_0 := later hq g10_0
              have g11_1 := later hq g10_1
              have g11_2 := later hq g10_2
              have g11_3 := later hq g10_3
              have z11_0 : w.heap.size < T2367_14.heap.size := Nat.lt_of_lt_of_le z10_0 hq.size
              have z11_1 : w.heap.size + 1 < T2367_14.heap.size := Nat.lt_of_lt_of_le z10_1 hq.size
              have z11_2 : T.heap.size < T2367_14.heap.size := Nat.lt_of_lt_of_le z10_2 hq.size
              have z11_3 : T2_3.heap.size < T2367_14.heap.size := Nat.lt_of_lt_of_le z10_3 hq.size
              replace hB := thru hB hq
              replace hbtu := hbtu.later hq
              replace hbtv := hbtv.later hq
              clear hq g10_0 g10_1 g10_2 g10_3 z10_0 z10_1 z10_2 z10_3
              try simp only [Act.put, List.setIfInBounds_toArray, List.set_cons_zero, List.set_cons_succ]
              rw [wpSched]
              simp only [pick, List.map_cons, List.map_nil, Array.getD_eq_getD_getElem?, List.getElem?_toArray, List.getElem?_cons_succ, List.getElem?_cons_zero, Option.getD_some]
              repeat (first | go_big_quiet_step (fail) | quiet_step (fail))
              refine wpQuiet_nil ?_
              go_wp2_with fail
              go_ret
              exact ⟨rfl, hB⟩
            · refine heavy_want (by rfl) (fun K' hK' => ?_)
              go_simp
              refine hK' _ _ (al (Below.refl _ _) _) ?_
              clear hK' K'
              have hq := al (Below.refl _ T_2) (.cells #[.int .u8 (v.toNat : Int)] 5)
              have fr0 : (T_2.alloc (.cells #[.int .u8 (v.toNat : Int)] 5)).cell? ⟨T_2.heap.size, 0, none⟩ = some (.int .u8 (v.toNat : Int)) := by go_simp
              have frz : T_2.heap.size < (T_2.alloc (.cells #[.int .u8 (v.toNat : Int)] 5)).heap.size := by simp
              have hbtv := bts_one T_2 v 5 (0, 0)
              obtain ⟨T2_6, hw2⟩ : ∃ X : World, T_2.alloc (.cells #[.int .u8 (v.toNat : Int)] 5) = X := ⟨_, rfl⟩
              rw [hw2] at hq frz fr0 hbtv
              rw [hw2]
              clear hw2
              have g8_0 := later hq g7_0
              have g8_1 := later hq g7_1
              have g8_2 := later hq n7_0
              have z8_0 : w.heap.size < T2_6.heap.size := Nat.lt_of_lt_of_le z7_0 hq.size
              have z8_1 : w.heap.size + 1 < T2_6.heap.size := Nat.lt_of_lt_of_le z7_1 hq.size
              have z8_2 : T.heap.size < T2_6.heap.size := Nat.lt_of_lt_of_le m7 hq.size
              replace hB := thru hB hq
              replace hbtu := hbtu.later hq
              clear hq g7_0 g7_1 n7_0 z7_0 z7_1 m7
              have n8_0 := fr0
              have m8 := frz
              clear frz fr0
              try simp only [Act.put, List.setIfInBounds_toArray, List.set_cons_zero, List.set_cons_succ]
              rw [wpSched]
              simp only [pick, List.map_nil, Array.getD_eq_getD_getElem?, List.getElem?_toArray, List.getElem?_cons_succ, List.getElem?_cons_zero, Option.getD_some]
              refine wpQuiet_nil ?_
              refine heavy_want (by rfl) (fun K' hK' => ?_)
              go_simp
              refine (add_any x n _ [u] 1 _ HN.out (by simp) hbtu).mono ?_
              rintro e T26_3 ⟨rfl, hb⟩
              refine hK' _ _ hb ?_
              clear hK' K'
              have hq := thru (Below.refl _ T2_6) hb
              clear hb
              have g9_0 := later hq g8_0
              have g9_1 := later hq g8_1
              have g9_2 := later hq g8_2
              have g9_3 := later hq n8_0
              have z9_0 : w.heap.size < T26_3.heap.size := Nat.lt_of_lt_of_le z8_0 hq.size
              have z9_1 : w.heap.size + 1 < T26_3.heap.size := Nat.lt_of_lt_of_le z8_1 hq.size
              have z9_2 : T.heap.size < T26_3.heap.size := Nat.lt_of_lt_of_le z8_2 hq.size
              have z9_3 : T_2.heap.size < T26_3.heap.size := Nat.lt_of_lt_of_le m8 hq.size
              replace hB := thru hB hq
              replace hbtu := hbtu.later hq
              replace hbtv := hbtv.later hq
              clear hq g8_0 g8_1 g8_2 n8_0 z8_0 z8_1 z8_2 m8
              try simp only [Act.put, List.setIfInBounds_toArray, List.set_cons_zero, List.set_cons_succ]
              rw [wpSched]
              simp only [pick, List.map_nil, Array.getD_eq_getD_getElem?, List.getElem?_toArray, List.getElem?_cons_succ, List.getElem?_cons_zero, Option.getD_some]
              refine wpQuiet_nil ?_
              refine heavy_want (by rfl) (fun K' hK' => ?_)
              go_simp
              refine (add_any x n _ [v] 1 _ HN.out (by simp) hbtv).mono ?_
              rintro e T236_7 ⟨rfl, hb⟩
              refine hK' _ _ hb ?_
              clear hK' K'
              have hq := thru (Below.refl _ T26_3) hb
              clear hb
              have g10_0 := later hq g9_0
              have g10_1 := later hq g9_1
              have g10_2 := later hq g9_2
              have g10_3 := later hq g9_3
              have z10_0 : w.heap.size < T236_7.heap.size := Nat.lt_of_lt_of_le z9_0 hq.size
              have z10_1 : w.heap.size + 1 < T236_7.heap.size := Nat.lt_of_lt_of_le z9_1 hq.size
              have z10_2 : T.heap.size < T236_7.heap.size := Nat.lt_of_lt_of_le z9_2 hq.size
              have z10_3 : T_2.heap.size < T236_7.heap.size := Nat.lt_of_lt_of_le z9_3 hq.size
              replace hB := thru hB hq
              replace hbtu := hbtu.later hq
              replace hbtv := hbtv.later hq
              clear hq g9_0 g9_1 g9_2 g9_3 z9_0 z9_1 z9_2 z9_3
              try simp only [Act.put, List.setIfInBounds_toArray, List.set_cons_zero, List.set_cons_succ]
              rw [wpSched]
              simp only [pick, List.map_cons, List.map_nil, Array.getD_eq_getD_getElem?, List.getElem?_toArray, List.getElem?_cons_succ, List.getElem?_cons_zero, Option.getD_some]
              repeat (first | go_big_quiet_step (fail) | quiet_step (fail))
              refine wpQuiet_nil ?_
              refine heavy_want (by rfl) (fun K' hK' => ?_)
              go_simp
              refine (awake_any _).mono ?_
              rintro e T2367_14 ⟨rfl, hb⟩
              refine hK' _ _ hb ?_
              clear hK' K'
              have hq := thru (Below.refl _ T236_7) hb
              clear hb
              have g11_0 := later hq g10_0
              have g11_1 := later hq g10_1
              have g11_2 := later hq g10_2
              have g11_3 := later hq g10_3
              have z11_0 : w.heap.size < T2367_14.heap.size := Nat.lt_of_lt_of_le z10_0 hq.size
              have z11_1 : w.heap.size + 1 < T2367_14.heap.size := Nat.lt_of_lt_of_le z10_1 hq.size
              have z11_2 : T.heap.size < T2367_14.heap.size := Nat.lt_of_lt_of_le z10_2 hq.size
              have z11_3 : T_2.heap.size < T2367_14.heap.size := Nat.lt_of_lt_of_le z10_3 hq.size
              replace hB := thru hB hq
              replace hbtu := hbtu.later hq
              replace hbtv := hbtv.later hq
              clear hq g10_0 g10_1 g10_2 g10_3 z10_0 z10_1 z10_2 z10_3
              try simp only [Act.put, List.setIfInBounds_toArray, List.set_cons_zero, List.set_cons_succ]
              rw [wpSched]
              simp only [pick, List.map_cons, List.map_nil, Array.getD_eq_getD_getElem?, List.getElem?_toArray, List.getElem?_cons_succ, List.getElem?_cons_zero, Option.getD_some]
              repeat (first | go_big_quiet_step (fail) | quiet_step (fail))
              refine wpQuiet_nil ?_
              go_wp2_with fail
              go_ret
              exact ⟨rfl, hB⟩
          · refine heavy_want (by rfl) (fun K' hK' => ?_)
            go_simp
            refine hK' _ _ (al (Below.refl _ _) _) ?_
            clear hK' K'
            have hq := al (Below.refl _ T) (.cells #[.int .u8 (v.toNat : Int)] 5)
            have fr0 : (T.alloc (.cells #[.int .u8 (v.toNat : Int)] 5)).cell? ⟨T.heap.size, 0, none⟩ = some (.int .u8 (v.toNat : Int)) := by go_simp
            have frz : T.heap.size < (T.alloc (.cells #[.int .u8 (v.toNat : Int)] 5)).heap.size := by simp
            have hbtv := bts_one T v 5 (0, 0)
            obtain ⟨T_6, hw2⟩ : ∃ X : World, T.alloc (.cells #[.int .u8 (v.toNat : Int)] 5) = X := ⟨_, rfl⟩
            rw [hw2] at hq frz fr0 hbtv
            rw [hw2]
            clear hw2
            have g7_0 := later hq g6_0
            have g7_1 := later hq g6_1
            have z7_0 : w.heap.size < T_6.heap.size := Nat.lt_of_lt_of_le z6_0 hq.size
            have z7_1 : w.heap.size + 1 < T_6.heap.size := Nat.lt_of_lt_of_le z6_1 hq.size
            replace hB := thru hB hq
            clear hq g6_0 g6_1 z6_0 z6_1
            have n7_0 := fr0
            have m7 := frz
            clear frz fr0
            try simp only [Act.put, List.setIfInBounds_toArray, List.set_cons_zero, List.set_cons_succ]
            rw [wpSched]
            simp only [pick, List.map_nil, Array.getD_eq_getD_getElem?, List.getElem?_toArray, List.getElem?_cons_succ, List.getElem?_cons_zero, Option.getD_some]
            refine wpQuiet_nil ?_
            refine heavy_want (by rfl) (fun K' hK' => ?_)
            go_simp
            refine hK' _ _ (al (Below.refl _ _) _) ?_
            clear hK' K'
            have hq := al (Below.refl _ T_6) (.cells #[.int .u8 (u.toNat : Int)] 5)
            have fr0 : (T_6.alloc (.cells #[.int .u8 (u.toNat : Int)] 5)).cell? ⟨T_6.heap.size, 0, none⟩ = some (.int .u8 (u.toNat : Int)) := by go_simp
            have frz : T_6.heap.size < (T_6.alloc (.cells #[.int .u8 (u.toNat : Int)] 5)).heap.size := by simp
            have hbtu := bts_one T_6 u 5 (0, 0)
            obtain ⟨T6_2, hw2⟩ : ∃ X : World, T_6.alloc (.cells #[.int .u8 (u.toNat : Int)] 5) = X := ⟨_, rfl⟩
            rw [hw2] at hq frz fr0 hbtu
            rw [hw2]
            clear hw2
            have g8_0 := later hq g7_0
            have g8_1 := later hq g7_1
            have g8_2 := later hq n7_0
            have z8_0 : w.heap.size < T6_2.heap.size := Nat.lt_of_lt_of_le z7_0 hq.size
            have z8_1 : w.heap.size + 1 < T6_2.heap.size := Nat.lt_of_lt_of_le z7_1 hq.size
            have z8_2 : T.heap.size < T6_2.heap.size := Nat.lt_of_lt_of_le m7 hq.size
            replace hB := thru hB hq
            replace hbtv := hbtv.later hq
            clear hq g7_0 g7_1 n7_0 z7_0 z7_1 m7
            have n8_0 := fr0
            have m8 := frz
            clear frz fr0
            try simp only [Act.put, List.setIfInBounds_toArray, List.set_cons_zero, List.set_cons_succ]
            rw [wpSched]
            simp only [pick, List.map_nil, Array.getD_eq_getD_getElem?, List.getElem?_toArray, List.getElem?_cons_succ, List.getElem?_cons_zero, Option.getD_some]
            refine wpQuiet_nil ?_
            refine heavy_want (by rfl) (fun K' hK' => ?_)
            go_simp
            refine (add_any x n _ [u] 1 _ HN.out (by simp) hbtu).mono ?_
            rintro e T26_3 ⟨rfl, hb⟩
            refine hK' _ _ hb ?_
            clear hK' K'
            have hq := thru (Below.refl _ T6_2) hb
            clear hb
            have g9_0 := later hq g8_0
            have g9_1 := later hq g8_1
            have g9_2 := later hq g8_2
            have g9_3 := later hq n8_0
            have z9_0 : w.heap.size < T26_3.heap.size := Nat.lt_of_lt_of_le z8_0 hq.size
            have z9_1 : w.heap.size + 1 < T26_3.heap.size := Nat.lt_of_lt_of_le z8_1 hq.size
            have z9_2 : T.heap.size < T26_3.heap.size := Nat.lt_of_lt_of_le z8_2 hq.size
            have z9_3 : T_6.heap.size < T26_3.heap.size := Nat.lt_of_lt_of_le m8 hq.size
            replace hB := thru hB hq
            replace hbtv := hbtv.later hq
            replace hbtu := hbtu.later hq
            clear hq g8_0 g8_1 g8_2 n8_0 z8_0 z8_1 z8_2 m8
            try simp only [Act.put, List.setIfInBounds_toArray, List.set_cons_zero, List.set_cons_succ]
            rw [wpSched]
            simp only [pick, List.map_nil, Array.getD_eq_getD_getElem?, List.getElem?_toArray, List.getElem?_cons_succ, List.getElem?_cons_zero, Option.getD_some]
            refine wpQuiet_nil ?_
            refine heavy_want (by rfl) (fun K' hK' => ?_)
            go_simp
            refine (add_any x n _ [v] 1 _ HN.out (by simp) hbtv).mono ?_
            rintro e T236_7 ⟨rfl, hb⟩
            refine hK' _ _ hb ?_
            clear hK' K'
            have hq := thru (Below.refl _ T26_3) hb
            clear hb
            have g10_0 := later hq g9_0
            have g10_1 := later hq g9_1
            have g10_2 := later hq g9_2
            have g10_3 := later hq g9_3
            have z10_0 : w.heap.size < T236_7.heap.size := Nat.lt_of_lt_of_le z9_0 hq.size
            have z10_1 : w.heap.size + 1 < T236_7.heap.size := Nat.lt_of_lt_of_le z9_1 hq.size
            have z10_2 : T.heap.size < T236_7.heap.size := Nat.lt_of_lt_of_le z9_2 hq.size
            have z10_3 : T_6.heap.size < T236_7.heap.size := Nat.lt_of_lt_of_le z9_3 hq.size
            replace hB := thru hB hq
            replace hbtv := hbtv.later hq
            replace hbtu := hbtu.later hq
            clear hq g9_0 g9_1 g9_2 g9_3 z9_0 z9_1 z9_2 z9_3
            try simp only [Act.put, List.setIfInBounds_toArray, List.set_cons_zero, List.set_cons_succ]
            rw [wpSched]
            simp only [pick, List.map_cons, List.map_nil, Array.getD_eq_getD_getElem?, List.getElem?_toArray, List.getElem?_cons_succ, List.getElem?_cons_zero, Option.getD_some]
            repeat (first | go_big_quiet_step (fail) | quiet_step (fail))
            refine wpQuiet_nil ?_
            refine heavy_want (by rfl) (fun K' hK' => ?_)
            go_simp
            refine (awake_any _).mono ?_
            rintro e T2367_14 ⟨rfl, hb⟩
            refine hK' _ _ hb ?_
            clear hK' K'
            have hq := thru (Below.refl _ T236_7) hb
            clear hb
            have g11_0 := later hq g10_0
            have g11_1 := later hq g10_1
            have g11_2 := later hq g10_2
            have g11_3 := later hq g10_3
            have z11_0 : w.heap.size < T2367_14.heap.size := Nat.lt_of_lt_of_le z10_0 hq.size
            have z11_1 : w.heap.size + 1 < T2367_14.heap.size := Nat.lt_of_lt_of_le z10_1 hq.size
            have z11_2 : T.heap.size < T2367_14.heap.size := Nat.lt_of_lt_of_le z10_2 hq.size
            have z11_3 : T_6.heap.size < T2367_14.heap.size := Nat.lt_of_lt_of_le z10_3 hq.size
            replace hB := thru hB hq
            replace hbtv := hbtv.later hq
            replace hbtu := hbtu.later hq
            clear hq g10_0 g10_1 g10_2 g10_3 z10_0 z10_1 z10_2 z10_3
            try simp only [Act.put, List.setIfInBounds_toArray, List.set_cons_zero, List.set_cons_succ]
            rw [wpSched]
            simp only [pick, List.map_cons, List.map_nil, Array.getD_eq_getD_getElem?, List.getElem?_toArray, List.getElem?_cons_succ, List.getElem?_cons_zero, Option.getD_some]
            repeat (first | go_big_quiet_step (fail) | quiet_step (fail))
            refine wpQuiet_nil ?_
            go_wp2_with fail
            go_ret
            exact ⟨rfl, hB⟩
        | false =>
          have e4 := HE4.out
          have e5 := HE5.out
          go_wp2_with fail
          refine wp_region_sched (fun W => W.cell? ⟨w.heap.size, 0, none⟩ = some (.int .u64 (num x)) ∧ W.cell? ⟨w.heap.size, 1, none⟩ = some (.int .i64 n) ∧ w.heap.size < W.heap.size ∧ w.heap.size + 1 < W.heap.size ∧ Below w.heap.size w W) (.two [0, 1, 4, 5, 9, 10, 11] 2 (.two [] 3 (.one [] 6 (.one [] 7 (.one [8, 12, 13] 14 (.done [15, 16])))) 6 (.one [] 3 (.one [] 7 (.one [8, 12, 13] 14 (.done [15, 16]))))) 6 (.one [] 2 (.one [] 3 (.one [] 7 (.one [8, 12, 13] 14 (.done [15, 16])))))) (by kernel_rfl) (by kernel_rfl) (fun _ _ _ _ _ h => h) ⟨(by go_simp), (by go_simp), (by simp <;> omega), (by simp <;> omega), hB.drew⟩ ?_
          clear hB g5_0 g5_1 z5_0 z5_1
          rintro T ⟨g6_0, g6_1, z6_0, z6_1, hB⟩
          rw [wpSched]
          simp only [pick, List.map_cons, List.map_nil, Array.getD_eq_getD_getElem?, List.getElem?_toArray, List.getElem?_cons_succ, List.getElem?_cons_zero, Option.getD_some]
          have kg6_0 := plusW_cell g6_0
          have kg6_1 := plusW_cell g6_1
          repeat (first | go_big_quiet_step (fail) | quiet_step (fail))
          refine wpQuiet_nil ?_
          clear kg6_0 kg6_1
          refine ⟨?_, ?_⟩
          · refine heavy_want (by rfl) (fun K' hK' => ?_)
            go_simp
            refine hK' _ _ (al (Below.refl _ _) _) ?_
            clear hK' K'
            have hq := al (Below.refl _ T) (.cells #[.int .u8 (u.toNat : Int)] 5)
            have fr0 : (T.alloc (.cells #[.int .u8 (u.toNat : Int)] 5)).cell? ⟨T.heap.size, 0, none⟩ = some (.int .u8 (u.toNat : Int)) := by go_simp
            have frz : T.heap.size < (T.alloc (.cells #[.int .u8 (u.toNat : Int)] 5)).heap.size := by simp
            have hbtu := bts_one T u 5 (0, 0)
            obtain ⟨T_2, hw2⟩ : ∃ X : World, T.alloc (.cells #[.int .u8 (u.toNat : Int)] 5) = X := ⟨_, rfl⟩
            rw [hw2] at hq frz fr0 hbtu
            rw [hw2]
            clear hw2
            have g7_0 := later hq g6_0
            have g7_1 := later hq g6_1
            have z7_0 : w.heap.size < T_2.heap.size := Nat.lt_of_lt_of_le z6_0 hq.size
            have z7_1 : w.heap.size + 1 < T_2.heap.size := Nat.lt_of_lt_of_le z6_1 hq.size
            replace hB := thru hB hq
            clear hq g6_0 g6_1 z6_0 z6_1
            have n7_0 := fr0
            have m7 := frz
            clear frz fr0
            try simp only [Act.put, List.setIfInBounds_toArray, List.set_cons_zero, List.set_cons_succ]
            rw [wpSched]
            simp only [pick, List.map_nil, Array.getD_eq_getD_getElem?, List.getElem?_toArray, List.getElem?_cons_succ, List.getElem?_cons_zero, Option.getD_some]
            refine wpQuiet_nil ?_
            refine ⟨?_, ?_⟩
            · refine heavy_want (by rfl) (fun K' hK' => ?_)
              go_simp
              refine (add_any x n _ [u] 1 _ HN.out (by simp) hbtu).mono ?_
              rintro e T2_3 ⟨rfl, hb⟩
              refine hK' _ _ hb ?_
              clear hK' K'
              have hq := thru (Below.refl _ T_2) hb
              clear hb
              have g8_0 := later hq g7_0
              have g8_1 := later hq g7_1
              have g8_2 := later hq n7_0
              have z8_0 : w.heap.size < T2_3.heap.size := Nat.lt_of_lt_of_le z7_0 hq.size
              have z8_1 : w.heap.size + 1 < T2_3.heap.size := Nat.lt_of_lt_of_le z7_1 hq.size
              have z8_2 : T.heap.size < T2_3.heap.size := Nat.lt_of_lt_of_le m7 hq.size
              replace hB := thru hB hq
              replace hbtu := hbtu.later hq
              clear hq g7_0 g7_1 n7_0 z7_0 z7_1 m7
              try simp only [Act.put, List.setIfInBounds_toArray, List.set_cons_zero, List.set_cons_succ]
              rw [wpSched]
              simp only [pick, List.map_nil, Array.getD_eq_getD_getElem?, List.getElem?_toArray, List.getElem?_cons_succ, List.getElem?_cons_zero, Option.getD_some]
              refine wpQuiet_nil ?_
              refine heavy_want (by rfl) (fun K' hK' => ?_)
              go_simp
              refine hK' _ _ (al (Below.refl _ _) _) ?_
              clear hK' K'
              have hq := al (Below.refl _ T2_3) (.cells #[.int .u8 (v.toNat : Int)] 5)
              have fr0 : (T2_3.alloc (.cells #[.int .u8 (v.toNat : Int)] 5)).cell? ⟨T2_3.heap.size, 0, none⟩ = some (.int .u8 (v.toNat : Int)) := by go_simp
              have frz : T2_3.heap.size < (T2_3.alloc (.cells #[.int .u8 (v.toNat : Int)] 5)).heap.size := by simp
              have hbtv := bts_one T2_3 v 5 (0, 0)
              obtain ⟨T23_6, hw2⟩ : ∃ X : World, T2_3.alloc (.cells #[.int .u8 (v.toNat : Int)] 5) = X := ⟨_, rfl⟩
              rw [hw2] at hq frz fr0 hbtv
              rw [hw2]
              clear hw2
              have g9_0 := later hq g8_0
              have g9_1 := later hq g8_1
              have g9_2 := later hq g8_2
              have z9_0 : w.heap.size < T23_6.heap.size := Nat.lt_of_lt_of_le z8_0 hq.size
              have z9_1 : w.heap.size + 1 < T23_6.heap.size := Nat.lt_of_lt_of_le z8_1 hq.size
              have z9_2 : T.heap.size < T23_6.heap.size := Nat.lt_of_lt_of_le z8_2 hq.size
              replace hB := thru hB hq
              replace hbtu := hbtu.later hq
              clear hq g8_0 g8_1 g8_2 z8_0 z8_1 z8_2
              have n9_0 := fr0
              have m9 := frz
              clear frz fr0
              try simp only [Act.put, List.setIfInBounds_toArray, List.set_cons_zero, List.set_cons_succ]
              rw [wpSched]
              simp only [pick, List.map_nil, Array.getD_eq_getD_getElem?, List.getElem?_toArray, List.getElem?_cons_succ, List.getElem?_cons_zero, Option.getD_some]
              refine wpQuiet_nil ?_
              refine heavy_want (by rfl) (fun K' hK' => ?_)
              go_simp
              refine (add_any x n _ [v] 1 _ HN.out (by simp) hbtv).mono ?_
              rintro e T236_7 ⟨rfl, hb⟩
              refine hK' _ _ hb ?_
              clear hK' K'
              have hq := thru (Below.refl _ T23_6) hb
              clear hb
              have g10_0 := later hq g9_0
              have g10_1 := later hq g9_1
              have g10_2 := later hq g9_2
              have g10_3 := later hq n9_0
              have z10_0 : w.heap.size < T236_7.heap.size := Nat.lt_of_lt_of_le z9_0 hq.size
              have z10_1 : w.heap.size + 1 < T236_7.heap.size := Nat.lt_of_lt_of_le z9_1 hq.size
              have z10_2 : T.heap.size < T236_7.heap.size := Nat.lt_of_lt_of_le z9_2 hq.size
              have z10_3 : T2_3.heap.size < T236_7.heap.size := Nat.lt_of_lt_of_le m9 hq.size
              replace hB := thru hB hq
              replace hbtu := hbtu.later hq
              replace hbtv := hbtv.later hq
              clear hq g9_0 g9_1 g9_2 n9_0 z9_0 z9_1 z9_2 m9
              try simp only [Act.put, List.setIfInBounds_toArray, List.set_cons_zero, List.set_cons_succ]
              rw [wpSched]
              simp only [pick, List.map_cons, List.map_nil, Array.getD_eq_getD_getElem?, List.getElem?_toArray, List.getElem?_cons_succ, List.getElem?_cons_zero, Option.getD_some]
              repeat (first | go_big_quiet_step (fail) | quiet_step (fail))
              refine wpQuiet_nil ?_
              refine heavy_want (by rfl) (fun K' hK' => ?_)
              go_simp
              refine (awake_any _).mono ?_
              rintro e T2367_14 ⟨rfl, hb⟩
              refine hK' _ _ hb ?_
              clear hK' K'
              have hq := thru (Below.refl _ T236_7) hb
              clear hb
              have g11_0 := later hq g10_0
              have g11_1 := later hq g10_1
              have g11_2 := later hq g10_2
              have g11_3 := later hq g10_3
              have z11_0 : w.heap.size < T2367_14.heap.size := Nat.lt_of_lt_of_le z10_0 hq.size
              have z11_1 : w.heap.size + 1 < T2367_14.heap.size := Nat.lt_of_lt_of_le z10_1 hq.size
              have z11_2 : T.heap.size < T2367_14.heap.size := Nat.lt_of_lt_of_le z10_2 hq.size
              have z11_3 : T2_3.heap.size < T2367_14.heap.size := Nat.lt_of_lt_of_le z10_3 hq.size
              replace hB := thru hB hq
              replace hbtu := hbtu.later hq
              replace hbtv := hbtv.later hq
              clear hq g10_0 g10_1 g10_2 g10_3 z10_0 z10_1 z10_2 z10_3
              try simp only [Act.put, List.setIfInBounds_toArray, List.set_cons_zero, List.set_cons_succ]
              rw [wpSched]
              simp only [pick, List.map_cons, List.map_nil, Array.getD_eq_getD_getElem?, List.getElem?_toArray, List.getElem?_cons_succ, List.getElem?_cons_zero, Option.getD_some]
              repeat (first | go_big_quiet_step (fail) | quiet_step (fail))
              refine wpQuiet_nil ?_
              go_wp2_with fail
              go_ret
              exact ⟨rfl, hB⟩
            · refine heavy_want (by rfl) (fun K' hK' => ?_)
              go_simp
              refine hK' _ _ (al (Below.refl _ _) _) ?_
              clear hK' K'
              have hq := al (Below.refl _ T_2) (.cells #[.int .u8 (v.toNat : Int)] 5)
              have fr0 : (T_2.alloc (.cells #[.int .u8 (v.toNat : Int)] 5)).cell? ⟨T_2.heap.size, 0, none⟩ = some (.int .u8 (v.toNat : Int)) := by go_simp
              have frz : T_2.heap.size < (T_2.alloc (.cells #[.int .u8 (v.toNat : Int)] 5)).heap.size := by simp
              have hbtv := bts_one T_2 v 5 (0, 0)
              obtain ⟨T2_6, hw2⟩ : ∃ X : World, T_2.alloc (.cells #[.int .u8 (v.toNat : Int)] 5) = X := ⟨_, rfl⟩
              rw [hw2] at hq frz fr0 hbtv
              rw [hw2]
              clear hw2
              have g8_0 := later hq g7_0
              have g8_1 := later hq g7_1
              have g8_2 := later hq n7_0
              have z8_0 : w.heap.size < T2_6.heap.size := Nat.lt_of_lt_of_le z7_0 hq.size
              have z8_1 : w.heap.size + 1 < T2_6.heap.size := Nat.lt_of_lt_of_le z7_1 hq.size
              have z8_2 : T.heap.size < T2_6.heap.size := Nat.lt_of_lt_of_le m7 hq.size
              replace hB := thru hB hq
              replace hbtu := hbtu.later hq
              clear hq g7_0 g7_1 n7_0 z7_0 z7_1 m7
              have n8_0 := fr0
              have m8 := frz
              clear frz fr0
              try simp only [Act.put, List.setIfInBounds_toArray, List.set_cons_zero, List.set_cons_succ]
              rw [wpSched]
              simp only [pick, List.map_nil, Array.getD_eq_getD_getElem?, List.getElem?_toArray, List.getElem?_cons_succ, List.getElem?_cons_zero, Option.getD_some]
              refine wpQuiet_nil ?_
              refine heavy_want (by rfl) (fun K' hK' => ?_)
              go_simp
              refine (add_any x n _ [u] 1 _ HN.out (by simp) hbtu).mono ?_
              rintro e T26_3 ⟨rfl, hb⟩
              refine hK' _ _ hb ?_
              clear hK' K'
              have hq := thru (Below.refl _ T2_6) hb
              clear hb
              have g9_0 := later hq g8_0
              have g9_1 := later hq g8_1
              have g9_2 := later hq g8_2
              have g9_3 := later hq n8_0
              have z9_0 : w.heap.size < T26_3.heap.size := Nat.lt_of_lt_of_le z8_0 hq.size
              have z9_1 : w.heap.size + 1 < T26_3.heap.size := Nat.lt_of_lt_of_le z8_1 hq.size
              have z9_2 : T.heap.size < T26_3.heap.size := Nat.lt_of_lt_of_le z8_2 hq.size
              have z9_3 : T_2.heap.size < T26_3.heap.size := Nat.lt_of_lt_of_le m8 hq.size
              replace hB := thru hB hq
              replace hbtu := hbtu.later hq
              replace hbtv := hbtv.later hq
              clear hq g8_0 g8_1 g8_2 n8_0 z8_0 z8_1 z8_2 m8
              try simp only [Act.put, List.setIfInBounds_toArray, List.set_cons_zero, List.set_cons_succ]
              rw [wpSched]
              simp only [pick, List.map_nil, Array.getD_eq_getD_getElem?, List.getElem?_toArray, List.getElem?_cons_succ, List.getElem?_cons_zero, Option.getD_some]
              refine wpQuiet_nil ?_
              refine heavy_want (by rfl) (fun K' hK' => ?_)
              go_simp
              refine (add_any x n _ [v] 1 _ HN.out (by simp) hbtv).mono ?_
              rintro e T236_7 ⟨rfl, hb⟩
              refine hK' _ _ hb ?_
              clear hK' K'
              have hq := thru (Below.refl _ T26_3) hb
              clear hb
              have g10_0 := later hq g9_0
              have g10_1 := later hq g9_1
              have g10_2 := later hq g9_2
              have g10_3 := later hq g9_3
              have z10_0 : w.heap.size < T236_7.heap.size := Nat.lt_of_lt_of_le z9_0 hq.size
              have z10_1 : w.heap.size + 1 < T236_7.heap.size := Nat.lt_of_lt_of_le z9_1 hq.size
              have z10_2 : T.heap.size < T236_7.heap.size := Nat.lt_of_lt_of_le z9_2 hq.size
              have z10_3 : T_2.heap.size < T236_7.heap.size := Nat.lt_of_lt_of_le z9_3 hq.size
              replace hB := thru hB hq
              replace hbtu := hbtu.later hq
              replace hbtv := hbtv.later hq
              clear hq g9_0 g9_1 g9_2 g9_3 z9_0 z9_1 z9_2 z9_3
              try simp only [Act.put, List.setIfInBounds_toArray, List.set_cons_zero, List.set_cons_succ]
              rw [wpSched]
              simp only [pick, List.map_cons, List.map_nil, Array.getD_eq_getD_getElem?, List.getElem?_toArray, List.getElem?_cons_succ, List.getElem?_cons_zero, Option.getD_some]
              repeat (first | go_big_quiet_step (fail) | quiet_step (fail))
              refine wpQuiet_nil ?_
              refine heavy_want (by rfl) (fun K' hK' => ?_)
              go_simp
              refine (awake_any _).mono ?_
              rintro e T2367_14 ⟨rfl, hb⟩
              refine hK' _ _ hb ?_
              clear hK' K'
              have hq := thru (Below.refl _ T236_7) hb
              clear hb
              have g11_0 := later hq g10_0
              have g11_1 := later hq g10_1
              have g11_2 := later hq g10_2
              have g11_3 := later hq g10_3
              have z11_0 : w.heap.size < T2367_14.heap.size := Nat.lt_of_lt_of_le z10_0 hq.size
              have z11_1 : w.heap.size + 1 < T2367_14.heap.size := Nat.lt_of_lt_of_le z10_1 hq.size
              have z11_2 : T.heap.size < T2367_14.heap.size := Nat.lt_of_lt_of_le z10_2 hq.size
              have z11_3 : T_2.heap.size < T2367_14.heap.size := Nat.lt_of_lt_of_le z10_3 hq.size
              replace hB := thru hB hq
              replace hbtu := hbtu.later hq
              replace hbtv := hbtv.later hq
              clear hq g10_0 g10_1 g10_2 g10_3 z10_0 z10_1 z10_2 z10_3
              try simp only [Act.put, List.setIfInBounds_toArray, List.set_cons_zero, List.set_cons_succ]
              rw [wpSched]
              simp only [pick, List.map_cons, List.map_nil, Array.getD_eq_getD_getElem?, List.getElem?_toArray, List.getElem?_cons_succ, List.getElem?_cons_zero, Option.getD_some]
              repeat (first | go_big_quiet_step (fail) | quiet_step (fail))
              refine wpQuiet_nil ?_
              go_wp2_with fail
              go_ret
              exact ⟨rfl, hB⟩
          · refine heavy_want (by rfl) (fun K' hK' => ?_)
            go_simp
            refine hK' _ _ (al (Below.refl _ _) _) ?_
            clear hK' K'
            have hq := al (Below.refl _ T) (.cells #[.int .u8 (v.toNat : Int)] 5)
            have fr0 : (T.alloc (.cells #[.int .u8 (v.toNat : Int)] 5)).cell? ⟨T.heap.size, 0, none⟩ = some (.int .u8 (v.toNat : Int)) := by go_simp
            have frz : T.heap.size < (T.alloc (.cells #[.int .u8 (v.toNat : Int)] 5)).heap.size := by simp
            have hbtv := bts_one T v 5 (0, 0)
            obtain ⟨T_6, hw2⟩ : ∃ X : World, T.alloc (.cells #[.int .u8 (v.toNat : Int)] 5) = X := ⟨_, rfl⟩
            rw [hw2] at hq frz fr0 hbtv
            rw [hw2]
            clear hw2
            have g7_0 := later hq g6_0
            have g7_1 := later hq g6_1
            have z7_0 : w.heap.size < T_6.heap.size := Nat.lt_of_lt_of_le z6_0 hq.size
            have z7_1 : w.heap.size + 1 < T_6.heap.size := Nat.lt_of_lt_of_le z6_1 hq.size
            replace hB := thru hB hq
            clear hq g6_0 g6_1 z6_0 z6_1
            have n7_0 := fr0
            have m7 := frz
            clear frz fr0
            try simp only [Act.put, List.setIfInBounds_toArray, List.set_cons_zero, List.set_cons_succ]
            rw [wpSched]
            simp only [pick, List.map_nil, Array.getD_eq_getD_getElem?, List.getElem?_toArray, List.getElem?_cons_succ, List.getElem?_cons_zero, Option.getD_some]
            refine wpQuiet_nil ?_
            refine heavy_want (by rfl) (fun K' hK' => ?_)
            go_simp
            refine hK' _ _ (al (Below.refl _ _) _) ?_
            clear hK' K'
            have hq := al (Below.refl _ T_6) (.cells #[.int .u8 (u.toNat : Int)] 5)
            have fr0 : (T_6.alloc (.cells #[.int .u8 (u.toNat : Int)] 5)).cell? ⟨T_6.heap.size, 0, none⟩ = some (.int .u8 (u.toNat : Int)) := by go_simp
            have frz : T_6.heap.size < (T_6.alloc (.cells #[.int .u8 (u.toNat : Int)] 5)).heap.size := by simp
            have hbtu := bts_one T_6 u 5 (0, 0)
            obtain ⟨T6_2, hw2⟩ : ∃ X : World, T_6.alloc (.cells #[.int .u8 (u.toNat : Int)] 5) = X := ⟨_, rfl⟩
            rw [hw2] at hq frz fr0 hbtu
            rw [hw2]
            clear hw2
            have g8_0 := later hq g7_0
            have g8_1 := later hq g7_1
            have g8_2 := later hq n7_0
            have z8_0 : w.heap.size < T6_2.heap.size := Nat.lt_of_lt_of_le z7_0 hq.size
            have z8_1 : w.heap.size + 1 < T6_2.heap.size := Nat.lt_of_lt_of_le z7_1 hq.size
            have z8_2 : T.heap.size < T6_2.heap.size := Nat.lt_of_lt_of_le m7 hq.size
            replace hB := thru hB hq
            replace hbtv := hbtv.later hq
            clear hq g7_0 g7_1 n7_0 z7_0 z7_1 m7
            have n8_0 := fr0
            have m8 := frz
            clear frz fr0
            try simp only [Act.put, List.setIfInBounds_toArray, List.set_cons_zero, List.set_cons_succ]
            rw [wpSched]
            simp only [pick, List.map_nil, Array.getD_eq_getD_getElem?, List.getElem?_toArray, List.getElem?_cons_succ, List.getElem?_cons_zero, Option.getD_some]
            refine wpQuiet_nil ?_
            refine heavy_want (by rfl) (fun K' hK' => ?_)
            go_simp
            refine (add_any x n _ [u] 1 _ HN.out (by simp) hbtu).mono ?_
            rintro e T26_3 ⟨rfl, hb⟩
            refine hK' _ _ hb ?_
            clear hK' K'
            have hq := thru (Below.refl _ T6_2) hb
            clear hb
            have g9_0 := later hq g8_0
            have g9_1 := later hq g8_1
            have g9_2 := later hq g8_2
            have g9_3 := later hq n8_0
            have z9_0 : w.heap.size < T26_3.heap.size := Nat.lt_of_lt_of_le z8_0 hq.size
            have z9_1 : w.heap.size + 1 < T26_3.heap.size := Nat.lt_of_lt_of_le z8_1 hq.size
            have z9_2 : T.heap.size < T26_3.heap.size := Nat.lt_of_lt_of_le z8_2 hq.size
            have z9_3 : T_6.heap.size < T26_3.heap.size := Nat.lt_of_lt_of_le m8 hq.size
            replace hB := thru hB hq
            replace hbtv := hbtv.later hq
            replace hbtu := hbtu.later hq
            clear hq g8_0 g8_1 g8_2 n8_0 z8_0 z8_1 z8_2 m8
            try simp only [Act.put, List.setIfInBounds_toArray, List.set_cons_zero, List.set_cons_succ]
            rw [wpSched]
            simp only [pick, List.map_nil, Array.getD_eq_getD_getElem?, List.getElem?_toArray, List.getElem?_cons_succ, List.getElem?_cons_zero, Option.getD_some]
            refine wpQuiet_nil ?_
            refine heavy_want (by rfl) (fun K' hK' => ?_)
            go_simp
            refine (add_any x n _ [v] 1 _ HN.out (by simp) hbtv).mono ?_
            rintro e T236_7 ⟨rfl, hb⟩
            refine hK' _ _ hb ?_
            clear hK' K'
            have hq := thru (Below.refl _ T26_3) hb
            clear hb
            have g10_0 := later hq g9_0
            have g10_1 := later hq g9_1
            have g10_2 := later hq g9_2
            have g10_3 := later hq g9_3
            have z10_0 : w.heap.size < T236_7.heap.size := Nat.lt_of_lt_of_le z9_0 hq.size
            have z10_1 : w.heap.size + 1 < T236_7.heap.size := Nat.lt_of_lt_of_le z9_1 hq.size
            have z10_2 : T.heap.size < T236_7.heap.size := Nat.lt_of_lt_of_le z9_2 hq.size
            have z10_3 : T_6.heap.size < T236_7.heap.size := Nat.lt_of_lt_of_le z9_3 hq.size
            replace hB := thru hB hq
            replace hbtv := hbtv.later hq
            replace hbtu := hbtu.later hq
            clear hq g9_0 g9_1 g9_2 g9_3 z9_0 z9_1 z9_2 z9_3
            try simp only [Act.put, List.setIfInBounds_toArray, List.set_cons_zero, List.set_cons_succ]
            rw [wpSched]
            simp only [pick, List.map_cons, List.map_nil, Array.getD_eq_getD_getElem?, List.getElem?_toArray, List.getElem?_cons_succ, List.getElem?_cons_zero, Option.getD_some]
            repeat (first | go_big_quiet_step (fail) | quiet_step (fail))
            refine wpQuiet_nil ?_
            refine heavy_want (by rfl) (fun K' hK' => ?_)
            go_simp
            refine (awake_any _).mono ?_
            rintro e T2367_14 ⟨rfl, hb⟩
            refine hK' _ _ hb ?_
            clear hK' K'
            have hq := thru (Below.refl _ T236_7) hb
            clear hb
            have g11_0 := later hq g10_0
            have g11_1 := later hq g10_1
            have g11_2 := later hq g10_2
            have g11_3 := later hq g10_3
            have z11_0 : w.heap.size < T2367_14.heap.size := Nat.lt_of_lt_of_le z10_0 hq.size
            have z11_1 : w.heap.size + 1 < T2367_14.heap.size := Nat.lt_of_lt_of_le z10_1 hq.size
            have z11_2 : T.heap.size < T2367_14.heap.size := Nat.lt_of_lt_of_le z10_2 hq.size
            have z11_3 : T_6.heap.size < T2367_14.heap.size := Nat.lt_of_lt_of_le z10_3 hq.size
            replace hB := thru hB hq
            replace hbtv := hbtv.later hq
            replace hbtu := hbtu.later hq
            clear hq g10_0 g10_1 g10_2 g10_3 z10_0 z10_1 z10_2 z10_3
            try simp only [Act.put, List.setIfInBounds_toArray, List.set_cons_zero, List.set_cons_succ]
            rw [wpSched]
            simp only [pick, List.map_cons, List.map_nil, Array.getD_eq_getD_getElem?, List.getElem?_toArray, List.getElem?_cons_succ, List.getElem?_cons_zero, Option.getD_some]
            repeat (first | go_big_quiet_step (fail) | quiet_step (fail))
            refine wpQuiet_nil ?_
            go_wp2_with fail
            go_ret
            exact ⟨rfl, hB⟩
      | false =>
        have E1 := HE1.out
        have E2 := HE2.out
        have E3 := HE3.out
        have E0 := HE0.out
        go_wp2_with fail
        refine wp_region_sched (fun W => W.cell? ⟨w.heap.size, 0, none⟩ = some (.int .u64 (num x)) ∧ W.cell? ⟨w.heap.size, 1, none⟩ = some (.int .i64 n) ∧ W.cell? ⟨w.heap.size + 1, 0, none⟩ = some (.int .u64 (num y)) ∧ W.cell? ⟨w.heap.size + 1, 1, none⟩ = some (.int .i64 n) ∧ W.cell? ⟨b1, 0, none⟩ = some (.int .u64 (num X)) ∧ W.cell? ⟨b1, 1, none⟩ = some (.int .i64 N) ∧ W.cell? ⟨b2, 0, none⟩ = some (.int .u64 (num Y)) ∧ W.cell? ⟨b2, 1, none⟩ = some (.int .i64 N) ∧ w.heap.size < W.heap.size ∧ w.heap.size + 1 < W.heap.size ∧ Below w.heap.size w W) (.one [0, 1, 2, 3, 4, 5, 6, 7, 8, 10, 13, 14, 15] 9 (.one [] 11 (.one [12, 16, 17, 18, 19, 21, 24, 25, 26] 20 (.one [] 22 (.done [23, 27, 28]))))) (by kernel_rfl) (by kernel_rfl) (fun _ _ _ _ _ h => h) ⟨(by go_simp), (by go_simp), (by go_simp), (by go_simp), (by go_simp), (by go_simp), (by go_simp), (by go_simp), (by simp <;> omega), (by simp <;> omega), hB.drew⟩ ?_
        clear hB k0 k1 k2 k3 p0 p1 q0 q1 hz0 hz1
        rintro U ⟨g1_0, g1_1, g1_2, g1_3, g1_4, g1_5, g1_6, g1_7, z1_0, z1_1, hB⟩
        rw [wpSched]
        simp only [pick, List.map_cons, List.map_nil, Array.getD_eq_getD_getElem?, List.getElem?_toArray, List.getElem?_cons_succ, List.getElem?_cons_zero, Option.getD_some]
        have kg1_0 := plusW_cell g1_0
        have kg1_1 := plusW_cell g1_1
        have kg1_2 := plusW_cell g1_2
        have kg1_3 := plusW_cell g1_3
        have kg1_4 := plusW_cell g1_4
        have kg1_5 := plusW_cell g1_5
        have kg1_6 := plusW_cell g1_6
        have kg1_7 := plusW_cell g1_7
        repeat (first | go_big_quiet_step (fail) | quiet_step (fail))
        refine wpQuiet_nil ?_
        clear kg1_0 kg1_1 kg1_2 kg1_3 kg1_4 kg1_5 kg1_6 kg1_7
        refine heavy_want (by rfl) (fun K' hK' => ?_)
        go_simp
        refine (fin_any _ _ _).mono ?_
        rintro e U1 ⟨rfl, hb⟩
        refine hK' _ _ hb ?_
        clear hK' K'
        have hq := thru (Below.refl _ U) hb
        clear hb
        have g2_0 := later hq g1_0
        have g2_1 := later hq g1_1
        have g2_2 := later hq g1_2
        have g2_3 := later hq g1_3
        have g2_4 := later hq g1_4
        have g2_5 := later hq g1_5
        have g2_6 := later hq g1_6
        have g2_7 := later hq g1_7
        have z2_0 : w.heap.size < U1.heap.size := Nat.lt_of_lt_of_le z1_0 hq.size
        have z2_1 : w.heap.size + 1 < U1.heap.size := Nat.lt_of_lt_of_le z1_1 hq.size
        replace hB := thru hB hq
        clear hq g1_0 g1_1 g1_2 g1_3 g1_4 g1_5 g1_6 g1_7 z1_0 z1_1
        try simp only [Act.put, List.setIfInBounds_toArray, List.set_cons_zero, List.set_cons_succ]
        rw [wpSched]
        simp only [pick, List.map_nil, Array.getD_eq_getD_getElem?, List.getElem?_toArray, List.getElem?_cons_succ, List.getElem?_cons_zero, Option.getD_some]
        refine wpQuiet_nil ?_
        refine heavy_want (by rfl) (fun K' hK' => ?_)
        go_simp
        refine (fin_any _ _ _).mono ?_
        rintro e U2 ⟨rfl, hb⟩
        refine hK' _ _ hb ?_
        clear hK' K'
        have hq := thru (Below.refl _ U1) hb
        clear hb
        have g3_0 := later hq g2_0
        have g3_1 := later hq g2_1
        have g3_2 := later hq g2_2
        have g3_3 := later hq g2_3
        have g3_4 := later hq g2_4
        have g3_5 := later hq g2_5
        have g3_6 := later hq g2_6
        have g3_7 := later hq g2_7
        have z3_0 : w.heap.size < U2.heap.size := Nat.lt_of_lt_of_le z2_0 hq.size
        have z3_1 : w.heap.size + 1 < U2.heap.size := Nat.lt_of_lt_of_le z2_1 hq.size
        replace hB := thru hB hq
        clear hq g2_0 g2_1 g2_2 g2_3 g2_4 g2_5 g2_6 g2_7 z2_0 z2_1
        try simp only [Act.put, List.setIfInBounds_toArray, List.set_cons_zero, List.set_cons_succ]
        rw [wpSched]
        simp only [pick, List.map_cons, List.map_nil, Array.getD_eq_getD_getElem?, List.getElem?_toArray, List.getElem?_cons_succ, List.getElem?_cons_zero, Option.getD_some]
        have kg3_0 := plusW_cell g3_0
        have kg3_1 := plusW_cell g3_1
        have kg3_2 := plusW_cell g3_2
        have kg3_3 := plusW_cell g3_3
        have kg3_4 := plusW_cell g3_4
        have kg3_5 := plusW_cell g3_5
        have kg3_6 := plusW_cell g3_6
        have kg3_7 := plusW_cell g3_7
        repeat (first | go_big_quiet_step (fail) | quiet_step (fail))
        refine wpQuiet_nil ?_
        clear kg3_0 kg3_1 kg3_2 kg3_3 kg3_4 kg3_5 kg3_6 kg3_7
        refine heavy_want (by rfl) (fun K' hK' => ?_)
        go_simp
        refine (fin_any _ _ _).mono ?_
        rintro e U3 ⟨rfl, hb⟩
        refine hK' _ _ hb ?_
        clear hK' K'
        have hq := thru (Below.refl _ U2) hb
        clear hb
        have g4_0 := later hq g3_0
        have g4_1 := later hq g3_1
        have g4_2 := later hq g3_2
        have g4_3 := later hq g3_3
        have g4_4 := later hq g3_4
        have g4_5 := later hq g3_5
        have g4_6 := later hq g3_6
        have g4_7 := later hq g3_7
        have z4_0 : w.heap.size < U3.heap.size := Nat.lt_of_lt_of_le z3_0 hq.size
        have z4_1 : w.heap.size + 1 < U3.heap.size := Nat.lt_of_lt_of_le z3_1 hq.size
        replace hB := thru hB hq
        clear hq g3_0 g3_1 g3_2 g3_3 g3_4 g3_5 g3_6 g3_7 z3_0 z3_1
        try simp only [Act.put, List.setIfInBounds_toArray, List.set_cons_zero, List.set_cons_succ]
        rw [wpSched]
        simp only [pick, List.map_nil, Array.getD_eq_getD_getElem?, List.getElem?_toArray, List.getElem?_cons_succ, List.getElem?_cons_zero, Option.getD_some]
        refine wpQuiet_nil ?_
        refine heavy_want (by rfl) (fun K' hK' => ?_)
        go_simp
        refine (fin_any _ _ _).mono ?_
        rintro e U4 ⟨rfl, hb⟩
        refine hK' _ _ hb ?_
        clear hK' K'
        have hq := thru (Below.refl _ U3) hb
        clear hb
        have g5_0 := later hq g4_0
        have g5_1 := later hq g4_1
        have g5_2 := later hq g4_2
        have g5_3 := later hq g4_3
        have g5_4 := later hq g4_4
        have g5_5 := later hq g4_5
        have g5_6 := later hq g4_6
        have g5_7 := later hq g4_7
        have z5_0 : w.heap.size < U4.heap.size := Nat.lt_of_lt_of_le z4_0 hq.size
        have z5_1 : w.heap.size + 1 < U4.heap.size := Nat.lt_of_lt_of_le z4_1 hq.size
        replace hB := thru hB hq
        clear hq g4_0 g4_1 g4_2 g4_3 g4_4 g4_5 g4_6 g4_7 z4_0 z4_1
        try simp only [Act.put, List.setIfInBounds_toArray, List.set_cons_zero, List.set_cons_succ]
        rw [wpSched]
        simp only [pick, List.map_cons, List.map_nil, Array.getD_eq_getD_getElem?, List.getElem?_toArray, List.getElem?_cons_succ, List.getElem?_cons_zero, Option.getD_some]
        repeat (first | go_big_quiet_step (fail) | quiet_step (fail))
        refine wpQuiet_nil ?_
        cases q2 with
        | true =>
          have e4 := HE4.out
          have e5 := HE5.out
          go_wp2_with fail
          refine wp_region_sched (fun W => W.cell? ⟨w.heap.size, 0, none⟩ = some (.int .u64 (num x)) ∧ W.cell? ⟨w.heap.size, 1, none⟩ = some (.int .i64 n) ∧ w.heap.size < W.heap.size ∧ w.heap.size + 1 < W.heap.size ∧ Below w.heap.size w W) (.two [0, 1, 4, 5, 9, 10, 11] 2 (.two [] 3 (.one [] 6 (.one [] 7 (.one [8, 12, 13] 14 (.done [15, 16])))) 6 (.one [] 3 (.one [] 7 (.one [8, 12, 13] 14 (.done [15, 16]))))) 6 (.one [] 2 (.one [] 3 (.one [] 7 (.one [8, 12, 13] 14 (.done [15, 16])))))) (by kernel_rfl) (by kernel_rfl) (fun _ _ _ _ _ h => h) ⟨(by go_simp), (by go_simp), (by simp <;> omega), (by simp <;> omega), hB.drew⟩ ?_
          clear hB g5_0 g5_1 z5_0 z5_1
          rintro T ⟨g6_0, g6_1, z6_0, z6_1, hB⟩
          rw [wpSched]
          simp only [pick, List.map_cons, List.map_nil, Array.getD_eq_getD_getElem?, List.getElem?_toArray, List.getElem?_cons_succ, List.getElem?_cons_zero, Option.getD_some]
          have kg6_0 := plusW_cell g6_0
          have kg6_1 := plusW_cell g6_1
          repeat (first | go_big_quiet_step (fail) | quiet_step (fail))
          refine wpQuiet_nil ?_
          clear kg6_0 kg6_1
          refine ⟨?_, ?_⟩
          · refine heavy_want (by rfl) (fun K' hK' => ?_)
            go_simp
            refine hK' _ _ (al (Below.refl _ _) _) ?_
            clear hK' K'
            have hq := al (Below.refl _ T) (.cells #[.int .u8 (u.toNat : Int)] 5)
            have fr0 : (T.alloc (.cells #[.int .u8 (u.toNat : Int)] 5)).cell? ⟨T.heap.size, 0, none⟩ = some (.int .u8 (u.toNat : Int)) := by go_simp
            have frz : T.heap.size < (T.alloc (.cells #[.int .u8 (u.toNat : Int)] 5)).heap.size := by simp
            have hbtu := bts_one T u 5 (0, 0)
            obtain ⟨T_2, hw2⟩ : ∃ X : World, T.alloc (.cells #[.int .u8 (u.toNat : Int)] 5) = X := ⟨_, rfl⟩
            rw [hw2] at hq frz fr0 hbtu
            rw [hw2]
            clear hw2
            have g7_0 := later hq g6_0
            have g7_1 := later hq g6_1
            have z7_0 : w.heap.size < T_2.heap.size := Nat.lt_of_lt_of_le z6_0 hq.size
            have z7_1 : w.heap.size + 1 < T_2.heap.size := Nat.lt_of_lt_of_le z6_1 hq.size
            replace hB := thru hB hq
            clear hq g6_0 g6_1 z6_0 z6_1
            have n7_0 := fr0
            have m7 := frz
            clear frz fr0
            try simp only [Act.put, List.setIfInBounds_toArray, List.set_cons_zero, List.set_cons_succ]
            rw [wpSched]
            simp only [pick, List.map_nil, Array.getD_eq_getD_getElem?, List.getElem?_toArray, List.getElem?_cons_succ, List.getElem?_cons_zero, Option.getD_some]
            refine wpQuiet_nil ?_
            refine ⟨?_, ?_⟩
            · refine heavy_want (by rfl) (fun K' hK' => ?_)
              go_simp
              refine (add_any x n _ [u] 1 _ HN.out (by simp) hbtu).mono ?_
              rintro e T2_3 ⟨rfl, hb⟩
              refine hK' _ _ hb ?_
              clear hK' K'
              have hq := thru (Below.refl _ T_2) hb
              clear hb
              have g8_0 := later hq g7_0
              have g8_1 := later hq g7_1
              have g8_2 := later hq n7_0
              have z8_0 : w.heap.size < T2_3.heap.size := Nat.lt_of_lt_of_le z7_0 hq.size
              have z8_1 : w.heap.size + 1 < T2_3.heap.size := Nat.lt_of_lt_of_le z7_1 hq.size
              have z8_2 : T.heap.size < T2_3.heap.size := Nat.lt_of_lt_of_le m7 hq.size
              replace hB := thru hB hq
              replace hbtu := hbtu.later hq
              clear hq g7_0 g7_1 n7_0 z7_0 z7_1 m7
              try simp only [Act.put, List.setIfInBounds_toArray, List.set_cons_zero, List.set_cons_succ]
              rw [wpSched]
              simp only [pick, List.map_nil, Array.getD_eq_getD_getElem?, List.getElem?_toArray, List.getElem?_cons_succ, List.getElem?_cons_zero, Option.getD_some]
              refine wpQuiet_nil ?_
              refine heavy_want (by rfl) (fun K' hK' => ?_)
              go_simp
              refine hK' _ _ (al (Below.refl _ _) _) ?_
              clear hK' K'
              have hq := al (Below.refl _ T2_3) (.cells #[.int .u8 (v.toNat : Int)] 5)
              have fr0 : (T2_3.alloc (.cells #[.int .u8 (v.toNat : Int)] 5)).cell? ⟨T2_3.heap.size, 0, none⟩ = some (.int .u8 (v.toNat : Int)) := by go_simp
              have frz : T2_3.heap.size < (T2_3.alloc (.cells #[.int .u8 (v.toNat : Int)] 5)).heap.size := by simp
              have hbtv := bts_one T2_3 v 5 (0, 0)
              obtain ⟨T23_6, hw2⟩ : ∃ X : World, T2_3.alloc (.cells #[.int .u8 (v.toNat : Int)] 5) = X := ⟨_, rfl⟩
              rw [hw2] at hq frz fr0 hbtv
              rw [hw2]
              clear hw2
              have g9_0 := later hq g8_0
              have g9_1 := later hq g8_1
              have g9_2 := later hq g8_2
              have z9_0 : w.heap.size < T23_6.heap.size := Nat.lt_of_lt_of_le z8_0 hq.size
              have z9_1 : w.heap.size + 1 < T23_6.heap.size := Nat.lt_of_lt_of_le z8_1 hq.size
              have z9_2 : T.heap.size < T23_6.heap.size := Nat.lt_of_lt_of_le z8_2 hq.size
              replace hB := thru hB hq
              replace hbtu := hbtu.later hq
              clear hq g8_0 g8_1 g8_2 z8_0 z8_1 z8_2
              have n9_0 := fr0
              have m9 := frz
              clear frz fr0
              try simp only [Act.put, List.setIfInBounds_toArray, List.set_cons_zero, List.set_cons_succ]
              rw [wpSched]
              simp only [pick, List.map_nil, Array.getD_eq_getD_getElem?, List.getElem?_toArray, List.getElem?_cons_succ, List.getElem?_cons_zero, Option.getD_some]
              refine wpQuiet_nil ?_
              refine heavy_want (by rfl) (fun K' hK' => ?_)
              go_simp
              refine (add_any x n _ [v] 1 _ HN.out (by simp) hbtv).mono ?_
              rintro e T236_7 ⟨rfl, hb⟩
              refine hK' _ _ hb ?_
              clear hK' K'
              have hq := thru (Below.refl _ T23_6) hb
              clear hb
              have g10_0 := later hq g9_0
              have g10_1 := later hq g9_1
              have g10_2 := later hq g9_2
              have g10_3 := later hq n9_0
              have z10_0 : w.heap.size < T236_7.heap.size := Nat.lt_of_lt_of_le z9_0 hq.size
              have z10_1 : w.heap.size + 1 < T236_7.heap.size := Nat.lt_of_lt_of_le z9_1 hq.size
              have z10_2 : T.heap.size < T236_7.heap.size := Nat.lt_of_lt_of_le z9_2 hq.size
              have z10_3 : T2_3.heap.size < T236_7.heap.size := Nat.lt_of_lt_of_le m9 hq.size
              replace hB := thru hB hq
              replace hbtu := hbtu.later hq
              replace hbtv := hbtv.later hq
              clear hq g9_0 g9_1 g9_2 n9_0 z9_0 z9_1 z9_2 m9
              try simp only [Act.put, List.setIfInBounds_toArray, List.set_cons_zero, List.set_cons_succ]
              rw [wpSched]
              simp only [pick, List.map_cons, List.map_nil, Array.getD_eq_getD_getElem?, List.getElem?_toArray, List.getElem?_cons_succ, List.getElem?_cons_zero, Option.getD_some]
              repeat (first | go_big_quiet_step (fail) | quiet_step (fail))
              refine wpQuiet_nil ?_
              refine heavy_want (by rfl) (fun K' hK' => ?_)
              go_simp
              refine (awake_any _).mono ?_
              rintro e T2367_14 ⟨rfl, hb⟩
              refine hK' _ _ hb ?_
              clear hK' K'
              have hq := thru (Below.refl _ T236_7) hb
              clear hb
              have g11_0 := later hq g10_0
              have g11_1 := later hq g10_1
              have g11_2 := later hq g10_2
              have g11_3 := later hq g10_3
              have z11_0 : w.heap.size < T2367_14.heap.size := Nat.lt_of_lt_of_le z10_0 hq.size
              have z11_1 : w.heap.size + 1 < T2367_14.heap.size := Nat.lt_of_lt_of_le z10_1 hq.size
              have z11_2 : T.heap.size < T2367_14.heap.size := Nat.lt_of_lt_of_le z10_2 hq.size
              have z11_3 : T2_3.heap.size < T2367_14.heap.size := Nat.lt_of_lt_of_le z10_3 hq.size
              replace hB := thru hB hq
              replace hbtu := hbtu.later hq
              replace hbtv := hbtv.later hq
              clear hq g10_0 g10_1 g10_2 g10_3 z10_0 z10_1 z10_2 z10_3
              try simp only [Act.put, List.setIfInBounds_toArray, List.set_cons_zero, List.set_cons_succ]
              rw [wpSched]
              simp only [pick, List.map_cons, List.map_nil, Array.getD_eq_getD_getElem?, List.getElem?_toArray, List.getElem?_cons_succ, List.getElem?_cons_zero, Option.getD_some]
              repeat (first | go_big_quiet_step (fail) | quiet_step (fail))
              refine wpQuiet_nil ?_
              go_wp2_with fail
              go_ret
              exact ⟨rfl, hB⟩
            · refine heavy_want (by rfl) (fun K' hK' => ?_)
              go_simp
              refine hK' _ _ (al (Below.refl _ _) _) ?_
              clear hK' K'
              have hq := al (Below.refl _ T_2) (.cells #[.int .u8 (v.toNat : Int)] 5)
              have fr0 : (T_2.alloc (.cells #[.int .u8 (v.toNat : Int)] 5)).cell? ⟨T_2.heap.size, 0, none⟩ = some (.int .u8 (v.toNat : Int)) := by go_simp
              have frz : T_2.heap.size < (T_2.alloc (.cells #[.int .u8 (v.toNat : Int)] 5)).heap.size := by simp
              have hbtv := bts_one T_2 v 5 (0, 0)
              obtain ⟨T2_6, hw2⟩ : ∃ X : World, T_2.alloc (.cells #[.int .u8 (v.toNat : Int)] 5) = X := ⟨_, rfl⟩
              rw [hw2] at hq frz fr0 hbtv
              rw [hw2]
              clear hw2
              have g8_0 := later hq g7_0
              have g8_1 := later hq g7_1
              have g8_2 := later hq n7_0
              have z8_0 : w.heap.size < T2_6.heap.size := Nat.lt_of_lt_of_le z7_0 hq.size
              have z8_1 : w.heap.size + 1 < T2_6.heap.size := Nat.lt_of_lt_of_le z7_1 hq.size
              have z8_2 : T.heap.size < T2_6.heap.size := Nat.lt_of_lt_of_le m7 hq.size
              replace hB := thru hB hq
              replace hbtu := hbtu.later hq
              clear hq g7_0 g7_1 n7_0 z7_0 z7_1 m7
              have n8_0 := fr0
              have m8 := frz
              clear frz fr0
              try simp only [Act.put, List.setIfInBounds_toArray, List.set_cons_zero, List.set_cons_succ]
              rw [wpSched]
              simp only [pick, List.map_nil, Array.getD_eq_getD_getElem?, List.getElem?_toArray, List.getElem?_cons_succ, List.getElem?_cons_zero, Option.getD_some]
              refine wpQuiet_nil ?_
              refine heavy_want (by rfl) (fun K' hK' => ?_)
              go_simp
              refine (add_any x n _ [u] 1 _ HN.out (by simp) hbtu).mono ?_
              rintro e T26_3 ⟨rfl, hb⟩
              refine hK' _ _ hb ?_
              clear hK' K'
              have hq := thru (Below.refl _ T2_6) hb
              clear hb
              have g9_0 := later hq g8_0
              have g9_1 := later hq g8_1
              have g9_2 := later hq g8_2
              have g9_3 := later hq n8_0
              have z9_0 : w.heap.size < T26_3.heap.size := Nat.lt_of_lt_of_le z8_0 hq.size
              have z9_1 : w.heap.size + 1 < T26_3.heap.size := Nat.lt_of_lt_of_le z8_1 hq.size
              have z9_2 : T.heap.size < T26_3.heap.size := Nat.lt_of_lt_of_le z8_2 hq.size
              have z9_3 : T_2.heap.size < T26_3.heap.size := Nat.lt_of_lt_of_le m8 hq.size
              replace hB := thru hB hq
              replace hbtu := hbtu.later hq
              replace hbtv := hbtv.later hq
              clear hq g8_0 g8_1 g8_2 n8_0 z8_0 z8_1 z8_2 m8
              try simp only [Act.put, List.setIfInBounds_toArray, List.set_cons_zero, List.set_cons_succ]
              rw [wpSched]
              simp only [pick, List.map_nil, Array.getD_eq_getD_getElem?, List.getElem?_toArray, List.getElem?_cons_succ, List.getElem?_cons_zero, Option.getD_some]
              refine wpQuiet_nil ?_
              refine heavy_want (by rfl) (fun K' hK' => ?_)
              go_simp
              refine (add_any x n _ [v] 1 _ HN.out (by simp) hbtv).mono ?_
              rintro e T236_7 ⟨rfl, hb⟩
              refine hK' _ _ hb ?_
              clear hK' K'
              have hq := thru (Below.refl _ T26_3) hb
              clear hb
              have g10_0 := later hq g9_0
              have g10_1 := later hq g9_1
              have g10_2 := later hq g9_2
              have g10_3 := later hq g9_3
              have z10_0 : w.heap.size < T236_7.heap.size := Nat.lt_of_lt_of_le z9_0 hq.size
              have z10_1 : w.heap.size + 1 < T236_7.heap.size := Nat.lt_of_lt_of_le z9_1 hq.size
              have z10_2 : T.heap.size < T236_7.heap.size := Nat.lt_of_lt_of_le z9_2 hq.size
              have z10_3 : T_2.heap.size < T236_7.heap.size := Nat.lt_of_lt_of_le z9_3 hq.size
              replace hB := thru hB hq
              replace hbtu := hbtu.later hq
              replace hbtv := hbtv.later hq
              clear hq g9_0 g9_1 g9_2 g9_3 z9_0 z9_1 z9_2 z9_3
              try simp only [Act.put, List.setIfInBounds_toArray, List.set_cons_zero, List.set_cons_succ]
              rw [wpSched]
              simp only [pick, List.map_cons, List.map_nil, Array.getD_eq_getD_getElem?, List.getElem?_toArray, List.getElem?_cons_succ, List.getElem?_cons_zero, Option.getD_some]
              repeat (first | go_big_quiet_step (fail) | quiet_step (fail))
              refine wpQuiet_nil ?_
              refine heavy_want (by rfl) (fun K' hK' => ?_)
              go_simp
              refine (awake_any _).mono ?_
              rintro e T2367_14 ⟨rfl, hb⟩
              refine hK' _ _ hb ?_
              clear hK' K'
              have hq := thru (Below.refl _ T236_7) hb
              clear hb
              have g11_0 := later hq g10_0
              have g11_1 := later hq g10_1
              have g11_2 := later hq g10_2
              have g11_3 := later hq g10_3
              have z11_0 : w.heap.size < T2367_14.heap.size := Nat.lt_of_lt_of_le z10_0 hq.size
              have z11_1 : w.heap.size + 1 < T2367_14.heap.size := Nat.lt_of_lt_of_le z10_1 hq.size
              have z11_2 : T.heap.size < T2367_14.heap.size := Nat.lt_of_lt_of_le z10_2 hq.size
              have z11_3 : T_2.heap.size < T2367_14.heap.size := Nat.lt_of_lt_of_le z10_3 hq.size
              replace hB := thru hB hq
              replace hbtu := hbtu.later hq
              replace hbtv := hbtv.later hq
              clear hq g10_0 g10_1 g10_2 g10_3 z10_0 z10_1 z10_2 z10_3
              try simp only [Act.put, List.setIfInBounds_toArray, List.set_cons_zero, List.set_cons_succ]
              rw [wpSched]
              simp only [pick, List.map_cons, List.map_nil, Array.getD_eq_getD_getElem?, List.getElem?_toArray, List.getElem?_cons_succ, List.getElem?_cons_zero, Option.getD_some]
              repeat (first | go_big_quiet_step (fail) | quiet_step (fail))
              refine wpQuiet_nil ?_
              go_wp2_with fail
              go_ret
              exact ⟨rfl, hB⟩
          · refine heavy_want (by rfl) (fun K' hK' => ?_)
            go_simp
            refine hK' _ _ (al (Below.refl _ _) _) ?_
            clear hK' K'
            have hq := al (Below.refl _ T) (.cells #[.int .u8 (v.toNat : Int)] 5)
            have fr0 : (T.alloc (.cells #[.int .u8 (v.toNat : Int)] 5)).cell? ⟨T.heap.size, 0, none⟩ = some (.int .u8 (v.toNat : Int)) := by go_simp
            have frz : T.heap.size < (T.alloc (.cells #[.int .u8 (v.toNat : Int)] 5)).heap.size := by simp
            have hbtv := bts_one T v 5 (0, 0)
            obtain ⟨T_6, hw2⟩ : ∃ X : World, T.alloc (.cells #[.int .u8 (v.toNat : Int)] 5) = X := ⟨_, rfl⟩
            rw [hw2] at hq frz fr0 hbtv
            rw [hw2]
            clear hw2
            have g7_0 := later hq g6_0
            have g7_1 := later hq g6_1
            have z7_0 : w.heap.size < T_6.heap.size := Nat.lt_of_lt_of_le z6_0 hq.size
            have z7_1 : w.heap.size + 1 < T_6.heap.size := Nat.lt_of_lt_of_le z6_1 hq.size
            replace hB := thru hB hq
            clear hq g6_0 g6_1 z6_0 z6_1
            have n7_0 := fr0
            have m7 := frz
            clear frz fr0
            try simp only [Act.put, List.setIfInBounds_toArray, List.set_cons_zero, List.set_cons_succ]
            rw [wpSched]
            simp only [pick, List.map_nil, Array.getD_eq_getD_getElem?, List.getElem?_toArray, List.getElem?_cons_succ, List.getElem?_cons_zero, Option.getD_some]
            refine wpQuiet_nil ?_
            refine heavy_want (by rfl) (fun K' hK' => ?_)
            go_simp
            refine hK' _ _ (al (Below.refl _ _) _) ?_
            clear hK' K'
            have hq := al (Below.refl _ T_6) (.cells #[.int .u8 (u.toNat : Int)] 5)
            have fr0 : (T_6.alloc (.cells #[.int .u8 (u.toNat : Int)] 5)).cell? ⟨T_6.heap.size, 0, none⟩ = some (.int .u8 (u.toNat : Int)) := by go_simp
            have frz : T_6.heap.size < (T_6.alloc (.cells #[.int .u8 (u.toNat : Int)] 5)).heap.size := by simp
            have hbtu := bts_one T_6 u 5 (0, 0)
            obtain ⟨T6_2, hw2⟩ : ∃ X : World, T_6.alloc (.cells #[.int .u8 (u.toNat : Int)] 5) = X := ⟨_, rfl⟩
            rw [hw2] at hq frz fr0 hbtu
            rw [hw2]
            clear hw2
            have g8_0 := later hq g7_0
            have g8_1 := later hq g7_1
            have g8_2 := later hq n7_0
            have z8_0 : w.heap.size < T6_2.heap.size := Nat.lt_of_lt_of_le z7_0 hq.size
            have z8_1 : w.heap.size + 1 < T6_2.heap.size := Nat.lt_of_lt_of_le z7_1 hq.size
            have z8_2 : T.heap.size < T6_2.heap.size := Nat.lt_of_lt_of_le m7 hq.size
            replace hB := thru hB hq
            replace hbtv := hbtv.later hq
            clear hq g7_0 g7_1 n7_0 z7_0 z7_1 m7
            have n8_0 := fr0
            have m8 := frz
            clear frz fr0
            try simp only [Act.put, List.setIfInBounds_toArray, List.set_cons_zero, List.set_cons_succ]
            rw [wpSched]
            simp only [pick, List.map_nil, Array.getD_eq_getD_getElem?, List.getElem?_toArray, List.getElem?_cons_succ, List.getElem?_cons_zero, Option.getD_some]
            refine wpQuiet_nil ?_
            refine heavy_want (by rfl) (fun K' hK' => ?_)
            go_simp
            refine (add_any x n _ [u] 1 _ HN.out (by simp) hbtu).mono ?_
            rintro e T26_3 ⟨rfl, hb⟩
            refine hK' _ _ hb ?_
            clear hK' K'
            have hq := thru (Below.refl _ T6_2) hb
            clear hb
            have g9_0 := later hq g8_0
            have g9_1 := later hq g8_1
            have g9_2 := later hq g8_2
            have g9_3 := later hq n8_0
            have z9_0 : w.heap.size < T26_3.heap.size := Nat.lt_of_lt_of_le z8_0 hq.size
            have z9_1 : w.heap.size + 1 < T26_3.heap.size := Nat.lt_of_lt_of_le z8_1 hq.size
            have z9_2 : T.heap.size < T26_3.heap.size := Nat.lt_of_lt_of_le z8_2 hq.size
            have z9_3 : T_6.heap.size < T26_3.heap.size := Nat.lt_of_lt_of_le m8 hq.size
            replace hB := thru hB hq
            replace hbtv := hbtv.later hq
            replace hbtu := hbtu.later hq
            clear hq g8_0 g8_1 g8_2 n8_0 z8_0 z8_1 z8_2 m8
            try simp only [Act.put, List.setIfInBounds_toArray, List.set_cons_zero, List.set_cons_succ]
            rw [wpSched]
            simp only [pick, List.map_nil, Array.getD_eq_getD_getElem?, List.getElem?_toArray, List.getElem?_cons_succ, List.getElem?_cons_zero, Option.getD_some]
            refine wpQuiet_nil ?_
            refine heavy_want (by rfl) (fun K' hK' => ?_)
            go_simp
            refine (add_any x n _ [v] 1 _ HN.out (by simp) hbtv).mono ?_
            rintro e T236_7 ⟨rfl, hb⟩
            refine hK' _ _ hb ?_
            clear hK' K'
            have hq := thru (Below.refl _ T26_3) hb
            clear hb
            have g10_0 := later hq g9_0
            have g10_1 := later hq g9_1
            have g10_2 := later hq g9_2
            have g10_3 := later hq g9_3
            have z10_0 : w.heap.size < T236_7.heap.size := Nat.lt_of_lt_of_le z9_0 hq.size
            have z10_1 : w.heap.size + 1 < T236_7.heap.size := Nat.lt_of_lt_of_le z9_1 hq.size
            have z10_2 : T.heap.size < T236_7.heap.size := Nat.lt_of_lt_of_le z9_2 hq.size
            have z10_3 : T_6.heap.size < T236_7.heap.size := Nat.lt_of_lt_of_le z9_3 hq.size
            replace hB := thru hB hq
            replace hbtv := hbtv.later hq
            replace hbtu := hbtu.later hq
            clear hq g9_0 g9_1 g9_2 g9_3 z9_0 z9_1 z9_2 z9_3
            try simp only [Act.put, List.setIfInBounds_toArray, List.set_cons_zero, List.set_cons_succ]
            rw [wpSched]
            simp only [pick, List.map_cons, List.map_nil, Array.getD_eq_getD_getElem?, List.getElem?_toArray, List.getElem?_cons_succ, List.getElem?_cons_zero, Option.getD_some]
            repeat (first | go_big_quiet_step (fail) | quiet_step (fail))
            refine wpQuiet_nil ?_
            refine heavy_want (by rfl) (fun K' hK' => ?_)
            go_simp
            refine (awake_any _).mono ?_
            rintro e T2367_14 ⟨rfl, hb⟩
            refine hK' _ _ hb ?_
            clear hK' K'
            have hq := thru (Below.refl _ T236_7) hb
            clear hb
            have g11_0 := later hq g10_0
            have g11_1 := later hq g10_1
            have g11_2 := later hq g10_2
            have g11_3 := later hq g10_3
            have z11_0 : w.heap.size < T2367_14.heap.size := Nat.lt_of_lt_of_le z10_0 hq.size
            have z11_1 : w.heap.size + 1 < T2367_14.heap.size := Nat.lt_of_lt_of_le z10_1 hq.size
            have z11_2 : T.heap.size < T2367_14.heap.size := Nat.lt_of_lt_of_le z10_2 hq.size
            have z11_3 : T_6.heap.size < T2367_14.heap.size := Nat.lt_of_lt_of_le z10_3 hq.size
            replace hB := thru hB hq
            replace hbtv := hbtv.later hq
            replace hbtu := hbtu.later hq
            clear hq g10_0 g10_1 g10_2 g10_3 z10_0 z10_1 z10_2 z10_3
            try simp only [Act.put, List.setIfInBounds_toArray, List.set_cons_zero, List.set_cons_succ]
            rw [wpSched]
            simp only [pick, List.map_cons, List.map_nil, Array.getD_eq_getD_getElem?, List.getElem?_toArray, List.getElem?_cons_succ, List.getElem?_cons_zero, Option.getD_some]
            repeat (first | go_big_quiet_step (fail) | quiet_step (fail))
            refine wpQuiet_nil ?_
            go_wp2_with fail
            go_ret
            exact ⟨rfl, hB⟩
        | false =>
          have e4 := HE4.out
          have e5 := HE5.out
          go_wp2_with fail
          refine wp_region_sched (fun W => W.cell? ⟨w.heap.size, 0, none⟩ = some (.int .u64 (num x)) ∧ W.cell? ⟨w.heap.size, 1, none⟩ = some (.int .i64 n) ∧ w.heap.size < W.heap.size ∧ w.heap.size + 1 < W.heap.size ∧ Below w.heap.size w W) (.two [0, 1, 4, 5, 9, 10, 11] 2 (.two [] 3 (.one [] 6 (.one [] 7 (.one [8, 12, 13] 14 (.done [15, 16])))) 6 (.one [] 3 (.one [] 7 (.one [8, 12, 13] 14 (.done [15, 16]))))) 6 (.one [] 2 (.one [] 3 (.one [] 7 (.one [8, 12, 13] 14 (.done [15, 16])))))) (by kernel_rfl) (by kernel_rfl) (fun _ _ _ _ _ h => h) ⟨(by go_simp), (by go_simp), (by simp <;> omega), (by simp <;> omega), hB.drew⟩ ?_
          clear hB g5_0 g5_1 z5_0 z5_1
          rintro T ⟨g6_0, g6_1, z6_0, z6_1, hB⟩
          rw [wpSched]
          simp only [pick, List.map_cons, List.map_nil, Array.getD_eq_getD_getElem?, List.getElem?_toArray, List.getElem?_cons_succ, List.getElem?_cons_zero, Option.getD_some]
          have kg6_0 := plusW_cell g6_0
          have kg6_1 := plusW_cell g6_1
          repeat (first | go_big_quiet_step (fail) | quiet_step (fail))
          refine wpQuiet_nil ?_
          clear kg6_0 kg6_1
          refine ⟨?_, ?_⟩
          · refine heavy_want (by rfl) (fun K' hK' => ?_)
            go_simp
            refine hK' _ _ (al (Below.refl _ _) _) ?_
            clear hK' K'
            have hq := al (Below.refl _ T) (.cells #[.int .u8 (u.toNat : Int)] 5)
            have fr0 : (T.alloc (.cells #[.int .u8 (u.toNat : Int)] 5)).cell? ⟨T.heap.size, 0, none⟩ = some (.int .u8 (u.toNat : Int)) := by go_simp
            have frz : T.heap.size < (T.alloc (.cells #[.int .u8 (u.toNat : Int)] 5)).heap.size := by simp
            have hbtu := bts_one T u 5 (0, 0)
            obtain ⟨T_2, hw2⟩ : ∃ X : World, T.alloc (.cells #[.int .u8 (u.toNat : Int)] 5) = X := ⟨_, rfl⟩
            rw [hw2] at hq frz fr0 hbtu
            rw [hw2]
            clear hw2
            have g7_0 := later hq g6_0
            have g7_1 := later hq g6_1
            have z7_0 : w.heap.size < T_2.heap.size := Nat.lt_of_lt_of_le z6_0 hq.size
            have z7_1 : w.heap.size + 1 < T_2.heap.size := Nat.lt_of_lt_of_le z6_1 hq.size
            replace hB := thru hB hq
            clear hq g6_0 g6_1 z6_0 z6_1
            have n7_0 := fr0
            have m7 := frz
            clear frz fr0
            try simp only [Act.put, List.setIfInBounds_toArray, List.set_cons_zero, List.set_cons_succ]
            rw [wpSched]
            simp only [pick, List.map_nil, Array.getD_eq_getD_getElem?, List.getElem?_toArray, List.getElem?_cons_succ, List.getElem?_cons_zero, Option.getD_some]
            refine wpQuiet_nil ?_
            refine ⟨?_, ?_⟩
            · refine heavy_want (by rfl) (fun K' hK' => ?_)
              go_simp
              refine (add_any x n _ [u] 1 _ HN.out (by simp) hbtu).mono ?_
              rintro e T2_3 ⟨rfl, hb⟩
              refine hK' _ _ hb ?_
              clear hK' K'
              have hq := thru (Below.refl _ T_2) hb
              clear hb
              have g8_0 := later hq g7_0
              have g8_1 := later hq g7_1
              have g8_2 := later hq n7_0
              have z8_0 : w.heap.size < T2_3.heap.size := Nat.lt_of_lt_of_le z7_0 hq.size
              have z8_1 : w.heap.size + 1 < T2_3.heap.size := Nat.lt_of_lt_of_le z7_1 hq.size
              have z8_2 : T.heap.size < T2_3.heap.size := Nat.lt_of_lt_of_le m7 hq.size
              replace hB := thru hB hq
              replace hbtu := hbtu.later hq
              clear hq g7_0 g7_1 n7_0 z7_0 z7_1 m7
              try simp only [Act.put, List.setIfInBounds_toArray, List.set_cons_zero, List.set_cons_succ]
              rw [wpSched]
              simp only [pick, List.map_nil, Array.getD_eq_getD_getElem?, List.getElem?_toArray, List.getElem?_cons_succ, List.getElem?_cons_zero, Option.getD_some]
              refine wpQuiet_nil ?_
              refine heavy_want (by rfl) (fun K' hK' => ?_)
              go_simp
              refine hK' _ _ (al (Below.refl _ _) _) ?_
              clear hK' K'
              have hq := al (Below.refl _ T2_3) (.cells #[.int .u8 (v.toNat : Int)] 5)
              have fr0 : (T2_3.alloc (.cells #[.int .u8 (v.toNat : Int)] 5)).cell? ⟨T2_3.heap.size, 0, none⟩ = some (.int .u8 (v.toNat : Int)) := by go_simp
              have frz : T2_3.heap.size < (T2_3.alloc (.cells #[.int .u8 (v.toNat : Int)] 5)).heap.size := by simp
              have hbtv := bts_one T2_3 v 5 (0, 0)
              obtain ⟨T23_6, hw2⟩ : ∃ X : World, T2_3.alloc (.cells #[.int .u8 (v.toNat : Int)] 5) = X := ⟨_, rfl⟩
              rw [hw2] at hq frz fr0 hbtv
              rw [hw2]
              clear hw2
              have g9_0 := later hq g8_0
              have g9_1 := later hq g8_1
              have g9_2 := later hq g8_2
              have z9_0 : w.heap.size < T23_6.heap.size := Nat.lt_of_lt_of_le z8_0 hq.size
              have z9_1 : w.heap.size + 1 < T23_6.heap.size := Nat.lt_of_lt_of_le z8_1 hq.size
              have z9_2 : T.heap.size < T23_6.heap.size := Nat.lt_of_lt_of_le z8_2 hq.size
              replace hB := thru hB hq
              replace hbtu := hbtu.later hq
              clear hq g8_0 g8_1 g8_2 z8_0 z8_1 z8_2
              have n9_0 := fr0
              have m9 := frz
              clear frz fr0
              try simp only [Act.put, List.setIfInBounds_toArray, List.set_cons_zero, List.set_cons_succ]
              rw [wpSched]
              simp only [pick, List.map_nil, Array.getD_eq_getD_getElem?, List.getElem?_toArray, List.getElem?_cons_succ, List.getElem?_cons_zero, Option.getD_some]
              refine wpQuiet_nil ?_
              refine heavy_want (by rfl) (fun K' hK' => ?_)
              go_simp
              refine (add_any x n _ [v] 1 _ HN.out (by simp) hbtv).mono ?_
              rintro e T236_7 ⟨rfl, hb⟩
              refine hK' _ _ hb ?_
              clear hK' K'
              have hq := thru (Below.refl _ T23_6) hb
              clear hb
              have g10_0 := later hq g9_0
              have g10_1 := later hq g9_1
              have g10_2 := later hq g9_2
              have g10_3 := later hq n9_0
              have z10_0 : w.heap.size < T236_7.heap.size := Nat.lt_of_lt_of_le z9_0 hq.size
              have z10_1 : w.heap.size + 1 < T236_7.heap.size := Nat.lt_of_lt_of_le z9_1 hq.size
              have z10_2 : T.heap.size < T236_7.heap.size := Nat.lt_of_lt_of_le z9_2 hq.size
              have z10_3 : T2_3.heap.size < T236_7.heap.size := Nat.lt_of_lt_of_le m9 hq.size
              replace hB := thru hB hq
              replace hbtu := hbtu.later hq
              replace hbtv := hbtv.later hq
              clear hq g9_0 g9_1 g9_2 n9_0 z9_0 z9_1 z9_2 m9
              try simp only [Act.put, List.setIfInBounds_toArray, List.set_cons_zero, List.set_cons_succ]
              rw [wpSched]
              simp only [pick, List.map_cons, List.map_nil, Array.getD_eq_getD_getElem?, List.getElem?_toArray, List.getElem?_cons_succ, List.getElem?_cons_zero, Option.getD_some]
              repeat (first | go_big_quiet_step (fail) | quiet_step (fail))
              refine wpQuiet_nil ?_
              refine heavy_want (by rfl) (fun K' hK' => ?_)
              go_simp
              refine (awake_any _).mono ?_
              rintro e T2367_14 ⟨rfl, hb⟩
              refine hK' _ _ hb ?_
              clear hK' K'
              have hq := thru (Below.refl _ T236_7) hb
              clear hb
              have g11_0 := later hq g10_0
              have g11_1 := later hq g10_1
              have g11_2 := later hq g10_2
              have g11_3 := later hq g10_3
              have z11_0 : w.heap.size < T2367_14.heap.size := Nat.lt_of_lt_of_le z10_0 hq.size
              have z11_1 : w.heap.size + 1 < T2367_14.heap.size := Nat.lt_of_lt_of_le z10_1 hq.size
              have z11_2 : T.heap.size < T2367_14.heap.size := Nat.lt_of_lt_of_le z10_2 hq.size
              have z11_3 : T2_3.heap.size < T2367_14.heap.size := Nat.lt_of_lt_of_le z10_3 hq.size
              replace hB := thru hB hq
              replace hbtu := hbtu.later hq
              replace hbtv := hbtv.later hq
              clear hq g10_0 g10_1 g10_2 g10_3 z10_0 z10_1 z10_2 z10_3
              try simp only [Act.put, List.setIfInBounds_toArray, List.set_cons_zero, List.set_cons_succ]
              rw [wpSched]
              simp only [pick, List.map_cons, List.map_nil, Array.getD_eq_getD_getElem?, List.getElem?_toArray, List.getElem?_cons_succ, List.getElem?_cons_zero, Option.getD_some]
              repeat (first | go_big_quiet_step (fail) | quiet_step (fail))
              refine wpQuiet_nil ?_
              go_wp2_with fail
              go_ret
              exact ⟨rfl, hB⟩
            · refine heavy_want (by rfl) (fun K' hK' => ?_)
              go_simp
              refine hK' _ _ (al (Below.refl _ _) _) ?_
              clear hK' K'
              have hq := al (Below.refl _ T_2) (.cells #[.int .u8 (v.toNat : Int)] 5)
              have fr0 : (T_2.alloc (.cells #[.int .u8 (v.toNat : Int)] 5)).cell? ⟨T_2.heap.size, 0, none⟩ = some (.int .u8 (v.toNat : Int)) := by go_simp
              have frz : T_2.heap.size < (T_2.alloc (.cells #[.int .u8 (v.toNat : Int)] 5)).heap.size := by simp
              have hbtv := bts_one T_2 v 5 (0, 0)
              obtain ⟨T2_6, hw2⟩ : ∃ X : World, T_2.alloc (.cells #[.int .u8 (v.toNat : Int)] 5) = X := ⟨_, rfl⟩
              rw [hw2] at hq frz fr0 hbtv
              rw [hw2]
              clear hw2
              have g8_0 := later hq g7_0
              have g8_1 := later hq g7_1
              have g8_2 := later hq n7_0
              have z8_0 : w.heap.size < T2_6.heap.size := Nat.lt_of_lt_of_le z7_0 hq.size
              have z8_1 : w.heap.size + 1 < T2_6.heap.size := Nat.lt_of_lt_of_le z7_1 hq.size
              have z8_2 : T.heap.size < T2_6.heap.size := Nat.lt_of_lt_of_le m7 hq.size
              replace hB := thru hB hq
              replace hbtu := hbtu.later hq
              clear hq g7_0 g7_1 n7_0 z7_0 z7_1 m7
              have n8_0 := fr0
              have m8 := frz
              clear frz fr0
              try simp only [Act.put, List.setIfInBounds_toArray, List.set_cons_zero, List.set_cons_succ]
              rw [wpSched]
              simp only [pick, List.map_nil, Array.getD_eq_getD_getElem?, List.getElem?_toArray, List.getElem?_cons_succ, List.getElem?_cons_zero, Option.getD_some]
              refine wpQuiet_nil ?_
              refine heavy_want (by rfl) (fun K' hK' => ?_)
              go_simp
              refine (add_any x n _ [u] 1 _ HN.out (by simp) hbtu).mono ?_
              rintro e T26_3 ⟨rfl, hb⟩
              refine hK' _ _ hb ?_
              clear hK' K'
              have hq := thru (Below.refl _ T2_6) hb
              clear hb
              have g9_0 := later hq g8_0
              have g9_1 := later hq g8_1
              have g9_2 := later hq g8_2
              have g9_3 := later hq n8_0
              have z9_0 : w.heap.size < T26_3.heap.size := Nat.lt_of_lt_of_le z8_0 hq.size
              have z9_1 : w.heap.size + 1 < T26_3.heap.size := Nat.lt_of_lt_of_le z8_1 hq.size
              have z9_2 : T.heap.size < T26_3.heap.size := Nat.lt_of_lt_of_le z8_2 hq.size
              have z9_3 : T_2.heap.size < T26_3.heap.size := Nat.lt_of_lt_of_le m8 hq.size
              replace hB := thru hB hq
              replace hbtu := hbtu.later hq
              replace hbtv := hbtv.later hq
              clear hq g8_0 g8_1 g8_2 n8_0 z8_0 z8_1 z8_2 m8
              try simp only [Act.put, List.setIfInBounds_toArray, List.set_cons_zero, List.set_cons_succ]
              rw [wpSched]
              simp only [pick, List.map_nil, Array.getD_eq_getD_getElem?, List.getElem?_toArray, List.getElem?_cons_succ, List.getElem?_cons_zero, Option.getD_some]
              refine wpQuiet_nil ?_
              refine heavy_want (by rfl) (fun K' hK' => ?_)
              go_simp
              refine (add_any x n _ [v] 1 _ HN.out (by simp) hbtv).mono ?_
              rintro e T236_7 ⟨rfl, hb⟩
              refine hK' _ _ hb ?_
              clear hK' K'
              have hq := thru (Below.refl _ T26_3) hb
              clear hb
              have g10_0 := later hq g9_0
              have g10_1 := later hq g9_1
              have g10_2 := later hq g9_2
              have g10_3 := later hq g9_3
              have z10_0 : w.heap.size < T236_7.heap.size := Nat.lt_of_lt_of_le z9_0 hq.size
              have z10_1 : w.heap.size + 1 < T236_7.heap.size := Nat.lt_of_lt_of_le z9_1 hq.size
              have z10_2 : T.heap.size < T236_7.heap.size := Nat.lt_of_lt_of_le z9_2 hq.size
              have z10_3 : T_2.heap.size < T236_7.heap.size := Nat.lt_of_lt_of_le z9_3 hq.size
              replace hB := thru hB hq
              replace hbtu := hbtu.later hq
              replace hbtv := hbtv.later hq
              clear hq g9_0 g9_1 g9_2 g9_3 z9_0 z9_1 z9_2 z9_3
              try simp only [Act.put, List.setIfInBounds_toArray, List.set_cons_zero, List.set_cons_succ]
              rw [wpSched]
              simp only [pick, List.map_cons, List.map_nil, Array.getD_eq_getD_getElem?, List.getElem?_toArray, List.getElem?_cons_succ, List.getElem?_cons_zero, Option.getD_some]
              repeat (first | go_big_quiet_step (fail) | quiet_step (fail))
              refine wpQuiet_nil ?_
              refine heavy_want (by rfl) (fun K' hK' => ?_)
              go_simp
              refine (awake_any _).mono ?_
              rintro e T2367_14 ⟨rfl, hb⟩
              refine hK' _ _ hb ?_
              clear hK' K'
              have hq := thru (Below.refl _ T236_7) hb
              clear hb
              have g11_0 := later hq g10_0
              have g11_1 := later hq g10_1
              have g11_2 := later hq g10_2
              have g11_3 := later hq g10_3
              have z11_0 : w.heap.size < T2367_14.heap.size := Nat.lt_of_lt_of_le z10_0 hq.size
              have z11_1 : w.heap.size + 1 < T2367_14.heap.size := Nat.lt_of_lt_of_le z10_1 hq.size
              have z11_2 : T.heap.size < T2367_14.heap.size := Nat.lt_of_lt_of_le z10_2 hq.size
              have z11_3 : T_2.heap.size < T2367_14.heap.size := Nat.lt_of_lt_of_le z10_3 hq.size
              replace hB := thru hB hq
              replace hbtu := hbtu.later hq
              replace hbtv := hbtv.later hq
              clear hq g10_0 g10_1 g10_2 g10_3 z10_0 z10_1 z10_2 z10_3
              try simp only [Act.put, List.setIfInBounds_toArray, List.set_cons_zero, List.set_cons_succ]
              rw [wpSched]
              simp only [pick, List.map_cons, List.map_nil, Array.getD_eq_getD_getElem?, List.getElem?_toArray, List.getElem?_cons_succ, List.getElem?_cons_zero, Option.getD_some]
              repeat (first | go_big_quiet_step (fail) | quiet_step (fail))
              refine wpQuiet_nil ?_
              go_wp2_with fail
              go_ret
              exact ⟨rfl, hB⟩
          · refine heavy_want (by rfl) (fun K' hK' => ?_)
            go_simp
            refine hK' _ _ (al (Below.refl _ _) _) ?_
            clear hK' K'
            have hq := al (Below.refl _ T) (.cells #[.int .u8 (v.toNat : Int)] 5)
            have fr0 : (T.alloc (.cells #[.int .u8 (v.toNat : Int)] 5)).cell? ⟨T.heap.size, 0, none⟩ = some (.int .u8 (v.toNat : Int)) := by go_simp
            have frz : T.heap.size < (T.alloc (.cells #[.int .u8 (v.toNat : Int)] 5)).heap.size := by simp
            have hbtv := bts_one T v 5 (0, 0)
            obtain ⟨T_6, hw2⟩ : ∃ X : World, T.alloc (.cells #[.int .u8 (v.toNat : Int)] 5) = X := ⟨_, rfl⟩
            rw [hw2] at hq frz fr0 hbtv
            rw [hw2]
            clear hw2
            have g7_0 := later hq g6_0
            have g7_1 := later hq g6_1
            have z7_0 : w.heap.size < T_6.heap.size := Nat.lt_of_lt_of_le z6_0 hq.size
            have z7_1 : w.heap.size + 1 < T_6.heap.size := Nat.lt_of_lt_of_le z6_1 hq.size
            replace hB := thru hB hq
            clear hq g6_0 g6_1 z6_0 z6_1
            have n7_0 := fr0
            have m7 := frz
            clear frz fr0
            try simp only [Act.put, List.setIfInBounds_toArray, List.set_cons_zero, List.set_cons_succ]
            rw [wpSched]
            simp only [pick, List.map_nil, Array.getD_eq_getD_getElem?, List.getElem?_toArray, List.getElem?_cons_succ, List.getElem?_cons_zero, Option.getD_some]
            refine wpQuiet_nil ?_
            refine heavy_want (by rfl) (fun K' hK' => ?_)
            go_simp
            refine hK' _ _ (al (Below.refl _ _) _) ?_
            clear hK' K'
            have hq := al (Below.refl _ T_6) (.cells #[.int .u8 (u.toNat : Int)] 5)
            have fr0 : (T_6.alloc (.cells #[.int .u8 (u.toNat : Int)] 5)).cell? ⟨T_6.heap.size, 0, none⟩ = some (.int .u8 (u.toNat : Int)) := by go_simp
            have frz : T_6.heap.size < (T_6.alloc (.cells #[.int .u8 (u.toNat : Int)] 5)).heap.size := by simp
            have hbtu := bts_one T_6 u 5 (0, 0)
            obtain ⟨T6_2, hw2⟩ : ∃ X : World, T_6.alloc (.cells #[.int .u8 (u.toNat : Int)] 5) = X := ⟨_, rfl⟩
            rw [hw2] at hq frz fr0 hbtu
            rw [hw2]
            clear hw2
            have g8_0 := later hq g7_0
            have g8_1 := later hq g7_1
            have g8_2 := later hq n7_0
            have z8_0 : w.heap.size < T6_2.heap.size := Nat.lt_of_lt_of_le z7_0 hq.size
            have z8_1 : w.heap.size + 1 < T6_2.heap.size := Nat.lt_of_lt_of_le z7_1 hq.size
            have z8_2 : T.heap.size < T6_2.heap.size := Nat.lt_of_lt_of_le m7 hq.size
            replace hB := thru hB hq
            replace hbtv := hbtv.later hq
            clear hq g7_0 g7_1 n7_0 z7_0 z7_1 m7
            have n8_0 := fr0
            have m8 := frz
            clear frz fr0
            try simp only [Act.put, List.setIfInBounds_toArray, List.set_cons_zero, List.set_cons_succ]
            rw [wpSched]
            simp only [pick, List.map_nil, Array.getD_eq_getD_getElem?, List.getElem?_toArray, List.getElem?_cons_succ, List.getElem?_cons_zero, Option.getD_some]
            refine wpQuiet_nil ?_
            refine heavy_want (by rfl) (fun K' hK' => ?_)
            go_simp
            refine (add_any x n _ [u] 1 _ HN.out (by simp) hbtu).mono ?_
            rintro e T26_3 ⟨rfl, hb⟩
            refine hK' _ _ hb ?_
            clear hK' K'
            have hq := thru (Below.refl _ T6_2) hb
            clear hb
            have g9_0 := later hq g8_0
            have g9_1 := later hq g8_1
            have g9_2 := later hq g8_2
            have g9_3 := later hq n8_0
            have z9_0 : w.heap.size < T26_3.heap.size := Nat.lt_of_lt_of_le z8_0 hq.size
            have z9_1 : w.heap.size + 1 < T26_3.heap.size := Nat.lt_of_lt_of_le z8_1 hq.size
            have z9_2 : T.heap.size < T26_3.heap.size := Nat.lt_of_lt_of_le z8_2 hq.size
            have z9_3 : T_6.heap.size < T26_3.heap.size := Nat.lt_of_lt_of_le m8 hq.size
            replace hB := thru hB hq
            replace hbtv := hbtv.later hq
            replace hbtu := hbtu.later hq
            clear hq g8_0 g8_1 g8_2 n8_0 z8_0 z8_1 z8_2 m8
            try simp only [Act.put, List.setIfInBounds_toArray, List.set_cons_zero, List.set_cons_succ]
            rw [wpSched]
            simp only [pick, List.map_nil, Array.getD_eq_getD_getElem?, List.getElem?_toArray, List.getElem?_cons_succ, List.getElem?_cons_zero, Option.getD_some]
            refine wpQuiet_nil ?_
            refine heavy_want (by rfl) (fun K' hK' => ?_)
            go_simp
            refine (add_any x n _ [v] 1 _ HN.out (by simp) hbtv).mono ?_
            rintro e T236_7 ⟨rfl, hb⟩
            refine hK' _ _ hb ?_
            clear hK' K'
            have hq := thru (Below.refl _ T26_3) hb
            clear hb
            have g10_0 := later hq g9_0
            have g10_1 := later hq g9_1
            have g10_2 := later hq g9_2
            have g10_3 := later hq g9_3
            have z10_0 : w.heap.size < T236_7.heap.size := Nat.lt_of_lt_of_le z9_0 hq.size
            have z10_1 : w.heap.size + 1 < T236_7.heap.size := Nat.lt_of_lt_of_le z9_1 hq.size
            have z10_2 : T.heap.size < T236_7.heap.size := Nat.lt_of_lt_of_le z9_2 hq.size
            have z10_3 : T_6.heap.size < T236_7.heap.size := Nat.lt_of_lt_of_le z9_3 hq.size
            replace hB := thru hB hq
            replace hbtv := hbtv.later hq
            replace hbtu := hbtu.later hq
            clear hq g9_0 g9_1 g9_2 g9_3 z9_0 z9_1 z9_2 z9_3
            try simp only [Act.put, List.setIfInBounds_toArray, List.set_cons_zero, List.set_cons_succ]
            rw [wpSched]
            simp only [pick, List.map_cons, List.map_nil, Array.getD_eq_getD_getElem?, List.getElem?_toArray, List.getElem?_cons_succ, List.getElem?_cons_zero, Option.getD_some]
            repeat (first | go_big_quiet_step (fail) | quiet_step (fail))
            refine wpQuiet_nil ?_
            refine heavy_want (by rfl) (fun K' hK' => ?_)
            go_simp
            refine (awake_any _).mono ?_
            rintro e T2367_14 ⟨rfl, hb⟩
            refine hK' _ _ hb ?_
            clear hK' K'
            have hq := thru (Below.refl _ T236_7) hb
            clear hb
            have g11_0 := later hq g10_0
            have g11_1 := later hq g10_1
            have g11_2 := later hq g10_2
            have g11_3 := later hq g10_3
            have z11_0 : w.heap.size < T2367_14.heap.size := Nat.lt_of_lt_of_le z10_0 hq.size
            have z11_1 : w.heap.size + 1 < T2367_14.heap.size := Nat.lt_of_lt_of_le z10_1 hq.size
            have z11_2 : T.heap.size < T2367_14.heap.size := Nat.lt_of_lt_of_le z10_2 hq.size
            have z11_3 : T_6.heap.size < T2367_14.heap.size := Nat.lt_of_lt_of_le z10_3 hq.size
            replace hB := thru hB hq
            replace hbtv := hbtv.later hq
            replace hbtu := hbtu.later hq
            clear hq g10_0 g10_1 g10_2 g10_3 z10_0 z10_1 z10_2 z10_3
            try simp only [Act.put, List.setIfInBounds_toArray, List.set_cons_zero, List.set_cons_succ]
            rw [wpSched]
            simp only [pick, List.map_cons, List.map_nil, Array.getD_eq_getD_getElem?, List.getElem?_toArray, List.getElem?_cons_succ, List.getElem?_cons_zero, Option.getD_some]
            repeat (first | go_big_quiet_step (fail) | quiet_step (fail))
            refine wpQuiet_nil ?_
            go_wp2_with fail
            go_ret
            exact ⟨rfl, hB⟩

end Go.Proofs.Ytmlmgpliajffnaa
