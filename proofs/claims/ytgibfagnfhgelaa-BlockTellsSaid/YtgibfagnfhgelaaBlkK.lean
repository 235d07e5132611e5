/- WALKS of the block layer: Cut at other arguments. -/
import Derived.Test.YtgibfagnfhgelaaBlkJ
namespace Go.Proofs.Ytgibfagnfhgelaa
open Go.RowKit

/-- The arguments that Cut takes. -/
def cutOk (ls : List (List UInt8)) (os : List OpV) (n k : Int) : Bool := vldO ls os && (decide (0 ≤ n) && (decide (n < (os.length : Int)) && (decide (0 ≤ k) && decide (k ≤ (lenO (os.getD n.toNat op0).er : Int)))))
/-- A store of the call's own, and an error. -/
def ErrOf (ls : List (List UInt8)) (code : Int) (w : World) (e : Ending) (w' : World) : Prop := ∃ x c rs, e = .returned (.tuple #[.agg #[.slice x rs.length c], .int .i64 code]) ∧ OwnsS w.heap.size w' x c rs ∧ rs.map (·.l) = ls ∧ Below w.heap.size w w'
set_option maxRecDepth 20000 in
set_option maxHeartbeats 4000000 in
theorem cut_no (x : Option Addr) (rs0 : List Rw) (c : Nat) (y : Option Addr) (os : List OpV) (cy : Nat) (n k : Int) (w : World) (hs : Rws w x rs0) (hn0 : rs0.length ≤ 1000) (hl0 : ∀ r, r ∈ rs0 → r.l.length ≤ 100000) (ho : Ops w y os) (hm : os.length ≤ 1000)
    (hbad : cutOk (rs0.map (·.l)) os n k = false) :
    Calls Try.prog 16 #[.agg #[.slice x rs0.length c], .slice y os.length cy, .int .i64 n, .int .i64 k] w (ErrOf (rs0.map (·.l)) 2 w) := by
  have hB := Below.refl w.heap.size w
  by_cases hv : vldO (rs0.map (·.l)) os = false
  · have HV : Hid (vldO (rs0.map (·.l)) os = false) := hv
    go_enter Try.func16, Try.ntmps16
    go_wp2_with fail
    refine (own_any x rs0 c _ (hs.later (al (al hB _) _)) hn0 hl0).mono ?_
    rintro e w1 ⟨xo, co, rs1, rfl, hos, hml, hb⟩
    have hB1 := thru (al (al hB _) _) hb
    have g0 := later (a := ⟨w.heap.size, 0, none⟩) (v := .slice x rs0.length c) hb (by go_simp)
    have g1 := later (a := ⟨w.heap.size + 1, 0, none⟩) (v := .slice none 0 0) hb (by go_simp)
    have f1 := (Below.frozen hb (p := ⟨w.heap.size + 1, 0, none⟩) (by simp)).trans (show _ = false by go_simp)
    have hz1 : w.heap.size + 1 < w1.heap.size := by have := hb.size; simp at this; omega
    have hz0 : w.heap.size < w1.heap.size := by omega
    rw [show ((w.alloc (.cells #[.slice x rs0.length c] 24)).alloc (.cells #[.slice none 0 0] 24)).heap.size = w.heap.size + 2 by simp] at hos
    have HOS := Lib.hid hos
    have HML := Lib.hid hml
    clear hb hos hml
    go_wp2_with fail
    refine (validops_any x rs0 c y os cy _ (hs.later (al hB1 _)) hn0 (ho.later (al hB1 _)) (by omega)).mono ?_
    rintro e w2 ⟨rfl, hb⟩
    rw [HV.out]
    have hB2 := thru (al hB1 _) hb
    have r1 := later_lt (a := ⟨w.heap.size + 1, 0, none⟩) (v := .slice none 0 0) hb (by simp <;> omega) (later (al (Below.refl _ _) _) g1)
    have q1 := (Below.frozen hb (p := ⟨w.heap.size + 1, 0, none⟩) (by simp <;> omega)).trans ((Below.frozen (al (Below.refl _ w1) _) (p := ⟨w.heap.size + 1, 0, none⟩) (by simp <;> omega)).trans f1)
    have ro := later (a := ⟨w1.heap.size, 0, none⟩) (v := .slice xo rs1.length co) hb (by go_simp)
    have hw2 : Turns (fun _ => False) w1 w2 := ((Turns.refl (fun _ => False) w1).alloc _).trans (Turns.of_below hb (Nat.le_refl _))
    have hzw : w.heap.size + 1 < w2.heap.size := World.block_lt_of_cell? _ _ r1
    clear hb g0 g1 f1
    go_wp2_with fail
    have ts : Turns (fun b => b = w.heap.size + 1) w2 (w2.setCell ⟨w.heap.size + 1, 0, none⟩ (.slice xo rs1.length co)) := (Turns.refl (fun b => b = w.heap.size + 1) w2).setCell (p := ⟨w.heap.size + 1, 0, none⟩) (fun _ => rfl) _
    have er : (w2.setCell ⟨w.heap.size + 1, 0, none⟩ (.slice xo rs1.length co)).cell? ⟨w.heap.size + 1, 0, none⟩ = some (.slice xo rs1.length co) := World.cell?_setCell_same' _ _ _ (by rw [r1]; rfl)
    refine bodyPost_ret (v := .tuple #[.agg #[.slice xo rs1.length co], .int .i64 2]) (by simp [results, Try.results16, go_sem, er]) rfl ⟨xo, co, rs1, rfl, ?_, HML.out, hB2.setCell (p := ⟨w.heap.size + 1, 0, none⟩) (by simp <;> omega) _⟩
    exact ((HOS.out.turn hw2 (fun _ _ h => h) (fun _ _ _ _ h => h)).turnB ts (fun b hb _ e => by omega)).weaken (by omega)
  · by_cases h1 : n < 0
    · have HV : Hid (vldO (rs0.map (·.l)) os = true) := by show _ = _; simpa using hv
      have a1 : decide (n < 0) = true := decide_eq_true (by omega)
      go_enter Try.func16, Try.ntmps16
      go_wp2_with fail
      refine (own_any x rs0 c _ (hs.later (al (al hB _) _)) hn0 hl0).mono ?_
      rintro e w1 ⟨xo, co, rs1, rfl, hos, hml, hb⟩
      have hB1 := thru (al (al hB _) _) hb
      have g0 := later (a := ⟨w.heap.size, 0, none⟩) (v := .slice x rs0.length c) hb (by go_simp)
      have g1 := later (a := ⟨w.heap.size + 1, 0, none⟩) (v := .slice none 0 0) hb (by go_simp)
      have f1 := (Below.frozen hb (p := ⟨w.heap.size + 1, 0, none⟩) (by simp)).trans (show _ = false by go_simp)
      have hz1 : w.heap.size + 1 < w1.heap.size := by have := hb.size; simp at this; omega
      have hz0 : w.heap.size < w1.heap.size := by omega
      rw [show ((w.alloc (.cells #[.slice x rs0.length c] 24)).alloc (.cells #[.slice none 0 0] 24)).heap.size = w.heap.size + 2 by simp] at hos
      have HOS := Lib.hid hos
      have HML := Lib.hid hml
      clear hb hos hml
      go_wp2_with fail
      refine (validops_any x rs0 c y os cy _ (hs.later (al hB1 _)) hn0 (ho.later (al hB1 _)) (by omega)).mono ?_
      rintro e w2 ⟨rfl, hb⟩
      rw [HV.out]
      have hB2 := thru (al hB1 _) hb
      have r1 := later_lt (a := ⟨w.heap.size + 1, 0, none⟩) (v := .slice none 0 0) hb (by simp <;> omega) (later (al (Below.refl _ _) _) g1)
      have q1 := (Below.frozen hb (p := ⟨w.heap.size + 1, 0, none⟩) (by simp <;> omega)).trans ((Below.frozen (al (Below.refl _ w1) _) (p := ⟨w.heap.size + 1, 0, none⟩) (by simp <;> omega)).trans f1)
      have ro := later (a := ⟨w1.heap.size, 0, none⟩) (v := .slice xo rs1.length co) hb (by go_simp)
      have hw2 : Turns (fun _ => False) w1 w2 := ((Turns.refl (fun _ => False) w1).alloc _).trans (Turns.of_below hb (Nat.le_refl _))
      have hzw : w.heap.size + 1 < w2.heap.size := World.block_lt_of_cell? _ _ r1
      clear hb g0 g1 f1
      go_wp2_with fail
      have ts : Turns (fun b => b = w.heap.size + 1) w2 (w2.setCell ⟨w.heap.size + 1, 0, none⟩ (.slice xo rs1.length co)) := (Turns.refl (fun b => b = w.heap.size + 1) w2).setCell (p := ⟨w.heap.size + 1, 0, none⟩) (fun _ => rfl) _
      have er : (w2.setCell ⟨w.heap.size + 1, 0, none⟩ (.slice xo rs1.length co)).cell? ⟨w.heap.size + 1, 0, none⟩ = some (.slice xo rs1.length co) := World.cell?_setCell_same' _ _ _ (by rw [r1]; rfl)
      refine bodyPost_ret (v := .tuple #[.agg #[.slice xo rs1.length co], .int .i64 2]) (by simp [results, Try.results16, go_sem, er]) rfl ⟨xo, co, rs1, rfl, ?_, HML.out, hB2.setCell (p := ⟨w.heap.size + 1, 0, none⟩) (by simp <;> omega) _⟩
      exact ((HOS.out.turn hw2 (fun _ _ h => h) (fun _ _ _ _ h => h)).turnB ts (fun b hb _ e => by omega)).weaken (by omega)
    · by_cases h2 : (os.length : Int) ≤ n
      · have HV : Hid (vldO (rs0.map (·.l)) os = true) := by show _ = _; simpa using hv
        have a1 : decide (n < 0) = false := decide_eq_false (by omega)
        have a2 : decide ((os.length : Int) ≤ n) = true := decide_eq_true (by omega)
        go_enter Try.func16, Try.ntmps16
        go_wp2_with fail
        refine (own_any x rs0 c _ (hs.later (al (al hB _) _)) hn0 hl0).mono ?_
        rintro e w1 ⟨xo, co, rs1, rfl, hos, hml, hb⟩
        have hB1 := thru (al (al hB _) _) hb
        have g0 := later (a := ⟨w.heap.size, 0, none⟩) (v := .slice x rs0.length c) hb (by go_simp)
        have g1 := later (a := ⟨w.heap.size + 1, 0, none⟩) (v := .slice none 0 0) hb (by go_simp)
        have f1 := (Below.frozen hb (p := ⟨w.heap.size + 1, 0, none⟩) (by simp)).trans (show _ = false by go_simp)
        have hz1 : w.heap.size + 1 < w1.heap.size := by have := hb.size; simp at this; omega
        have hz0 : w.heap.size < w1.heap.size := by omega
        rw [show ((w.alloc (.cells #[.slice x rs0.length c] 24)).alloc (.cells #[.slice none 0 0] 24)).heap.size = w.heap.size + 2 by simp] at hos
        have HOS := Lib.hid hos
        have HML := Lib.hid hml
        clear hb hos hml
        go_wp2_with fail
        refine (validops_any x rs0 c y os cy _ (hs.later (al hB1 _)) hn0 (ho.later (al hB1 _)) (by omega)).mono ?_
        rintro e w2 ⟨rfl, hb⟩
        rw [HV.out]
        have hB2 := thru (al hB1 _) hb
        have r1 := later_lt (a := ⟨w.heap.size + 1, 0, none⟩) (v := .slice none 0 0) hb (by simp <;> omega) (later (al (Below.refl _ _) _) g1)
        have q1 := (Below.frozen hb (p := ⟨w.heap.size + 1, 0, none⟩) (by simp <;> omega)).trans ((Below.frozen (al (Below.refl _ w1) _) (p := ⟨w.heap.size + 1, 0, none⟩) (by simp <;> omega)).trans f1)
        have ro := later (a := ⟨w1.heap.size, 0, none⟩) (v := .slice xo rs1.length co) hb (by go_simp)
        have hw2 : Turns (fun _ => False) w1 w2 := ((Turns.refl (fun _ => False) w1).alloc _).trans (Turns.of_below hb (Nat.le_refl _))
        have hzw : w.heap.size + 1 < w2.heap.size := World.block_lt_of_cell? _ _ r1
        clear hb g0 g1 f1
        go_wp2_with fail
        have ts : Turns (fun b => b = w.heap.size + 1) w2 (w2.setCell ⟨w.heap.size + 1, 0, none⟩ (.slice xo rs1.length co)) := (Turns.refl (fun b => b = w.heap.size + 1) w2).setCell (p := ⟨w.heap.size + 1, 0, none⟩) (fun _ => rfl) _
        have er : (w2.setCell ⟨w.heap.size + 1, 0, none⟩ (.slice xo rs1.length co)).cell? ⟨w.heap.size + 1, 0, none⟩ = some (.slice xo rs1.length co) := World.cell?_setCell_same' _ _ _ (by rw [r1]; rfl)
        refine bodyPost_ret (v := .tuple #[.agg #[.slice xo rs1.length co], .int .i64 2]) (by simp [results, Try.results16, go_sem, er]) rfl ⟨xo, co, rs1, rfl, ?_, HML.out, hB2.setCell (p := ⟨w.heap.size + 1, 0, none⟩) (by simp <;> omega) _⟩
        exact ((HOS.out.turn hw2 (fun _ _ h => h) (fun _ _ _ _ h => h)).turnB ts (fun b hb _ e => by omega)).weaken (by omega)
      · by_cases h3 : k < 0
        · have HV : Hid (vldO (rs0.map (·.l)) os = true) := by show _ = _; simpa using hv
          have a1 : decide (n < 0) = false := decide_eq_false (by omega)
          have a2 : decide ((os.length : Int) ≤ n) = false := decide_eq_false (by omega)
          have a3 : decide (k < 0) = true := decide_eq_true (by omega)
          go_enter Try.func16, Try.ntmps16
          go_wp2_with fail
          refine (own_any x rs0 c _ (hs.later (al (al hB _) _)) hn0 hl0).mono ?_
          rintro e w1 ⟨xo, co, rs1, rfl, hos, hml, hb⟩
          have hB1 := thru (al (al hB _) _) hb
          have g0 := later (a := ⟨w.heap.size, 0, none⟩) (v := .slice x rs0.length c) hb (by go_simp)
          have g1 := later (a := ⟨w.heap.size + 1, 0, none⟩) (v := .slice none 0 0) hb (by go_simp)
          have f1 := (Below.frozen hb (p := ⟨w.heap.size + 1, 0, none⟩) (by simp)).trans (show _ = false by go_simp)
          have hz1 : w.heap.size + 1 < w1.heap.size := by have := hb.size; simp at this; omega
          have hz0 : w.heap.size < w1.heap.size := by omega
          rw [show ((w.alloc (.cells #[.slice x rs0.length c] 24)).alloc (.cells #[.slice none 0 0] 24)).heap.size = w.heap.size + 2 by simp] at hos
          have HOS := Lib.hid hos
          have HML := Lib.hid hml
          clear hb hos hml
          go_wp2_with fail
          refine (validops_any x rs0 c y os cy _ (hs.later (al hB1 _)) hn0 (ho.later (al hB1 _)) (by omega)).mono ?_
          rintro e w2 ⟨rfl, hb⟩
          rw [HV.out]
          have hB2 := thru (al hB1 _) hb
          have r1 := later_lt (a := ⟨w.heap.size + 1, 0, none⟩) (v := .slice none 0 0) hb (by simp <;> omega) (later (al (Below.refl _ _) _) g1)
          have q1 := (Below.frozen hb (p := ⟨w.heap.size + 1, 0, none⟩) (by simp <;> omega)).trans ((Below.frozen (al (Below.refl _ w1) _) (p := ⟨w.heap.size + 1, 0, none⟩) (by simp <;> omega)).trans f1)
          have ro := later (a := ⟨w1.heap.size, 0, none⟩) (v := .slice xo rs1.length co) hb (by go_simp)
          have hw2 : Turns (fun _ => False) w1 w2 := ((Turns.refl (fun _ => False) w1).alloc _).trans (Turns.of_below hb (Nat.le_refl _))
          have hzw : w.heap.size + 1 < w2.heap.size := World.block_lt_of_cell? _ _ r1
          clear hb g0 g1 f1
          go_wp2_with fail
          have ts : Turns (fun b => b = w.heap.size + 1) w2 (w2.setCell ⟨w.heap.size + 1, 0, none⟩ (.slice xo rs1.length co)) := (Turns.refl (fun b => b = w.heap.size + 1) w2).setCell (p := ⟨w.heap.size + 1, 0, none⟩) (fun _ => rfl) _
          have er : (w2.setCell ⟨w.heap.size + 1, 0, none⟩ (.slice xo rs1.length co)).cell? ⟨w.heap.size + 1, 0, none⟩ = some (.slice xo rs1.length co) := World.cell?_setCell_same' _ _ _ (by rw [r1]; rfl)
          refine bodyPost_ret (v := .tuple #[.agg #[.slice xo rs1.length co], .int .i64 2]) (by simp [results, Try.results16, go_sem, er]) rfl ⟨xo, co, rs1, rfl, ?_, HML.out, hB2.setCell (p := ⟨w.heap.size + 1, 0, none⟩) (by simp <;> omega) _⟩
          exact ((HOS.out.turn hw2 (fun _ _ h => h) (fun _ _ _ _ h => h)).turnB ts (fun b hb _ e => by omega)).weaken (by omega)
        · have hk2 : (lenO (os.getD n.toNat op0).er : Int) < k := by
            rcases (show (lenO (os.getD n.toNat op0).er : Int) < k ∨ k ≤ (lenO (os.getD n.toNat op0).er : Int) by omega) with h | h
            · exact h
            · unfold cutOk at hbad
              rw [show vldO (rs0.map (·.l)) os = true by simpa using hv, decide_eq_true (show 0 ≤ n by omega), decide_eq_true (show n < (os.length : Int) by omega), decide_eq_true (show 0 ≤ k by omega), decide_eq_true (show k ≤ (lenO (os.getD n.toNat op0).er : Int) from h)] at hbad
              exact Bool.noConfusion hbad
          have HV : Hid (vldO (rs0.map (·.l)) os = true) := by show _ = _; simpa using hv
          have a1 : decide (n < 0) = false := decide_eq_false (by omega)
          have a2 : decide ((os.length : Int) ≤ n) = false := decide_eq_false (by omega)
          have a3 : decide (k < 0) = false := decide_eq_false (by omega)
          obtain ⟨m, rfl⟩ : ∃ m : Nat, n = (m : Int) := ⟨n.toNat, by omega⟩
          rw [Int.toNat_natCast] at hk2
          have a2n : decide (os.length ≤ m) = false := decide_eq_false (by omega)
          have hm2 : (m : Int) < (os.length : Int) := by omega
          obtain ⟨b0, o0, rfl, c0, c1, c2, -⟩ := ho.at m (by omega)
          obtain ⟨on, hon⟩ : ∃ o, os.getD m op0 = o := ⟨_, rfl⟩
          rw [hon] at c0 c1 c2 hk2
          have a4 : decide ((lenO on.er : Int) < k) = true := decide_eq_true (by omega)
          clear hon
          go_enter Try.func16, Try.ntmps16
          go_wp2_with fail
          refine (own_any x rs0 c _ (hs.later (al (al hB _) _)) hn0 hl0).mono ?_
          rintro e w1 ⟨xo, co, rs1, rfl, hos, hml, hb⟩
          have hB1 := thru (al (al hB _) _) hb
          have g0 := later (a := ⟨w.heap.size, 0, none⟩) (v := .slice x rs0.length c) hb (by go_simp)
          have g1 := later (a := ⟨w.heap.size + 1, 0, none⟩) (v := .slice none 0 0) hb (by go_simp)
          have f1 := (Below.frozen hb (p := ⟨w.heap.size + 1, 0, none⟩) (by simp)).trans (show _ = false by go_simp)
          have hz1 : w.heap.size + 1 < w1.heap.size := by have := hb.size; simp at this; omega
          have hz0 : w.heap.size < w1.heap.size := by omega
          rw [show ((w.alloc (.cells #[.slice x rs0.length c] 24)).alloc (.cells #[.slice none 0 0] 24)).heap.size = w.heap.size + 2 by simp] at hos
          have HOS := Lib.hid hos
          have HML := Lib.hid hml
          clear hb hos hml
          go_wp2_with fail
          refine (validops_any x rs0 c (some ⟨b0, o0, none⟩) os cy _ (hs.later (al hB1 _)) hn0 (ho.later (al hB1 _)) (by omega)).mono ?_
          rintro e w2 ⟨rfl, hb⟩
          rw [HV.out]
          have hB2 := thru (al hB1 _) hb
          have r1 := later_lt (a := ⟨w.heap.size + 1, 0, none⟩) (v := .slice none 0 0) hb (by simp <;> omega) (later (al (Below.refl _ _) _) g1)
          have q1 := (Below.frozen hb (p := ⟨w.heap.size + 1, 0, none⟩) (by simp <;> omega)).trans ((Below.frozen (al (Below.refl _ w1) _) (p := ⟨w.heap.size + 1, 0, none⟩) (by simp <;> omega)).trans f1)
          have ro := later (a := ⟨w1.heap.size, 0, none⟩) (v := .slice xo rs1.length co) hb (by go_simp)
          have hw2 : Turns (fun _ => False) w1 w2 := ((Turns.refl (fun _ => False) w1).alloc _).trans (Turns.of_below hb (Nat.le_refl _))
          have hzw : w.heap.size + 1 < w2.heap.size := World.block_lt_of_cell? _ _ r1
          clear hb g0 g1 f1
          have c0' := later hB2 c0
          have c1' := later hB2 c1
          have c2' := later hB2 c2
          go_wp2_with fail
          refine (len_any on _).mono ?_
          rintro e w3 ⟨rfl, hb⟩
          have hB3 := thru hB2 hb
          replace r1 := later hb r1
          replace q1 := (Below.frozen hb (p := ⟨w.heap.size + 1, 0, none⟩) (by simp <;> omega)).trans q1
          replace ro := later hb ro
          have hw3 : Turns (fun _ => False) w1 w3 := hw2.trans (Turns.of_below hb (Nat.le_refl _))
          have hzw3 : w.heap.size + 1 < w3.heap.size := World.block_lt_of_cell? _ _ r1
          clear hb
          go_wp2_with fail
          have ts : Turns (fun b => b = w.heap.size + 1) w3 (w3.setCell ⟨w.heap.size + 1, 0, none⟩ (.slice xo rs1.length co)) := (Turns.refl (fun b => b = w.heap.size + 1) w3).setCell (p := ⟨w.heap.size + 1, 0, none⟩) (fun _ => rfl) _
          have er : (w3.setCell ⟨w.heap.size + 1, 0, none⟩ (.slice xo rs1.length co)).cell? ⟨w.heap.size + 1, 0, none⟩ = some (.slice xo rs1.length co) := World.cell?_setCell_same' _ _ _ (by rw [r1]; rfl)
          refine bodyPost_ret (v := .tuple #[.agg #[.slice xo rs1.length co], .int .i64 2]) (by simp [results, Try.results16, go_sem, er]) rfl ⟨xo, co, rs1, rfl, ?_, HML.out, hB3.setCell (p := ⟨w.heap.size + 1, 0, none⟩) (by simp <;> omega) _⟩
          exact ((HOS.out.turn hw3 (fun _ _ h => h) (fun _ _ _ _ h => h)).turnB ts (fun b hb _ e => by omega)).weaken (by omega)

end Go.Proofs.Ytgibfagnfhgelaa
