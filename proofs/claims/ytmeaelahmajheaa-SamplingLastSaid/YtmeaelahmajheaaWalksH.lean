/- WALKS of the laws: SamplingSizes. -/
import Derived.Test.YtmeaelahmajheaaWalksG
import Derived.Deep.OwnRows
import Derived.LoopTactic
namespace Go.Proofs.Ytmeaelahmajheaa
open Go.RowKit


set_option maxHeartbeats 1000000 in
theorem size_no0 (nm : ByteArray) (kind : Int) (out : Bool) (size depth refresh : Int) (n fill now : Int) (w : World) (v : Smp.validB kind size depth refresh 0 0 false = false) : Calls Try.prog 6 #[.agg #[.string nm, .int .u8 kind, .bool out, .int .i64 size, .int .i64 depth, .int .i64 refresh], .int .u8 n, .int .u8 fill, .int .i64 now] w fun e w' => e = .returned (.bool true) ∧ Below w.heap.size w w' := by
  have hB := Below.refl w.heap.size w
  go_enter Try.func6, Try.ntmps6
  go_wp2_with fail
  refine (Valid_any _ _ _ _ _ _ _ [] _ _ _ _).mono ?_
  rintro e w1 ⟨rfl, hb⟩
  simp only [List.length_nil]
  rw [v]
  have hq := thru (al (Below.refl _ w) _) hb
  have g1_0 := later (a := ⟨w.heap.size, 0, none⟩) (v := .string nm) hb (by go_simp)
  have g1_1 := later (a := ⟨w.heap.size, 1, none⟩) (v := .int .u8 kind) hb (by go_simp)
  have g1_2 := later (a := ⟨w.heap.size, 2, none⟩) (v := .bool out) hb (by go_simp)
  have g1_3 := later (a := ⟨w.heap.size, 3, none⟩) (v := .int .i64 size) hb (by go_simp)
  have g1_4 := later (a := ⟨w.heap.size, 4, none⟩) (v := .int .i64 depth) hb (by go_simp)
  have g1_5 := later (a := ⟨w.heap.size, 5, none⟩) (v := .int .i64 refresh) hb (by go_simp)
  have z1_0 : w.heap.size < w1.heap.size := (by have := hb.size; simp at this; omega)
  replace hB := thru hB hq
  clear hb hq 
  go_wp2_with fail
  refine (awake_any _).mono ?_
  rintro e w2 ⟨rfl, hb⟩
  have hq := thru (Below.refl _ w1) hb
  have g2_0 := later hq g1_0
  have g2_1 := later hq g1_1
  have g2_2 := later hq g1_2
  have g2_3 := later hq g1_3
  have g2_4 := later hq g1_4
  have g2_5 := later hq g1_5
  have z2_0 : w.heap.size < w2.heap.size := Nat.lt_of_lt_of_le z1_0 hq.size
  replace hB := thru hB hq
  clear hb hq g1_0 g1_1 g1_2 g1_3 g1_4 g1_5 z1_0
  go_wp2_with fail
  go_ret
  exact ⟨rfl, hB⟩


set_option maxHeartbeats 1000000 in
theorem size_no1 (nm : ByteArray) (kind : Int) (out : Bool) (size depth refresh : Int) (n fill now : Int) (w : World) (v : Smp.validB kind size depth refresh 0 0 false = true) (m1 : now < 0) : Calls Try.prog 6 #[.agg #[.string nm, .int .u8 kind, .bool out, .int .i64 size, .int .i64 depth, .int .i64 refresh], .int .u8 n, .int .u8 fill, .int .i64 now] w fun e w' => e = .returned (.bool true) ∧ Below w.heap.size w w' := by
  have hB := Below.refl w.heap.size w
  go_enter Try.func6, Try.ntmps6
  go_wp2_with fail
  refine (Valid_any _ _ _ _ _ _ _ [] _ _ _ _).mono ?_
  rintro e w1 ⟨rfl, hb⟩
  simp only [List.length_nil]
  rw [v]
  have hq := thru (al (Below.refl _ w) _) hb
  have g1_0 := later (a := ⟨w.heap.size, 0, none⟩) (v := .string nm) hb (by go_simp)
  have g1_1 := later (a := ⟨w.heap.size, 1, none⟩) (v := .int .u8 kind) hb (by go_simp)
  have g1_2 := later (a := ⟨w.heap.size, 2, none⟩) (v := .bool out) hb (by go_simp)
  have g1_3 := later (a := ⟨w.heap.size, 3, none⟩) (v := .int .i64 size) hb (by go_simp)
  have g1_4 := later (a := ⟨w.heap.size, 4, none⟩) (v := .int .i64 depth) hb (by go_simp)
  have g1_5 := later (a := ⟨w.heap.size, 5, none⟩) (v := .int .i64 refresh) hb (by go_simp)
  have z1_0 : w.heap.size < w1.heap.size := (by have := hb.size; simp at this; omega)
  replace hB := thru hB hq
  clear hb hq 
  go_wp2_with fail
  refine (awake_any _).mono ?_
  rintro e w2 ⟨rfl, hb⟩
  have hq := thru (Below.refl _ w1) hb
  have g2_0 := later hq g1_0
  have g2_1 := later hq g1_1
  have g2_2 := later hq g1_2
  have g2_3 := later hq g1_3
  have g2_4 := later hq g1_4
  have g2_5 := later hq g1_5
  have z2_0 : w.heap.size < w2.heap.size := Nat.lt_of_lt_of_le z1_0 hq.size
  replace hB := thru hB hq
  clear hb hq g1_0 g1_1 g1_2 g1_3 g1_4 g1_5 z1_0
  go_wp2_with fail
  go_ret
  exact ⟨rfl, hB⟩


set_option maxHeartbeats 1000000 in
theorem size_no2 (nm : ByteArray) (kind : Int) (out : Bool) (size depth refresh : Int) (n fill now : Int) (w : World) (v : Smp.validB kind size depth refresh 0 0 false = true) (m1 : ¬ now < 0) (m2 : 1073741824 < now) : Calls Try.prog 6 #[.agg #[.string nm, .int .u8 kind, .bool out, .int .i64 size, .int .i64 depth, .int .i64 refresh], .int .u8 n, .int .u8 fill, .int .i64 now] w fun e w' => e = .returned (.bool true) ∧ Below w.heap.size w w' := by
  have hB := Below.refl w.heap.size w
  go_enter Try.func6, Try.ntmps6
  go_wp2_with fail
  refine (Valid_any _ _ _ _ _ _ _ [] _ _ _ _).mono ?_
  rintro e w1 ⟨rfl, hb⟩
  simp only [List.length_nil]
  rw [v]
  have hq := thru (al (Below.refl _ w) _) hb
  have g1_0 := later (a := ⟨w.heap.size, 0, none⟩) (v := .string nm) hb (by go_simp)
  have g1_1 := later (a := ⟨w.heap.size, 1, none⟩) (v := .int .u8 kind) hb (by go_simp)
  have g1_2 := later (a := ⟨w.heap.size, 2, none⟩) (v := .bool out) hb (by go_simp)
  have g1_3 := later (a := ⟨w.heap.size, 3, none⟩) (v := .int .i64 size) hb (by go_simp)
  have g1_4 := later (a := ⟨w.heap.size, 4, none⟩) (v := .int .i64 depth) hb (by go_simp)
  have g1_5 := later (a := ⟨w.heap.size, 5, none⟩) (v := .int .i64 refresh) hb (by go_simp)
  have z1_0 : w.heap.size < w1.heap.size := (by have := hb.size; simp at this; omega)
  replace hB := thru hB hq
  clear hb hq 
  go_wp2_with fail
  refine (awake_any _).mono ?_
  rintro e w2 ⟨rfl, hb⟩
  have hq := thru (Below.refl _ w1) hb
  have g2_0 := later hq g1_0
  have g2_1 := later hq g1_1
  have g2_2 := later hq g1_2
  have g2_3 := later hq g1_3
  have g2_4 := later hq g1_4
  have g2_5 := later hq g1_5
  have z2_0 : w.heap.size < w2.heap.size := Nat.lt_of_lt_of_le z1_0 hq.size
  replace hB := thru hB hq
  clear hb hq g1_0 g1_1 g1_2 g1_3 g1_4 g1_5 z1_0
  go_wp2_with fail
  go_ret
  exact ⟨rfl, hB⟩


theorem enc_of {x : Int} (h0 : 0 ≤ x) (h1 : x < 256) : Value.int .u8 x = encB (UInt8.ofNat x.toNat) := by
  unfold encB
  rw [UInt8.toNat_ofNat', Nat.mod_eq_of_lt (by omega)]
  congr 1
  omega

theorem enc_set {k : Nat} {f : Nat → Value} {j : Nat} (hf : ∀ i, i < k → ∃ b : UInt8, f i = encB b) (x : Int) (h0 : 0 ≤ x) (h1 : x < 256) (i : Nat) (hi : i < k) : ∃ b : UInt8, (if i = j then Value.int .u8 x else f i) = encB b := by
  split
  · exact ⟨_, enc_of h0 h1⟩
  · exact hf i hi

theorem bts_of_row {w : World} {B t k : Nat} {f : Nat → Value} (hr : w.rowIs B t k f) (hf : ∀ i, i < k → ∃ b : UInt8, f i = encB b) : ∃ d : List UInt8, d.length = k ∧ Bts w (some ⟨B, 0, none⟩) d := by
  refine ⟨(List.range k).map fun i => if h : i < k then Classical.choose (hf i h) else 0, by simp, .inr ⟨B, 0, rfl, fun i hi => ?_⟩⟩
  have hi' : i < k := by simpa using hi
  rw [Nat.zero_add, hr.cell hi', List.getD_eq_getElem?_getD, List.getElem?_map, List.getElem?_range hi']
  simp only [Option.map_some, Option.getD_some]
  rw [dif_pos hi', ← Classical.choose_spec (hf i hi')]

theorem read_now {kind size depth refresh now : Int} {d : List UInt8} (v : Smp.validB kind size depth refresh 0 0 false = true) (m1 : 0 ≤ now) (m2 : now ≤ 1073741824) (h0 : ¬ d = []) (h1 : (d.length : Int) ≤ size) : readS kind size depth refresh d now true now = (d, true, 0) := by
  obtain ⟨e1, e2, e3, e4, e5, e6, -⟩ := Smp.valid_at v
  have hl : 1 ≤ d.length := by cases d with | nil => exact absurd rfl h0 | cons a l => simp
  have hv : Smp.readyB kind size depth refresh d.length now true now = true := by
    unfold Smp.readyB; subst e1 e2; rw [Smp.valid_full e3 e4 e5 e6]; simp [m1, m2, hl, h1]
  unfold readS
  rw [if_neg (by rw [hv]; decide), if_neg (by decide), Int.sub_self]
  simp [e5]


def SizeRel (k : Nat) (w1 : World) (i : Value) (wr : World) : Prop := ∃ j : Nat, j ≤ k ∧ i = .int .i64 (j : Int) ∧ Below w1.heap.size w1 wr ∧ ∃ f, wr.rowIs w1.heap.size 5 k f ∧ ∀ i, i < k → ∃ b : UInt8, f i = encB b

set_option maxHeartbeats 1000000 in
theorem size_yes (nm : ByteArray) (kind : Int) (out : Bool) (size depth refresh : Int) (n fill now : Int) (w : World) (v : Smp.validB kind size depth refresh 0 0 false = true) (m1 : 0 ≤ now) (m2 : now ≤ 1073741824) (_f0 : 0 ≤ fill) (_f1 : fill ≤ 255) (k : Nat) (hk : n.tmod 101 = (k : Int)) (hk1 : k ≤ 100) (hmk : ∀ w, (Instr.makeSlice 24 (.int .u8 (k : Int)) (.int .u8 (k : Int))).run Try.prog w = .ok (.slice (some ⟨w.heap.size, 0, none⟩) k k) (w.alloc (.cells (madeCells #[.int .u8 0] k) 5))) : Calls Try.prog 6 #[.agg #[.string nm, .int .u8 kind, .bool out, .int .i64 size, .int .i64 depth, .int .i64 refresh], .int .u8 n, .int .u8 fill, .int .i64 now] w fun e w' => e = .returned (.bool true) ∧ Below w.heap.size w w' := by
  have hB := Below.refl w.heap.size w
  go_enter Try.func6, Try.ntmps6
  go_wp2_with fail
  refine (Valid_any _ _ _ _ _ _ _ [] _ _ _ _).mono ?_
  rintro e w1 ⟨rfl, hb⟩
  simp only [List.length_nil]
  rw [v]
  have hq := thru (al (Below.refl _ w) _) hb
  have g1_0 := later (a := ⟨w.heap.size, 0, none⟩) (v := .string nm) hb (by go_simp)
  have g1_1 := later (a := ⟨w.heap.size, 1, none⟩) (v := .int .u8 kind) hb (by go_simp)
  have g1_2 := later (a := ⟨w.heap.size, 2, none⟩) (v := .bool out) hb (by go_simp)
  have g1_3 := later (a := ⟨w.heap.size, 3, none⟩) (v := .int .i64 size) hb (by go_simp)
  have g1_4 := later (a := ⟨w.heap.size, 4, none⟩) (v := .int .i64 depth) hb (by go_simp)
  have g1_5 := later (a := ⟨w.heap.size, 5, none⟩) (v := .int .i64 refresh) hb (by go_simp)
  have z1_0 : w.heap.size < w1.heap.size := (by have := hb.size; simp at this; omega)
  replace hB := thru hB hq
  clear hb hq 
  go_wp2_with fail
  go_loopw [34] (fun i wr => SizeRel k w1 i wr) (fun i _ => k - (intOf i).toNat)
  case atStart => exact ⟨0, Nat.zero_le _, rfl, al (Below.refl _ w1) _, _, World.rowIs_made _ _ _ _, fun _ _ => ⟨0, rfl⟩⟩
  case round =>
    obtain ⟨j, hj, rfl, hq, f, hr, hf⟩ := hrel
    by_cases hlt : j < k
    · have hcell := hr.cell hlt
      have hfr := hr.frozen j
      have HQ := Lib.hid hq
      have HF := Lib.hid hf
      have HR := Lib.hid hr
      clear hq hf hr hB
      go_wp2_with fail
      exact ⟨⟨j + 1, by omega, by simp, HQ.out.setCell (by simp) _, _, HR.out.set j _, fun i hi => enc_set HF.out _ (by omega) (by omega) i hi⟩, by simp [intOf]; omega⟩
    · obtain rfl : k = j := by omega
      clear hlt hmk hj
      obtain ⟨d, hd, yd⟩ := bts_of_row hr hf
      clear hr hf
      have g2_0 := later hq g1_0
      have g2_1 := later hq g1_1
      have g2_2 := later hq g1_2
      have g2_3 := later hq g1_3
      have g2_4 := later hq g1_4
      have g2_5 := later hq g1_5
      have z2_0 : w.heap.size < wr.heap.size := Nat.lt_of_lt_of_le z1_0 hq.size
      replace hB := thru hB hq
      clear hq g1_0 g1_1 g1_2 g1_3 g1_4 g1_5 z1_0
      have HD : d.length ≤ 100 := by omega
      clear hk hk1
      subst hd
      have hrd : Smp.readyB kind size depth refresh ([] : List UInt8).length 0 false now = true := by unfold Smp.readyB; simp [v, m1, m2]
      have hvl := Smp.valid_at v
      obtain ⟨-, -, hs1, hs2, hr1, hr2, -⟩ := hvl
      by_cases h0 : d = []
      · subst h0
        have qc : writeCode kind size depth refresh [] 0 false now [] = 2 := by unfold writeCode; simp
        have qs : writeS kind size depth refresh [] 0 false now [] = ([], 0, false) := by unfold writeS; rw [if_neg (by rw [qc]; decide)]
        have qr : readS kind size depth refresh [] 0 false now = ([], false, 6) := by unfold readS; rw [if_neg (by rw [hrd]; decide), if_pos rfl]
        clear hrd v hs1 hs2 hr1 hr2
        go_wp2_with fail
        refine (write_one nm kind out size depth refresh none [] 0 0 false _ _ _ _ _ (Bts.nil _ _) (by decide) yd (by omega) qs qc).mono ?_
        rintro e w2 ⟨x2, c2, rfl, ho, hb⟩
        have yX := ho.bts
        clear ho
        have hq := thru (Below.refl _ wr) hb
        have g3_0 := later hq g2_0
        have g3_1 := later hq g2_1
        have g3_2 := later hq g2_2
        have g3_3 := later hq g2_3
        have g3_4 := later hq g2_4
        have g3_5 := later hq g2_5
        have z3_0 : w.heap.size < w2.heap.size := Nat.lt_of_lt_of_le z2_0 hq.size
        replace hB := thru hB hq
        replace yd := yd.later hq
        clear hb hq g2_0 g2_1 g2_2 g2_3 g2_4 g2_5 z2_0
        go_wp2_with fail
        refine (read_one _ _ _ _ _ _ _ _ _ _ _ _ _ (yX.later (al (Below.refl _ w2) _)) (by first | omega | decide) qr).mono ?_
        rintro e w3 ⟨x3, c3, rfl, ho, hb⟩
        have yU := ho.bts
        clear ho
        have hq := thru (al (Below.refl _ w2) _) hb
        have g4_0 := later hq g3_0
        have g4_1 := later hq g3_1
        have g4_2 := later hq g3_2
        have g4_3 := later hq g3_3
        have g4_4 := later hq g3_4
        have g4_5 := later hq g3_5
        have g4_6 := later (a := ⟨w2.heap.size, 0, none⟩) (v := .slice x2 ([] : List UInt8).length c2) hb (by go_simp)
        have g4_7 := later (a := ⟨w2.heap.size, 1, none⟩) (v := .int .i64 0) hb (by go_simp)
        have g4_8 := later (a := ⟨w2.heap.size, 2, none⟩) (v := .bool false) hb (by go_simp)
        have z4_0 : w.heap.size < w3.heap.size := Nat.lt_of_lt_of_le z3_0 hq.size
        have z4_1 : w2.heap.size < w3.heap.size := (by have := hb.size; simp at this; omega)
        replace hB := thru hB hq
        replace yd := yd.later hq
        replace yX := yX.later hq
        clear hb hq g3_0 g3_1 g3_2 g3_3 g3_4 g3_5 z3_0
        go_wp2_with fail
        refine (awake_any _).mono ?_
        rintro e w4 ⟨rfl, hb⟩
        have hq := thru (Below.refl _ w3) hb
        have g5_0 := later hq g4_0
        have g5_1 := later hq g4_1
        have g5_2 := later hq g4_2
        have g5_3 := later hq g4_3
        have g5_4 := later hq g4_4
        have g5_5 := later hq g4_5
        have g5_6 := later hq g4_6
        have g5_7 := later hq g4_7
        have g5_8 := later hq g4_8
        have z5_0 : w.heap.size < w4.heap.size := Nat.lt_of_lt_of_le z4_0 hq.size
        have z5_1 : w2.heap.size < w4.heap.size := Nat.lt_of_lt_of_le z4_1 hq.size
        replace hB := thru hB hq
        replace yd := yd.later hq
        replace yX := yX.later hq
        replace yU := yU.later hq
        clear hb hq g4_0 g4_1 g4_2 g4_3 g4_4 g4_5 g4_6 g4_7 g4_8 z4_0 z4_1
        go_wp2_with fail
        go_ret
        exact ⟨rfl, hB⟩
      · by_cases h1 : size < d.length
        · have qc : writeCode kind size depth refresh [] 0 false now d = 3 := by unfold writeCode; rw [if_neg (by rw [hrd]; simp [h0]), if_pos h1]
          have qs : writeS kind size depth refresh [] 0 false now d = ([], 0, false) := by unfold writeS; rw [if_neg (by rw [qc]; decide)]
          have qr : readS kind size depth refresh [] 0 false now = ([], false, 6) := by unfold readS; rw [if_neg (by rw [hrd]; decide), if_pos rfl]
          have hne : ((d.length : Int) == 0) = false := by simp [h0]
          clear h0
          clear hrd v hs1 hs2 hr1 hr2
          go_wp2_with fail
          refine (write_one nm kind out size depth refresh none [] 0 0 false _ _ _ _ _ (Bts.nil _ _) (by decide) yd (by omega) qs qc).mono ?_
          rintro e w2 ⟨x2, c2, rfl, ho, hb⟩
          have yX := ho.bts
          clear ho
          have hq := thru (Below.refl _ wr) hb
          have g3_0 := later hq g2_0
          have g3_1 := later hq g2_1
          have g3_2 := later hq g2_2
          have g3_3 := later hq g2_3
          have g3_4 := later hq g2_4
          have g3_5 := later hq g2_5
          have z3_0 : w.heap.size < w2.heap.size := Nat.lt_of_lt_of_le z2_0 hq.size
          replace hB := thru hB hq
          replace yd := yd.later hq
          clear hb hq g2_0 g2_1 g2_2 g2_3 g2_4 g2_5 z2_0
          go_wp2_with fail
          refine (read_one _ _ _ _ _ _ _ _ _ _ _ _ _ (yX.later (al (Below.refl _ w2) _)) (by first | omega | decide) qr).mono ?_
          rintro e w3 ⟨x3, c3, rfl, ho, hb⟩
          have yU := ho.bts
          clear ho
          have hq := thru (al (Below.refl _ w2) _) hb
          have g4_0 := later hq g3_0
          have g4_1 := later hq g3_1
          have g4_2 := later hq g3_2
          have g4_3 := later hq g3_3
          have g4_4 := later hq g3_4
          have g4_5 := later hq g3_5
          have g4_6 := later (a := ⟨w2.heap.size, 0, none⟩) (v := .slice x2 ([] : List UInt8).length c2) hb (by go_simp)
          have g4_7 := later (a := ⟨w2.heap.size, 1, none⟩) (v := .int .i64 0) hb (by go_simp)
          have g4_8 := later (a := ⟨w2.heap.size, 2, none⟩) (v := .bool false) hb (by go_simp)
          have z4_0 : w.heap.size < w3.heap.size := Nat.lt_of_lt_of_le z3_0 hq.size
          have z4_1 : w2.heap.size < w3.heap.size := (by have := hb.size; simp at this; omega)
          replace hB := thru hB hq
          replace yd := yd.later hq
          replace yX := yX.later hq
          clear hb hq g3_0 g3_1 g3_2 g3_3 g3_4 g3_5 z3_0
          go_wp2_with fail
          refine (awake_any _).mono ?_
          rintro e w4 ⟨rfl, hb⟩
          have hq := thru (Below.refl _ w3) hb
          have g5_0 := later hq g4_0
          have g5_1 := later hq g4_1
          have g5_2 := later hq g4_2
          have g5_3 := later hq g4_3
          have g5_4 := later hq g4_4
          have g5_5 := later hq g4_5
          have g5_6 := later hq g4_6
          have g5_7 := later hq g4_7
          have g5_8 := later hq g4_8
          have z5_0 : w.heap.size < w4.heap.size := Nat.lt_of_lt_of_le z4_0 hq.size
          have z5_1 : w2.heap.size < w4.heap.size := Nat.lt_of_lt_of_le z4_1 hq.size
          replace hB := thru hB hq
          replace yd := yd.later hq
          replace yX := yX.later hq
          replace yU := yU.later hq
          clear hb hq g4_0 g4_1 g4_2 g4_3 g4_4 g4_5 g4_6 g4_7 g4_8 z4_0 z4_1
          go_wp2_with fail
          go_ret
          exact ⟨rfl, hB⟩
        · have qc : writeCode kind size depth refresh [] 0 false now d = 0 := by unfold writeCode; rw [if_neg (by rw [hrd]; simp [h0]), if_neg h1]
          have qs : writeS kind size depth refresh [] 0 false now d = (d, now, true) := by unfold writeS; rw [if_pos qc]
          have qr : readS kind size depth refresh d now true now = (d, true, 0) := read_now v m1 m2 h0 (by omega)
          have hne : ((d.length : Int) == 0) = false := by simp [h0]
          clear h0
          clear hrd v hs1 hs2 hr1 hr2
          go_wp2_with fail
          refine (write_one nm kind out size depth refresh none [] 0 0 false _ _ _ _ _ (Bts.nil _ _) (by decide) yd (by omega) qs qc).mono ?_
          rintro e w2 ⟨x2, c2, rfl, ho, hb⟩
          have yX := ho.bts
          clear ho
          have hq := thru (Below.refl _ wr) hb
          have g3_0 := later hq g2_0
          have g3_1 := later hq g2_1
          have g3_2 := later hq g2_2
          have g3_3 := later hq g2_3
          have g3_4 := later hq g2_4
          have g3_5 := later hq g2_5
          have z3_0 : w.heap.size < w2.heap.size := Nat.lt_of_lt_of_le z2_0 hq.size
          replace hB := thru hB hq
          replace yd := yd.later hq
          clear hb hq g2_0 g2_1 g2_2 g2_3 g2_4 g2_5 z2_0
          go_wp2_with fail
          refine (read_one _ _ _ _ _ _ _ _ _ _ _ _ _ (yX.later (al (Below.refl _ w2) _)) (by first | omega | decide) qr).mono ?_
          rintro e w3 ⟨x3, c3, rfl, ho, hb⟩
          have yU := ho.bts
          clear ho
          have hq := thru (al (Below.refl _ w2) _) hb
          have g4_0 := later hq g3_0
          have g4_1 := later hq g3_1
          have g4_2 := later hq g3_2
          have g4_3 := later hq g3_3
          have g4_4 := later hq g3_4
          have g4_5 := later hq g3_5
          have g4_6 := later (a := ⟨w2.heap.size, 0, none⟩) (v := .slice x2 d.length c2) hb (by go_simp)
          have g4_7 := later (a := ⟨w2.heap.size, 1, none⟩) (v := .int .i64 now) hb (by go_simp)
          have g4_8 := later (a := ⟨w2.heap.size, 2, none⟩) (v := .bool true) hb (by go_simp)
          have z4_0 : w.heap.size < w3.heap.size := Nat.lt_of_lt_of_le z3_0 hq.size
          have z4_1 : w2.heap.size < w3.heap.size := (by have := hb.size; simp at this; omega)
          replace hB := thru hB hq
          replace yd := yd.later hq
          replace yX := yX.later hq
          clear hb hq g3_0 g3_1 g3_2 g3_3 g3_4 g3_5 z3_0
          have cv1 := run_conv (P := Try.prog) (src := 24) (dst := 9) Try.underlying24 Try.underlying5 Try.underlying9 yU c3
          have cv2 := run_conv (P := Try.prog) (src := 24) (dst := 9) Try.underlying24 Try.underlying5 Try.underlying9 yd d.length
          go_wp2_with fail
          refine (awake_any _).mono ?_
          rintro e w4 ⟨rfl, hb⟩
          have hq := thru (Below.refl _ w3) hb
          have g5_0 := later hq g4_0
          have g5_1 := later hq g4_1
          have g5_2 := later hq g4_2
          have g5_3 := later hq g4_3
          have g5_4 := later hq g4_4
          have g5_5 := later hq g4_5
          have g5_6 := later hq g4_6
          have g5_7 := later hq g4_7
          have g5_8 := later hq g4_8
          have z5_0 : w.heap.size < w4.heap.size := Nat.lt_of_lt_of_le z4_0 hq.size
          have z5_1 : w2.heap.size < w4.heap.size := Nat.lt_of_lt_of_le z4_1 hq.size
          replace hB := thru hB hq
          replace yd := yd.later hq
          replace yX := yX.later hq
          replace yU := yU.later hq
          clear hb hq g4_0 g4_1 g4_2 g4_3 g4_4 g4_5 g4_6 g4_7 g4_8 z4_0 z4_1
          go_wp2_with fail
          go_ret
          exact ⟨rfl, hB⟩


theorem size_any (nm : ByteArray) (kind : Int) (out : Bool) (size depth refresh : Int) (n fill now : Int) (w : World) (n0 : 0 ≤ n) (_n1 : n ≤ 255) (f0 : 0 ≤ fill) (f1 : fill ≤ 255) : Calls Try.prog 6 #[.agg #[.string nm, .int .u8 kind, .bool out, .int .i64 size, .int .i64 depth, .int .i64 refresh], .int .u8 n, .int .u8 fill, .int .i64 now] w fun e w' => e = .returned (.bool true) ∧ Below w.heap.size w w' := by
  cases v : Smp.validB kind size depth refresh 0 0 false with
  | false => exact size_no0 nm kind out size depth refresh n fill now w v
  | true =>
    by_cases m1 : now < 0
    · exact size_no1 nm kind out size depth refresh n fill now w v m1
    by_cases m2 : 1073741824 < now
    · exact size_no2 nm kind out size depth refresh n fill now w v m1 m2
    have hmod : n.tmod 101 = n % 101 := Int.tmod_eq_emod_of_nonneg n0
    exact size_yes nm kind out size depth refresh n fill now w v (by omega) (by omega) f0 f1 (n % 101).toNat (by rw [hmod]; omega) (by omega)
      (fun w => run_make_row' 24 5 (.int .u8 0) 1 Try.underlying24 infoByte rfl .u8 .u8 _ (by omega) (by omega) w)


end Go.Proofs.Ytmeaelahmajheaa
