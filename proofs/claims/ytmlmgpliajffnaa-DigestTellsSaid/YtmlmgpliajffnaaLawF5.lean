/- WALKS of the laws of the digest layer: DigestTells. -/
import Derived.Test.YtmlmgpliajffnaaLawB5
namespace Go.Proofs.Ytmlmgpliajffnaa
open Go.RowKit

theorem toB {f : Nat} {a : Array Value} {w : World} {v : Value} (h : Calls Try.prog f a w fun e w' => e = .returned v ∧ w' = w) : Calls Try.prog f a w fun e w' => e = .returned v ∧ Below w.heap.size w w' :=
  h.mono fun _ _ h => ⟨h.1, by rw [h.2]; exact Below.refl _ _⟩
def RefParseB (s : ByteArray) (w : World) (e : Ending) (w' : World) : Prop :=
  (∃ d, parseR s = some d ∧ e = .returned (.tuple #[.int .u64 (num d), .int .i64 0]) ∨ parseR s = none ∧ e = .returned (.tuple #[.int .u64 0, .int .i64 50])) ∧ Below w.heap.size w w'

set_option maxHeartbeats 4000000 in
theorem tells_law (xa : Option Addr) (la : List UInt8) (ca : Nat) (x : D64) (n : Int) (other : D64) (text : ByteArray) (w : World) (ya : Bts w xa la) (hn : -9223372036854775808 ≤ n ∧ n ≤ 9223372036854775807)
    (h63 : la.length ≤ 9223372036854775807) (h63t : text.size ≤ 9223372036854775807) :
    Calls Try.prog 8 #[.slice xa la.length ca, .int .u64 (num x), .int .i64 n, .int .u64 (num other), .string text] w (YesOf w) := by
  by_cases c0 : 300 < (la.length : Int)
  · have y0_0 : decide (300 < (la.length : Int)) = true := decide_eq_true c0
    go_enter Try.func8, Try.ntmps8
    go_wp2_with fail
    refine (awake_any _).mono ?_
    rintro e w' ⟨rfl, hb⟩
    go_wp2_with fail
    go_ret
    exact ⟨rfl, hb⟩
  · have y0_0 : decide (300 < (la.length : Int)) = false := decide_eq_false c0
    by_cases c1 : 100 < (text.size : Int)
    · have y1_0 : decide (100 < (text.size : Int)) = true := decide_eq_true c1
      go_enter Try.func8, Try.ntmps8
      go_wp2_with fail
      refine (awake_any _).mono ?_
      rintro e w' ⟨rfl, hb⟩
      go_wp2_with fail
      go_ret
      exact ⟨rfl, hb⟩
    · have y1_0 : decide (100 < (text.size : Int)) = false := decide_eq_false c1
      have la3 : la.length ≤ 300 := by omega
      have tx : text.size ≤ 100 := by omega
      obtain ⟨X, hX⟩ : ∃ y, Dig.addL x la = y := ⟨_, rfl⟩
      obtain ⟨N, hN⟩ : ∃ m, wrap64 (n + (la.length : Int)) = m := ⟨_, rfl⟩
      obtain ⟨bx, hbx⟩ : ∃ l, Dig.bytes x = l := ⟨_, rfl⟩
      have F1 := Lib.hid hX
      have HN := Lib.hid hn
      clear hX hn c0 c1
      cases hp : parseR text with
      | some p =>
        have HP := Lib.hid hp
        clear hp
        have hB := Below.refl w.heap.size w
        have cv0 := run_conv (P := Try.prog) (src := 22) (dst := 9) Try.underlying22 Try.underlying5 Try.underlying9 ya ca
        go_enter Try.func8, Try.ntmps8
        go_wp2_with fail
        clear cv0
        refine (add_any x n xa la ca _ HN.out (by omega) ya).mono ?_
        rintro e w1 ⟨rfl, hb⟩
        rw [F1.out, hN]
        have hq := thru (Below.refl _ w) hb
        replace hB := thru hB hq
        clear hb hq 
        go_wp2_with fail
        refine (parse_any text _ (by omega)).mono ?_
        rintro e w2 ⟨⟨d, (⟨hd, rfl⟩ | ⟨hd, _⟩)⟩, hb⟩
        case inr => rw [HP.out] at hd; cases hd
        rw [HP.out] at hd
        obtain rfl : p = d := by simpa using hd
        clear hd
        have hq := thru (al (Below.refl _ w1) _) hb
        have g2_0 := later (a := ⟨w1.heap.size, 0, none⟩) (v := .int .u64 (num X)) hb (by go_simp)
        have g2_1 := later (a := ⟨w1.heap.size, 1, none⟩) (v := .int .i64 N) hb (by go_simp)
        have z2_0 : w1.heap.size < w2.heap.size := (by have := hb.size; first | omega | (simp at this; omega))
        replace hB := thru hB hq
        clear hb hq 
        go_wp2_with fail
        refine ((refParse_any text _ (by omega)).mono (fun _ _ h => ⟨h.1, by rw [h.2]; exact Below.refl _ _⟩ : ∀ e w', RefParseOf text w2 e w' → RefParseB text w2 e w')).mono ?_
        rintro e w3 ⟨⟨d, (⟨hd, rfl⟩ | ⟨hd, _⟩)⟩, hb⟩
        case inr => rw [HP.out] at hd; cases hd
        rw [HP.out] at hd
        obtain rfl : p = d := by simpa using hd
        clear hd
        have hq := thru (Below.refl _ w2) hb
        have g3_0 := later hq g2_0
        have g3_1 := later hq g2_1
        have z3_0 : w1.heap.size < w3.heap.size := Nat.lt_of_lt_of_le z2_0 hq.size
        replace hB := thru hB hq
        clear hb hq g2_0 g2_1 z2_0
        go_wp2_with fail
        refine wp_region_sched (fun W => W.cell? ⟨w1.heap.size, 0, none⟩ = some (.int .u64 (num X)) ∧ W.cell? ⟨w1.heap.size, 1, none⟩ = some (.int .i64 N) ∧ w1.heap.size < W.heap.size ∧ Below w.heap.size w W) (.one [0, 1, 2, 3] 4 (.one [5, 6, 7, 8, 9, 10, 11, 12, 13, 14, 15, 16, 18, 19, 20, 21] 17 (.one [] 22 (.one [23, 24, 25, 26, 28] 27 (.one [] 29 (.one [30, 31, 32, 33, 34, 36, 37] 35 (.one [] 38 (.one [39, 40, 41, 42, 44] 43 (.one [] 45 (.done [46, 47, 48, 49, 50, 51, 52, 53, 54, 55, 56, 57])))))))))) (by kernel_rfl) (by kernel_rfl) (fun _ _ _ _ _ h => h) ⟨(by go_simp), (by go_simp), (by simp <;> omega), hB.drew⟩ ?_
        clear hB g3_0 g3_1 z3_0
        rintro W ⟨g4_0, g4_1, z4_0, hB⟩
        rw [wpSched]
        simp only [pick, List.map_cons, List.map_nil, Array.getD_eq_getD_getElem?, List.getElem?_toArray, List.getElem?_cons_succ, List.getElem?_cons_zero, Option.getD_some]
        have kg4_0 := plusW_cell g4_0
        repeat (first | go_big_quiet_step (fail) | quiet_step (fail))
        refine wpQuiet_nil ?_
        clear kg4_0
        refine heavy_want (by rfl) (fun K' hK' => ?_)
        go_simp
        refine (toB (refAdd_any x xa la ca _ (by omega) (ya.later hB))).mono ?_
        rintro e V1 ⟨rfl, hb⟩
        refine hK' _ _ hb ?_
        clear hK' K'
        rw [F1.out]
        have hq := thru (Below.refl _ W) hb
        clear hb
        have g5_0 := later hq g4_0
        have g5_1 := later hq g4_1
        have z5_0 : w1.heap.size < V1.heap.size := Nat.lt_of_lt_of_le z4_0 hq.size
        replace hB := thru hB hq
        clear hq g4_0 g4_1 z4_0
        try simp only [Act.put, List.setIfInBounds_toArray, List.set_cons_zero, List.set_cons_succ]
        rw [wpSched]
        simp only [pick, List.map_cons, List.map_nil, Array.getD_eq_getD_getElem?, List.getElem?_toArray, List.getElem?_cons_succ, List.getElem?_cons_zero, Option.getD_some]
        have kg5_0 := plusW_cell g5_0
        have kg5_1 := plusW_cell g5_1
        repeat (first | go_big_quiet_step (fail) | quiet_step (fail))
        refine wpQuiet_nil ?_
        clear kg5_0 kg5_1
        refine heavy_want (by rfl) (fun K' hK' => ?_)
        go_simp
        refine (fin_any _ _ _).mono ?_
        rintro e V2 ⟨rfl, hb⟩
        refine hK' _ _ hb ?_
        clear hK' K'
        have hq := thru (Below.refl _ V1) hb
        clear hb
        have g6_0 := later hq g5_0
        have g6_1 := later hq g5_1
        have z6_0 : w1.heap.size < V2.heap.size := Nat.lt_of_lt_of_le z5_0 hq.size
        replace hB := thru hB hq
        clear hq g5_0 g5_1 z5_0
        try simp only [Act.put, List.setIfInBounds_toArray, List.set_cons_zero, List.set_cons_succ]
        rw [wpSched]
        simp only [pick, List.map_nil, Array.getD_eq_getD_getElem?, List.getElem?_toArray, List.getElem?_cons_succ, List.getElem?_cons_zero, Option.getD_some]
        refine wpQuiet_nil ?_
        refine heavy_want (by rfl) (fun K' hK' => ?_)
        go_simp
        refine (toB (refFin_any _ _ _)).mono ?_
        rintro e V3 ⟨rfl, hb⟩
        refine hK' _ _ hb ?_
        clear hK' K'
        have hq := thru (Below.refl _ V2) hb
        clear hb
        have g7_0 := later hq g6_0
        have g7_1 := later hq g6_1
        have z7_0 : w1.heap.size < V3.heap.size := Nat.lt_of_lt_of_le z6_0 hq.size
        replace hB := thru hB hq
        clear hq g6_0 g6_1 z6_0
        try simp only [Act.put, List.setIfInBounds_toArray, List.set_cons_zero, List.set_cons_succ]
        rw [wpSched]
        simp only [pick, List.map_cons, List.map_nil, Array.getD_eq_getD_getElem?, List.getElem?_toArray, List.getElem?_cons_succ, List.getElem?_cons_zero, Option.getD_some]
        repeat (first | go_big_quiet_step (fail) | quiet_step (fail))
        refine wpQuiet_nil ?_
        refine heavy_want (by rfl) (fun K' hK' => ?_)
        go_simp
        refine (of_any xa la ca _ (by omega) (ya.later hB)).mono ?_
        rintro e V4 ⟨rfl, hb⟩
        refine hK' _ _ hb ?_
        clear hK' K'
        have hq := thru (Below.refl _ V3) hb
        clear hb
        have g8_0 := later hq g7_0
        have g8_1 := later hq g7_1
        have z8_0 : w1.heap.size < V4.heap.size := Nat.lt_of_lt_of_le z7_0 hq.size
        replace hB := thru hB hq
        clear hq g7_0 g7_1 z7_0
        try simp only [Act.put, List.setIfInBounds_toArray, List.set_cons_zero, List.set_cons_succ]
        rw [wpSched]
        simp only [pick, List.map_nil, Array.getD_eq_getD_getElem?, List.getElem?_toArray, List.getElem?_cons_succ, List.getElem?_cons_zero, Option.getD_some]
        refine wpQuiet_nil ?_
        refine heavy_want (by rfl) (fun K' hK' => ?_)
        go_simp
        refine (toB (refOf_any xa la ca _ (by omega) (ya.later hB))).mono ?_
        rintro e V5 ⟨rfl, hb⟩
        refine hK' _ _ hb ?_
        clear hK' K'
        have hq := thru (Below.refl _ V4) hb
        clear hb
        have g9_0 := later hq g8_0
        have g9_1 := later hq g8_1
        have z9_0 : w1.heap.size < V5.heap.size := Nat.lt_of_lt_of_le z8_0 hq.size
        replace hB := thru hB hq
        clear hq g8_0 g8_1 z8_0
        try simp only [Act.put, List.setIfInBounds_toArray, List.set_cons_zero, List.set_cons_succ]
        rw [wpSched]
        simp only [pick, List.map_cons, List.map_nil, Array.getD_eq_getD_getElem?, List.getElem?_toArray, List.getElem?_cons_succ, List.getElem?_cons_zero, Option.getD_some]
        repeat (first | go_big_quiet_step (fail) | quiet_step (fail))
        refine wpQuiet_nil ?_
        refine heavy_want (by rfl) (fun K' hK' => ?_)
        go_simp
        refine (pair_any _ _ _).mono ?_
        rintro e V6 ⟨rfl, hb⟩
        refine hK' _ _ hb ?_
        clear hK' K'
        have hq := thru (Below.refl _ V5) hb
        clear hb
        have g10_0 := later hq g9_0
        have g10_1 := later hq g9_1
        have z10_0 : w1.heap.size < V6.heap.size := Nat.lt_of_lt_of_le z9_0 hq.size
        replace hB := thru hB hq
        clear hq g9_0 g9_1 z9_0
        try simp only [Act.put, List.setIfInBounds_toArray, List.set_cons_zero, List.set_cons_succ]
        rw [wpSched]
        simp only [pick, List.map_nil, Array.getD_eq_getD_getElem?, List.getElem?_toArray, List.getElem?_cons_succ, List.getElem?_cons_zero, Option.getD_some]
        refine wpQuiet_nil ?_
        refine heavy_want (by rfl) (fun K' hK' => ?_)
        go_simp
        refine (refPair_any _ _ _).mono ?_
        rintro e V7 ⟨rfl, hb⟩
        refine hK' _ _ hb ?_
        clear hK' K'
        have hq := thru (Below.refl _ V6) hb
        clear hb
        have g11_0 := later hq g10_0
        have g11_1 := later hq g10_1
        have z11_0 : w1.heap.size < V7.heap.size := Nat.lt_of_lt_of_le z10_0 hq.size
        replace hB := thru hB hq
        clear hq g10_0 g10_1 z10_0
        try simp only [Act.put, List.setIfInBounds_toArray, List.set_cons_zero, List.set_cons_succ]
        rw [wpSched]
        simp only [pick, List.map_cons, List.map_nil, Array.getD_eq_getD_getElem?, List.getElem?_toArray, List.getElem?_cons_succ, List.getElem?_cons_zero, Option.getD_some]
        repeat (first | go_big_quiet_step (fail) | quiet_step (fail))
        refine wpQuiet_nil ?_
        refine heavy_want (by rfl) (fun K' hK' => ?_)
        go_simp
        refine (text_any _ _).mono ?_
        rintro e V8 ⟨rfl, hb⟩
        refine hK' _ _ hb ?_
        clear hK' K'
        have hq := thru (Below.refl _ V7) hb
        clear hb
        have g12_0 := later hq g11_0
        have g12_1 := later hq g11_1
        have z12_0 : w1.heap.size < V8.heap.size := Nat.lt_of_lt_of_le z11_0 hq.size
        replace hB := thru hB hq
        clear hq g11_0 g11_1 z11_0
        try simp only [Act.put, List.setIfInBounds_toArray, List.set_cons_zero, List.set_cons_succ]
        rw [wpSched]
        simp only [pick, List.map_nil, Array.getD_eq_getD_getElem?, List.getElem?_toArray, List.getElem?_cons_succ, List.getElem?_cons_zero, Option.getD_some]
        refine wpQuiet_nil ?_
        refine heavy_want (by rfl) (fun K' hK' => ?_)
        go_simp
        refine (toB (refText_any _ _)).mono ?_
        rintro e V9 ⟨rfl, hb⟩
        refine hK' _ _ hb ?_
        clear hK' K'
        have hq := thru (Below.refl _ V8) hb
        clear hb
        have g13_0 := later hq g12_0
        have g13_1 := later hq g12_1
        have z13_0 : w1.heap.size < V9.heap.size := Nat.lt_of_lt_of_le z12_0 hq.size
        replace hB := thru hB hq
        clear hq g12_0 g12_1 z12_0
        try simp only [Act.put, List.setIfInBounds_toArray, List.set_cons_zero, List.set_cons_succ]
        rw [wpSched]
        simp only [pick, List.map_cons, List.map_nil, Array.getD_eq_getD_getElem?, List.getElem?_toArray, List.getElem?_cons_succ, List.getElem?_cons_zero, Option.getD_some]
        repeat (first | go_big_quiet_step (fail) | quiet_step (fail))
        refine wpQuiet_nil ?_
        go_wp2_with fail
        refine wp_region_sched (fun W => w1.heap.size < W.heap.size ∧ Below w.heap.size w W) (.one [0, 3] 1 (.one [2] 4 (.one [5, 6, 7, 8, 9, 10, 11, 12, 13, 14, 15, 16, 17, 18, 19, 20] 21 (.done [22, 23])))) (by kernel_rfl) (by kernel_rfl) (fun _ _ _ _ _ h => h) ⟨(by simp <;> omega), hB.drew⟩ ?_
        clear hB z13_0
        rintro U ⟨z14_0, hB⟩
        rw [wpSched]
        simp only [pick, List.map_cons, List.map_nil, Array.getD_eq_getD_getElem?, List.getElem?_toArray, List.getElem?_cons_succ, List.getElem?_cons_zero, Option.getD_some]
        repeat (first | go_big_quiet_step (fail) | quiet_step (fail))
        refine wpQuiet_nil ?_
        refine heavy_want (by rfl) (fun K' hK' => ?_)
        go_simp
        refine (bytes_any x _).mono ?_
        rintro e U1 ⟨b1, rfl, y1, hb⟩
        refine hK' _ _ hb ?_
        clear hK' K'
        have hq := thru (Below.refl _ U) hb
        clear hb
        have z15_0 : w1.heap.size < U1.heap.size := Nat.lt_of_lt_of_le z14_0 hq.size
        replace hB := thru hB hq
        clear hq z14_0
        try simp only [Act.put, List.setIfInBounds_toArray, List.set_cons_zero, List.set_cons_succ]
        rw [hbx] at y1 ⊢
        rw [wpSched]
        simp only [pick, List.map_cons, List.map_nil, Array.getD_eq_getD_getElem?, List.getElem?_toArray, List.getElem?_cons_succ, List.getElem?_cons_zero, Option.getD_some]
        have cv1 := fun z => run_conv (P := Try.prog) (src := 22) (dst := 9) Try.underlying22 Try.underlying5 Try.underlying9 (y1.later (plusW_below U1 z)) bx.length
        repeat (first | go_big_quiet_step (fail) | quiet_step (fail))
        refine wpQuiet_nil ?_
        clear cv1
        refine heavy_want (by rfl) (fun K' hK' => ?_)
        go_simp
        refine (refBytes_any x _).mono ?_
        rintro e U2 ⟨x2, c2, rfl, y2, hb⟩
        refine hK' _ _ hb ?_
        clear hK' K'
        rw [hbx] at y2 ⊢
        have y3 := y2.bts
        clear y2
        have hq := thru (Below.refl _ U1) hb
        clear hb
        have z16_0 : w1.heap.size < U2.heap.size := Nat.lt_of_lt_of_le z15_0 hq.size
        replace hB := thru hB hq
        replace y1 := y1.later hq
        clear hq z15_0
        try simp only [Act.put, List.setIfInBounds_toArray, List.set_cons_zero, List.set_cons_succ]
        clear y1
        rw [wpSched]
        simp only [pick, List.map_cons, List.map_nil, Array.getD_eq_getD_getElem?, List.getElem?_toArray, List.getElem?_cons_succ, List.getElem?_cons_zero, Option.getD_some]
        have cv2 := fun z => run_conv (P := Try.prog) (src := 22) (dst := 9) Try.underlying22 Try.underlying5 Try.underlying9 (y3.later (plusW_below U2 z)) c2
        have cv3 := fun z => run_conv (P := Try.prog) (src := 22) (dst := 9) Try.underlying22 Try.underlying5 Try.underlying9 ((ya.later hB).later (plusW_below U2 z)) ca
        repeat (first | go_big_quiet_step (fail) | quiet_step (fail))
        refine wpQuiet_nil ?_
        clear cv2 cv3 y3
        refine heavy_want (by rfl) (fun K' hK' => ?_)
        go_simp
        refine (awake_any _).mono ?_
        rintro e U3 ⟨rfl, hb⟩
        refine hK' _ _ hb ?_
        clear hK' K'
        have hq := thru (Below.refl _ U2) hb
        clear hb
        have z17_0 : w1.heap.size < U3.heap.size := Nat.lt_of_lt_of_le z16_0 hq.size
        replace hB := thru hB hq
        clear hq z16_0
        try simp only [Act.put, List.setIfInBounds_toArray, List.set_cons_zero, List.set_cons_succ]
        rw [wpSched]
        simp only [pick, List.map_cons, List.map_nil, Array.getD_eq_getD_getElem?, List.getElem?_toArray, List.getElem?_cons_succ, List.getElem?_cons_zero, Option.getD_some]
        repeat (first | go_big_quiet_step (fail) | quiet_step (fail))
        refine wpQuiet_nil ?_
        go_wp2_with fail
        go_ret
        exact ⟨rfl, hB⟩
      | none =>
        have HP := Lib.hid hp
        clear hp
        have hB := Below.refl w.heap.size w
        have cv0 := run_conv (P := Try.prog) (src := 22) (dst := 9) Try.underlying22 Try.underlying5 Try.underlying9 ya ca
        go_enter Try.func8, Try.ntmps8
        go_wp2_with fail
        clear cv0
        refine (add_any x n xa la ca _ HN.out (by omega) ya).mono ?_
        rintro e w1 ⟨rfl, hb⟩
        rw [F1.out, hN]
        have hq := thru (Below.refl _ w) hb
        replace hB := thru hB hq
        clear hb hq 
        go_wp2_with fail
        refine (parse_any text _ (by omega)).mono ?_
        rintro e w2 ⟨⟨d, (⟨hd, _⟩ | ⟨hd, rfl⟩)⟩, hb⟩
        case inl => rw [HP.out] at hd; cases hd
        clear hd
        have hq := thru (al (Below.refl _ w1) _) hb
        have g2_0 := later (a := ⟨w1.heap.size, 0, none⟩) (v := .int .u64 (num X)) hb (by go_simp)
        have g2_1 := later (a := ⟨w1.heap.size, 1, none⟩) (v := .int .i64 N) hb (by go_simp)
        have z2_0 : w1.heap.size < w2.heap.size := (by have := hb.size; first | omega | (simp at this; omega))
        replace hB := thru hB hq
        clear hb hq 
        go_wp2_with fail
        refine ((refParse_any text _ (by omega)).mono (fun _ _ h => ⟨h.1, by rw [h.2]; exact Below.refl _ _⟩ : ∀ e w', RefParseOf text w2 e w' → RefParseB text w2 e w')).mono ?_
        rintro e w3 ⟨⟨d, (⟨hd, _⟩ | ⟨hd, rfl⟩)⟩, hb⟩
        case inl => rw [HP.out] at hd; cases hd
        clear hd
        have hq := thru (Below.refl _ w2) hb
        have g3_0 := later hq g2_0
        have g3_1 := later hq g2_1
        have z3_0 : w1.heap.size < w3.heap.size := Nat.lt_of_lt_of_le z2_0 hq.size
        replace hB := thru hB hq
        clear hb hq g2_0 g2_1 z2_0
        go_wp2_with fail
        refine wp_region_sched (fun W => W.cell? ⟨w1.heap.size, 0, none⟩ = some (.int .u64 (num X)) ∧ W.cell? ⟨w1.heap.size, 1, none⟩ = some (.int .i64 N) ∧ w1.heap.size < W.heap.size ∧ Below w.heap.size w W) (.one [0, 1, 2, 3] 4 (.one [5, 6, 7, 8, 9, 10, 11, 12, 13, 14, 15, 16, 18, 19, 20, 21] 17 (.one [] 22 (.one [23, 24, 25, 26, 28] 27 (.one [] 29 (.one [30, 31, 32, 33, 34, 36, 37] 35 (.one [] 38 (.one [39, 40, 41, 42, 44] 43 (.one [] 45 (.done [46, 47, 48, 49, 50, 51, 52, 53, 54, 55, 56, 57])))))))))) (by kernel_rfl) (by kernel_rfl) (fun _ _ _ _ _ h => h) ⟨(by go_simp), (by go_simp), (by simp <;> omega), hB.drew⟩ ?_
        clear hB g3_0 g3_1 z3_0
        rintro W ⟨g4_0, g4_1, z4_0, hB⟩
        rw [wpSched]
        simp only [pick, List.map_cons, List.map_nil, Array.getD_eq_getD_getElem?, List.getElem?_toArray, List.getElem?_cons_succ, List.getElem?_cons_zero, Option.getD_some]
        have kg4_0 := plusW_cell g4_0
        repeat (first | go_big_quiet_step (fail) | quiet_step (fail))
        refine wpQuiet_nil ?_
        clear kg4_0
        refine heavy_want (by rfl) (fun K' hK' => ?_)
        go_simp
        refine (toB (refAdd_any x xa la ca _ (by omega) (ya.later hB))).mono ?_
        rintro e V1 ⟨rfl, hb⟩
        refine hK' _ _ hb ?_
        clear hK' K'
        rw [F1.out]
        have hq := thru (Below.refl _ W) hb
        clear hb
        have g5_0 := later hq g4_0
        have g5_1 := later hq g4_1
        have z5_0 : w1.heap.size < V1.heap.size := Nat.lt_of_lt_of_le z4_0 hq.size
        replace hB := thru hB hq
        clear hq g4_0 g4_1 z4_0
        try simp only [Act.put, List.setIfInBounds_toArray, List.set_cons_zero, List.set_cons_succ]
        rw [wpSched]
        simp only [pick, List.map_cons, List.map_nil, Array.getD_eq_getD_getElem?, List.getElem?_toArray, List.getElem?_cons_succ, List.getElem?_cons_zero, Option.getD_some]
        have kg5_0 := plusW_cell g5_0
        have kg5_1 := plusW_cell g5_1
        repeat (first | go_big_quiet_step (fail) | quiet_step (fail))
        refine wpQuiet_nil ?_
        clear kg5_0 kg5_1
        refine heavy_want (by rfl) (fun K' hK' => ?_)
        go_simp
        refine (fin_any _ _ _).mono ?_
        rintro e V2 ⟨rfl, hb⟩
        refine hK' _ _ hb ?_
        clear hK' K'
        have hq := thru (Below.refl _ V1) hb
        clear hb
        have g6_0 := later hq g5_0
        have g6_1 := later hq g5_1
        have z6_0 : w1.heap.size < V2.heap.size := Nat.lt_of_lt_of_le z5_0 hq.size
        replace hB := thru hB hq
        clear hq g5_0 g5_1 z5_0
        try simp only [Act.put, List.setIfInBounds_toArray, List.set_cons_zero, List.set_cons_succ]
        rw [wpSched]
        simp only [pick, List.map_nil, Array.getD_eq_getD_getElem?, List.getElem?_toArray, List.getElem?_cons_succ, List.getElem?_cons_zero, Option.getD_some]
        refine wpQuiet_nil ?_
        refine heavy_want (by rfl) (fun K' hK' => ?_)
        go_simp
        refine (toB (refFin_any _ _ _)).mono ?_
        rintro e V3 ⟨rfl, hb⟩
        refine hK' _ _ hb ?_
        clear hK' K'
        have hq := thru (Below.refl _ V2) hb
        clear hb
        have g7_0 := later hq g6_0
        have g7_1 := later hq g6_1
        have z7_0 : w1.heap.size < V3.heap.size := Nat.lt_of_lt_of_le z6_0 hq.size
        replace hB := thru hB hq
        clear hq g6_0 g6_1 z6_0
        try simp only [Act.put, List.setIfInBounds_toArray, List.set_cons_zero, List.set_cons_succ]
        rw [wpSched]
        simp only [pick, List.map_cons, List.map_nil, Array.getD_eq_getD_getElem?, List.getElem?_toArray, List.getElem?_cons_succ, List.getElem?_cons_zero, Option.getD_some]
        repeat (first | go_big_quiet_step (fail) | quiet_step (fail))
        refine wpQuiet_nil ?_
        refine heavy_want (by rfl) (fun K' hK' => ?_)
        go_simp
        refine (of_any xa la ca _ (by omega) (ya.later hB)).mono ?_
        rintro e V4 ⟨rfl, hb⟩
        refine hK' _ _ hb ?_
        clear hK' K'
        have hq := thru (Below.refl _ V3) hb
        clear hb
        have g8_0 := later hq g7_0
        have g8_1 := later hq g7_1
        have z8_0 : w1.heap.size < V4.heap.size := Nat.lt_of_lt_of_le z7_0 hq.size
        replace hB := thru hB hq
        clear hq g7_0 g7_1 z7_0
        try simp only [Act.put, List.setIfInBounds_toArray, List.set_cons_zero, List.set_cons_succ]
        rw [wpSched]
        simp only [pick, List.map_nil, Array.getD_eq_getD_getElem?, List.getElem?_toArray, List.getElem?_cons_succ, List.getElem?_cons_zero, Option.getD_some]
        refine wpQuiet_nil ?_
        refine heavy_want (by rfl) (fun K' hK' => ?_)
        go_simp
        refine (toB (refOf_any xa la ca _ (by omega) (ya.later hB))).mono ?_
        rintro e V5 ⟨rfl, hb⟩
        refine hK' _ _ hb ?_
        clear hK' K'
        have hq := thru (Below.refl _ V4) hb
        clear hb
        have g9_0 := later hq g8_0
        have g9_1 := later hq g8_1
        have z9_0 : w1.heap.size < V5.heap.size := Nat.lt_of_lt_of_le z8_0 hq.size
        replace hB := thru hB hq
        clear hq g8_0 g8_1 z8_0
        try simp only [Act.put, List.setIfInBounds_toArray, List.set_cons_zero, List.set_cons_succ]
        rw [wpSched]
        simp only [pick, List.map_cons, List.map_nil, Array.getD_eq_getD_getElem?, List.getElem?_toArray, List.getElem?_cons_succ, List.getElem?_cons_zero, Option.getD_some]
        repeat (first | go_big_quiet_step (fail) | quiet_step (fail))
        refine wpQuiet_nil ?_
        refine heavy_want (by rfl) (fun K' hK' => ?_)
        go_simp
        refine (pair_any _ _ _).mono ?_
        rintro e V6 ⟨rfl, hb⟩
        refine hK' _ _ hb ?_
        clear hK' K'
        have hq := thru (Below.refl _ V5) hb
        clear hb
        have g10_0 := later hq g9_0
        have g10_1 := later hq g9_1
        have z10_0 : w1.heap.size < V6.heap.size := Nat.lt_of_lt_of_le z9_0 hq.size
        replace hB := thru hB hq
        clear hq g9_0 g9_1 z9_0
        try simp only [Act.put, List.setIfInBounds_toArray, List.set_cons_zero, List.set_cons_succ]
        rw [wpSched]
        simp only [pick, List.map_nil, Array.getD_eq_getD_getElem?, List.getElem?_toArray, List.getElem?_cons_succ, List.getElem?_cons_zero, Option.getD_some]
        refine wpQuiet_nil ?_
        refine heavy_want (by rfl) (fun K' hK' => ?_)
        go_simp
        refine (refPair_any _ _ _).mono ?_
        rintro e V7 ⟨rfl, hb⟩
        refine hK' _ _ hb ?_
        clear hK' K'
        have hq := thru (Below.refl _ V6) hb
        clear hb
        have g11_0 := later hq g10_0
        have g11_1 := later hq g10_1
        have z11_0 : w1.heap.size < V7.heap.size := Nat.lt_of_lt_of_le z10_0 hq.size
        replace hB := thru hB hq
        clear hq g10_0 g10_1 z10_0
        try simp only [Act.put, List.setIfInBounds_toArray, List.set_cons_zero, List.set_cons_succ]
        rw [wpSched]
        simp only [pick, List.map_cons, List.map_nil, Array.getD_eq_getD_getElem?, List.getElem?_toArray, List.getElem?_cons_succ, List.getElem?_cons_zero, Option.getD_some]
        repeat (first | go_big_quiet_step (fail) | quiet_step (fail))
        refine wpQuiet_nil ?_
        refine heavy_want (by rfl) (fun K' hK' => ?_)
        go_simp
        refine (text_any _ _).mono ?_
        rintro e V8 ⟨rfl, hb⟩
        refine hK' _ _ hb ?_
        clear hK' K'
        have hq := thru (Below.refl _ V7) hb
        clear hb
        have g12_0 := later hq g11_0
        have g12_1 := later hq g11_1
        have z12_0 : w1.heap.size < V8.heap.size := Nat.lt_of_lt_of_le z11_0 hq.size
        replace hB := thru hB hq
        clear hq g11_0 g11_1 z11_0
        try simp only [Act.put, List.setIfInBounds_toArray, List.set_cons_zero, List.set_cons_succ]
        rw [wpSched]
        simp only [pick, List.map_nil, Array.getD_eq_getD_getElem?, List.getElem?_toArray, List.getElem?_cons_succ, List.getElem?_cons_zero, Option.getD_some]
        refine wpQuiet_nil ?_
        refine heavy_want (by rfl) (fun K' hK' => ?_)
        go_simp
        refine (toB (refText_any _ _)).mono ?_
        rintro e V9 ⟨rfl, hb⟩
        refine hK' _ _ hb ?_
        clear hK' K'
        have hq := thru (Below.refl _ V8) hb
        clear hb
        have g13_0 := later hq g12_0
        have g13_1 := later hq g12_1
        have z13_0 : w1.heap.size < V9.heap.size := Nat.lt_of_lt_of_le z12_0 hq.size
        replace hB := thru hB hq
        clear hq g12_0 g12_1 z12_0
        try simp only [Act.put, List.setIfInBounds_toArray, List.set_cons_zero, List.set_cons_succ]
        rw [wpSched]
        simp only [pick, List.map_cons, List.map_nil, Array.getD_eq_getD_getElem?, List.getElem?_toArray, List.getElem?_cons_succ, List.getElem?_cons_zero, Option.getD_some]
        repeat (first | go_big_quiet_step (fail) | quiet_step (fail))
        refine wpQuiet_nil ?_
        go_wp2_with fail
        refine wp_region_sched (fun W => w1.heap.size < W.heap.size ∧ Below w.heap.size w W) (.one [0, 3] 1 (.one [2] 4 (.one [5, 6, 7, 8, 9, 10, 11, 12, 13, 14, 15, 16, 17, 18, 19, 20] 21 (.done [22, 23])))) (by kernel_rfl) (by kernel_rfl) (fun _ _ _ _ _ h => h) ⟨(by simp <;> omega), hB.drew⟩ ?_
        clear hB z13_0
        rintro U ⟨z14_0, hB⟩
        rw [wpSched]
        simp only [pick, List.map_cons, List.map_nil, Array.getD_eq_getD_getElem?, List.getElem?_toArray, List.getElem?_cons_succ, List.getElem?_cons_zero, Option.getD_some]
        repeat (first | go_big_quiet_step (fail) | quiet_step (fail))
        refine wpQuiet_nil ?_
        refine heavy_want (by rfl) (fun K' hK' => ?_)
        go_simp
        refine (bytes_any x _).mono ?_
        rintro e U1 ⟨b1, rfl, y1, hb⟩
        refine hK' _ _ hb ?_
        clear hK' K'
        have hq := thru (Below.refl _ U) hb
        clear hb
        have z15_0 : w1.heap.size < U1.heap.size := Nat.lt_of_lt_of_le z14_0 hq.size
        replace hB := thru hB hq
        clear hq z14_0
        try simp only [Act.put, List.setIfInBounds_toArray, List.set_cons_zero, List.set_cons_succ]
        rw [hbx] at y1 ⊢
        rw [wpSched]
        simp only [pick, List.map_cons, List.map_nil, Array.getD_eq_getD_getElem?, List.getElem?_toArray, List.getElem?_cons_succ, List.getElem?_cons_zero, Option.getD_some]
        have cv1 := fun z => run_conv (P := Try.prog) (src := 22) (dst := 9) Try.underlying22 Try.underlying5 Try.underlying9 (y1.later (plusW_below U1 z)) bx.length
        repeat (first | go_big_quiet_step (fail) | quiet_step (fail))
        refine wpQuiet_nil ?_
        clear cv1
        refine heavy_want (by rfl) (fun K' hK' => ?_)
        go_simp
        refine (refBytes_any x _).mono ?_
        rintro e U2 ⟨x2, c2, rfl, y2, hb⟩
        refine hK' _ _ hb ?_
        clear hK' K'
        rw [hbx] at y2 ⊢
        have y3 := y2.bts
        clear y2
        have hq := thru (Below.refl _ U1) hb
        clear hb
        have z16_0 : w1.heap.size < U2.heap.size := Nat.lt_of_lt_of_le z15_0 hq.size
        replace hB := thru hB hq
        replace y1 := y1.later hq
        clear hq z15_0
        try simp only [Act.put, List.setIfInBounds_toArray, List.set_cons_zero, List.set_cons_succ]
        clear y1
        rw [wpSched]
        simp only [pick, List.map_cons, List.map_nil, Array.getD_eq_getD_getElem?, List.getElem?_toArray, List.getElem?_cons_succ, List.getElem?_cons_zero, Option.getD_some]
        have cv2 := fun z => run_conv (P := Try.prog) (src := 22) (dst := 9) Try.underlying22 Try.underlying5 Try.underlying9 (y3.later (plusW_below U2 z)) c2
        have cv3 := fun z => run_conv (P := Try.prog) (src := 22) (dst := 9) Try.underlying22 Try.underlying5 Try.underlying9 ((ya.later hB).later (plusW_below U2 z)) ca
        repeat (first | go_big_quiet_step (fail) | quiet_step (fail))
        refine wpQuiet_nil ?_
        clear cv2 cv3 y3
        refine heavy_want (by rfl) (fun K' hK' => ?_)
        go_simp
        refine (awake_any _).mono ?_
        rintro e U3 ⟨rfl, hb⟩
        refine hK' _ _ hb ?_
        clear hK' K'
        have hq := thru (Below.refl _ U2) hb
        clear hb
        have z17_0 : w1.heap.size < U3.heap.size := Nat.lt_of_lt_of_le z16_0 hq.size
        replace hB := thru hB hq
        clear hq z16_0
        try simp only [Act.put, List.setIfInBounds_toArray, List.set_cons_zero, List.set_cons_succ]
        rw [wpSched]
        simp only [pick, List.map_cons, List.map_nil, Array.getD_eq_getD_getElem?, List.getElem?_toArray, List.getElem?_cons_succ, List.getElem?_cons_zero, Option.getD_some]
        repeat (first | go_big_quiet_step (fail) | quiet_step (fail))
        refine wpQuiet_nil ?_
        go_wp2_with fail
        go_ret
        exact ⟨rfl, hB⟩

end Go.Proofs.Ytmlmgpliajffnaa
