/- WALKS of the crc layer: equality of bytes, the examples of the chapter. -/
import Derived.Test.YtcdmmhbmpkdagaaCrcC
import Derived.Test.YtcdmmhbmpkdagaaCrcF
import Derived.Lib.SlBytesConst
namespace Go.Proofs.Ytcdmmhbmpkdagaa
open Go.RowKit

theorem bts_new' (g : Nat) (w : World) (l : List UInt8) (t : TypeId) (p : Nat × Nat) (hg : w.heap.size = g) : Bts (w.alloc (.cells (l.map encB).toArray t p)) (some ⟨g, 0, none⟩) l := by
  subst hg; exact bts_new w l t p

theorem str_eq (l m : List UInt8) : ((⟨l.toArray⟩ : ByteArray) == ⟨m.toArray⟩) = (l == m) := by
  show (l.toArray == m.toArray) = (l == m)
  rw [Bool.eq_iff_iff]
  simp

theorem same_any (x : Option Addr) (l : List UInt8) (c : Nat) (y : Option Addr) (m : List UInt8) (d : Nat) (w : World) (hx : Bts w x l) (hy : Bts w y m) :
    Calls Try.prog 13 #[.slice x l.length c, .slice y m.length d] w fun e w' => e = .returned (.bool (l == m)) ∧ w' = w := by
  have e0 := str_eq l m
  have cv0 := run_conv (P := Try.prog) (src := 22) (dst := 9) Try.underlying22 Try.underlying5 Try.underlying9 hx c
  have cv1 := run_conv (P := Try.prog) (src := 22) (dst := 9) Try.underlying22 Try.underlying5 Try.underlying9 hy d
  go_enter Try.func13, Try.ntmps13
  go_wp2_with fail
  go_ret
  exact ⟨rfl, rfl⟩

set_option maxHeartbeats 4000000 in
theorem awake_any (w : World) : Calls Try.prog 9 #[] w fun e w' => e = .returned (.bool true) ∧ Below w.heap.size w w' := by
  have e0 : n32 (Crc.sum []) = 0 := by decide +kernel
  have e9 : n32 (Crc.sum [49, 50, 51, 52, 53, 54, 55, 56, 57]) = 3421780262 := by decide +kernel
  have e1 : n32 (Crc.sum [0]) = 3523407757 := by decide +kernel
  have ec : n32 (Crc.combine (Crc.sum [49, 50, 51, 52]) (Crc.sum [53, 54, 55, 56, 57]) 5) = 3421780262 := by decide +kernel
  have a0 : [] ++ Crc.trailer (Crc.sum []) = [0, 0, 0, 0] := by decide +kernel
  have hc : (num4 0 0 0 1 != Crc.sum [0]) = true := by decide +kernel
  have E0 := Lib.hid e0
  have E9 := Lib.hid e9
  have E1 := Lib.hid e1
  have EC := Lib.hid ec
  have A0 := Lib.hid a0
  have HC := Lib.hid hc
  clear e0 e9 e1 ec a0 hc
  have hB := Below.refl w.heap.size w
  have hsz : ∀ o, (w.alloc o).heap.size = w.heap.size + 1 := fun o => by simp
  have hcv := fun (w : World) (C : Array Value) (n c : Nat) => Lib.run_convert_bytes_const (P := Try.prog) w 22 5 C n c Try.underlying22 Try.underlying5
  go_enter Try.func9, Try.ntmps9
  go_wp2_with fail
  clear hcv
  refine (check_no (w.heap.size + 1) 0 [0] 0 0 0 1 5 _ (bts_new' (w.heap.size + 1) _ [0, 0, 0, 0, 1] _ _ (hsz _)) (by decide) (by decide) (by decide) HC.out).mono ?_
  rintro e w1 ⟨rfl, hb⟩
  have y9 : Bts w1 (some ⟨w.heap.size, 0, none⟩) [49, 50, 51, 52, 53, 54, 55, 56, 57] := Bts.later (Bts.later (bts_new w [49, 50, 51, 52, 53, 54, 55, 56, 57] _ _) (al (Below.refl _ _) _)) hb
  have hq := thru (al (al (Below.refl _ w) _) _) hb
  have z1_0 : w.heap.size < w1.heap.size := (by have := hb.size; first | omega | (simp at this; omega))
  have z1_1 : w.heap.size + 1 < w1.heap.size := (by have := hb.size; first | omega | (simp at this; omega))
  replace hB := thru hB hq
  clear hb hq 
  go_wp2_with fail
  refine wp_region_sched (fun W => w.heap.size < W.heap.size ∧ w.heap.size + 1 < W.heap.size ∧ Bts W (some ⟨w.heap.size, 0, none⟩) [49, 50, 51, 52, 53, 54, 55, 56, 57] ∧ Below w.heap.size w W) (.one [0, 1, 2] 3 (.one [4, 5, 6, 7] 8 (.one [9, 10, 11] 12 (.one [] 13 (.two [14, 15, 16] 17 (.one [] 18 (.one [] 19 (.one [20, 21, 22, 23, 25, 26] 24 (.one [] 27 (.one [] 28 (.done [29, 30, 31])))))) 18 (.one [] 17 (.one [] 19 (.one [20, 21, 22, 23, 25, 26] 24 (.one [] 27 (.one [] 28 (.done [29, 30, 31]))))))))))) (by kernel_rfl) (by kernel_rfl) (fun _ _ _ _ _ h => h) ⟨(by simp <;> omega), (by simp <;> omega), y9, hB.drew⟩ ?_
  clear hB z1_0 z1_1 y9
  rintro W ⟨z2_0, z2_1, y9, hB⟩
  rw [wpSched]
  simp only [pick, List.map_cons, List.map_nil, Array.getD_eq_getD_getElem?, List.getElem?_toArray, List.getElem?_cons_succ, List.getElem?_cons_zero, Option.getD_some]
  repeat (first | go_big_quiet_step (fail) | quiet_step (fail))
  refine wpQuiet_nil ?_
  refine heavy_want (by rfl) (fun K' hK' => ?_)
  go_simp
  refine (sum_any none [] 0 _ (Bts.nil _ _) (by decide)).mono ?_
  rintro e V1 ⟨rfl, hb⟩
  refine hK' _ _ hb ?_
  clear hK' K'
  rw [E0.out]
  have hq := thru (Below.refl _ W) hb
  clear hb
  have z3_0 : w.heap.size < V1.heap.size := Nat.lt_of_lt_of_le z2_0 hq.size
  have z3_1 : w.heap.size + 1 < V1.heap.size := Nat.lt_of_lt_of_le z2_1 hq.size
  replace hB := thru hB hq
  replace y9 := y9.later hq
  clear hq z2_0 z2_1
  try simp only [Act.put, List.setIfInBounds_toArray, List.set_cons_zero, List.set_cons_succ]
  rw [wpSched]
  simp only [pick, List.map_cons, List.map_nil, Array.getD_eq_getD_getElem?, List.getElem?_toArray, List.getElem?_cons_succ, List.getElem?_cons_zero, Option.getD_some]
  repeat (first | go_big_quiet_step (fail) | quiet_step (fail))
  refine wpQuiet_nil ?_
  refine heavy_want (by rfl) (fun K' hK' => ?_)
  go_simp
  refine (sum_any _ [49, 50, 51, 52, 53, 54, 55, 56, 57] 9 _ y9 (by decide)).mono ?_
  rintro e V2 ⟨rfl, hb⟩
  refine hK' _ _ hb ?_
  clear hK' K'
  rw [E9.out]
  have hq := thru (Below.refl _ V1) hb
  clear hb
  have z4_0 : w.heap.size < V2.heap.size := Nat.lt_of_lt_of_le z3_0 hq.size
  have z4_1 : w.heap.size + 1 < V2.heap.size := Nat.lt_of_lt_of_le z3_1 hq.size
  replace hB := thru hB hq
  replace y9 := y9.later hq
  clear hq z3_0 z3_1
  try simp only [Act.put, List.setIfInBounds_toArray, List.set_cons_zero, List.set_cons_succ]
  rw [wpSched]
  simp only [pick, List.map_cons, List.map_nil, Array.getD_eq_getD_getElem?, List.getElem?_toArray, List.getElem?_cons_succ, List.getElem?_cons_zero, Option.getD_some]
  repeat (first | go_big_quiet_step (fail) | quiet_step (fail))
  refine wpQuiet_nil ?_
  refine heavy_want (by rfl) (fun K' hK' => ?_)
  go_simp
  refine hK' _ _ (al (Below.refl _ _) _) ?_
  clear hK' K'
  have hq := al (Below.refl _ V2) (.cells #[.int .u8 0] 5)
  have fr0 : (V2.alloc (.cells #[.int .u8 0] 5)).cell? ⟨V2.heap.size, 0, none⟩ = some (.int .u8 0) := by go_simp
  have frz : V2.heap.size < (V2.alloc (.cells #[.int .u8 0] 5)).heap.size := by simp
  obtain ⟨V3, hw2⟩ : ∃ X : World, V2.alloc (.cells #[.int .u8 0] 5) = X := ⟨_, rfl⟩
  rw [hw2] at hq frz fr0
  rw [hw2]
  clear hw2
  have z5_0 : w.heap.size < V3.heap.size := Nat.lt_of_lt_of_le z4_0 hq.size
  have z5_1 : w.heap.size + 1 < V3.heap.size := Nat.lt_of_lt_of_le z4_1 hq.size
  replace hB := thru hB hq
  replace y9 := y9.later hq
  clear hq z4_0 z4_1
  have n5_0 := fr0
  have m5 := frz
  clear frz fr0
  have y1 : Bts V3 (some ⟨V2.heap.size, 0, none⟩) [0] := .inr ⟨_, 0, rfl, fun i hi => by match i, hi with | 0, _ => exact n5_0 | k + 1, h => exact absurd h (by simp)⟩
  clear n5_0
  try simp only [Act.put, List.setIfInBounds_toArray, List.set_cons_zero, List.set_cons_succ]
  rw [wpSched]
  simp only [pick, List.map_nil, Array.getD_eq_getD_getElem?, List.getElem?_toArray, List.getElem?_cons_succ, List.getElem?_cons_zero, Option.getD_some]
  refine wpQuiet_nil ?_
  refine heavy_want (by rfl) (fun K' hK' => ?_)
  go_simp
  refine (sum_any _ [0] 1 _ y1 (by decide)).mono ?_
  rintro e V4 ⟨rfl, hb⟩
  refine hK' _ _ hb ?_
  clear hK' K'
  rw [E1.out]
  have hq := thru (Below.refl _ V3) hb
  clear hb
  have z6_0 : w.heap.size < V4.heap.size := Nat.lt_of_lt_of_le z5_0 hq.size
  have z6_1 : w.heap.size + 1 < V4.heap.size := Nat.lt_of_lt_of_le z5_1 hq.size
  have z6_2 : V2.heap.size < V4.heap.size := Nat.lt_of_lt_of_le m5 hq.size
  replace hB := thru hB hq
  replace y9 := y9.later hq
  replace y1 := y1.later hq
  clear hq z5_0 z5_1 m5
  try simp only [Act.put, List.setIfInBounds_toArray, List.set_cons_zero, List.set_cons_succ]
  rw [wpSched]
  simp only [pick, List.map_cons, List.map_nil, Array.getD_eq_getD_getElem?, List.getElem?_toArray, List.getElem?_cons_succ, List.getElem?_cons_zero, Option.getD_some]
  repeat (first | go_big_quiet_step (fail) | quiet_step (fail))
  refine wpQuiet_nil ?_
  refine ⟨?_, ?_⟩
  · refine heavy_want (by rfl) (fun K' hK' => ?_)
    go_simp
    refine (append_any none [] 0 _ (Bts.nil _ _) (by decide)).mono ?_
    rintro e P1 ⟨xa, ca, rfl, ho, hb⟩
    refine hK' _ _ hb ?_
    clear hK' K'
    have ya := ho.bts
    clear ho
    rw [A0.out] at ya ⊢
    have hq := thru (Below.refl _ V4) hb
    clear hb
    have z7_0 : w.heap.size < P1.heap.size := Nat.lt_of_lt_of_le z6_0 hq.size
    have z7_1 : w.heap.size + 1 < P1.heap.size := Nat.lt_of_lt_of_le z6_1 hq.size
    have z7_2 : V2.heap.size < P1.heap.size := Nat.lt_of_lt_of_le z6_2 hq.size
    replace hB := thru hB hq
    replace y9 := y9.later hq
    replace y1 := y1.later hq
    clear hq z6_0 z6_1 z6_2
    try simp only [Act.put, List.setIfInBounds_toArray, List.set_cons_zero, List.set_cons_succ]
    rw [wpSched]
    simp only [pick, List.map_nil, Array.getD_eq_getD_getElem?, List.getElem?_toArray, List.getElem?_cons_succ, List.getElem?_cons_zero, Option.getD_some]
    refine wpQuiet_nil ?_
    refine heavy_want (by rfl) (fun K' hK' => ?_)
    go_simp
    refine hK' _ _ (al (Below.refl _ _) _) ?_
    clear hK' K'
    have hq := al (Below.refl _ P1) (.cells #[.int .u8 0, .int .u8 0, .int .u8 0, .int .u8 0] 5)
    have fr0 : (P1.alloc (.cells #[.int .u8 0, .int .u8 0, .int .u8 0, .int .u8 0] 5)).cell? ⟨P1.heap.size, 0, none⟩ = some (.int .u8 0) := by go_simp
    have fr1 : (P1.alloc (.cells #[.int .u8 0, .int .u8 0, .int .u8 0, .int .u8 0] 5)).cell? ⟨P1.heap.size, 1, none⟩ = some (.int .u8 0) := by go_simp
    have fr2 : (P1.alloc (.cells #[.int .u8 0, .int .u8 0, .int .u8 0, .int .u8 0] 5)).cell? ⟨P1.heap.size, 2, none⟩ = some (.int .u8 0) := by go_simp
    have fr3 : (P1.alloc (.cells #[.int .u8 0, .int .u8 0, .int .u8 0, .int .u8 0] 5)).cell? ⟨P1.heap.size, 3, none⟩ = some (.int .u8 0) := by go_simp
    have frz : P1.heap.size < (P1.alloc (.cells #[.int .u8 0, .int .u8 0, .int .u8 0, .int .u8 0] 5)).heap.size := by simp
    obtain ⟨P2, hw2⟩ : ∃ X : World, P1.alloc (.cells #[.int .u8 0, .int .u8 0, .int .u8 0, .int .u8 0] 5) = X := ⟨_, rfl⟩
    rw [hw2] at hq frz fr0 fr1 fr2 fr3
    rw [hw2]
    clear hw2
    have z8_0 : w.heap.size < P2.heap.size := Nat.lt_of_lt_of_le z7_0 hq.size
    have z8_1 : w.heap.size + 1 < P2.heap.size := Nat.lt_of_lt_of_le z7_1 hq.size
    have z8_2 : V2.heap.size < P2.heap.size := Nat.lt_of_lt_of_le z7_2 hq.size
    replace hB := thru hB hq
    replace y9 := y9.later hq
    replace y1 := y1.later hq
    replace ya := ya.later hq
    clear hq z7_0 z7_1 z7_2
    have n8_0 := fr0
    have n8_1 := fr1
    have n8_2 := fr2
    have n8_3 := fr3
    have m8 := frz
    clear frz fr0 fr1 fr2 fr3
    have yz : Bts P2 (some ⟨P1.heap.size, 0, none⟩) [0, 0, 0, 0] := .inr ⟨_, 0, rfl, fun i hi => by match i, hi with | 0, _ => exact n8_0 | 1, _ => exact n8_1 | 2, _ => exact n8_2 | 3, _ => exact n8_3 | k + 4, h => exact absurd h (by simp)⟩
    clear n8_0 n8_1 n8_2 n8_3
    try simp only [Act.put, List.setIfInBounds_toArray, List.set_cons_zero, List.set_cons_succ]
    rw [wpSched]
    simp only [pick, List.map_nil, Array.getD_eq_getD_getElem?, List.getElem?_toArray, List.getElem?_cons_succ, List.getElem?_cons_zero, Option.getD_some]
    refine wpQuiet_nil ?_
    refine heavy_want (by rfl) (fun K' hK' => ?_)
    go_simp
    refine (toB (same_any xa [0, 0, 0, 0] ca _ [0, 0, 0, 0] 4 _ ya yz)).mono ?_
    rintro e P31 ⟨rfl, hb⟩
    refine hK' _ _ hb ?_
    clear hK' K'
    have hq := thru (Below.refl _ P2) hb
    clear hb
    have z9_0 : w.heap.size < P31.heap.size := Nat.lt_of_lt_of_le z8_0 hq.size
    have z9_1 : w.heap.size + 1 < P31.heap.size := Nat.lt_of_lt_of_le z8_1 hq.size
    have z9_2 : V2.heap.size < P31.heap.size := Nat.lt_of_lt_of_le z8_2 hq.size
    have z9_3 : P1.heap.size < P31.heap.size := Nat.lt_of_lt_of_le m8 hq.size
    replace hB := thru hB hq
    replace y9 := y9.later hq
    replace y1 := y1.later hq
    replace ya := ya.later hq
    replace yz := yz.later hq
    clear hq z8_0 z8_1 z8_2 m8
    try simp only [Act.put, List.setIfInBounds_toArray, List.set_cons_zero, List.set_cons_succ]
    rw [wpSched]
    simp only [pick, List.map_cons, List.map_nil, Array.getD_eq_getD_getElem?, List.getElem?_toArray, List.getElem?_cons_succ, List.getElem?_cons_zero, Option.getD_some]
    repeat (first | go_big_quiet_step (fail) | quiet_step (fail))
    refine wpQuiet_nil ?_
    refine heavy_want (by rfl) (fun K' hK' => ?_)
    go_simp
    refine (sum_any _ [49, 50, 51, 52] 9 _ (Bts.left (l := [49, 50, 51, 52]) (m := [53, 54, 55, 56, 57]) y9) (by decide)).mono ?_
    rintro e P32 ⟨rfl, hb⟩
    refine hK' _ _ hb ?_
    clear hK' K'
    have hq := thru (Below.refl _ P31) hb
    clear hb
    have z10_0 : w.heap.size < P32.heap.size := Nat.lt_of_lt_of_le z9_0 hq.size
    have z10_1 : w.heap.size + 1 < P32.heap.size := Nat.lt_of_lt_of_le z9_1 hq.size
    have z10_2 : V2.heap.size < P32.heap.size := Nat.lt_of_lt_of_le z9_2 hq.size
    have z10_3 : P1.heap.size < P32.heap.size := Nat.lt_of_lt_of_le z9_3 hq.size
    replace hB := thru hB hq
    replace y9 := y9.later hq
    replace y1 := y1.later hq
    replace ya := ya.later hq
    replace yz := yz.later hq
    clear hq z9_0 z9_1 z9_2 z9_3
    try simp only [Act.put, List.setIfInBounds_toArray, List.set_cons_zero, List.set_cons_succ]
    rw [wpSched]
    simp only [pick, List.map_nil, Array.getD_eq_getD_getElem?, List.getElem?_toArray, List.getElem?_cons_succ, List.getElem?_cons_zero, Option.getD_some]
    refine wpQuiet_nil ?_
    refine heavy_want (by rfl) (fun K' hK' => ?_)
    go_simp
    refine (sum_any _ [53, 54, 55, 56, 57] 5 _ (Bts.right (l := [49, 50, 51, 52]) (m := [53, 54, 55, 56, 57]) y9) (by decide)).mono ?_
    rintro e P33 ⟨rfl, hb⟩
    refine hK' _ _ hb ?_
    clear hK' K'
    have hq := thru (Below.refl _ P32) hb
    clear hb
    have z11_0 : w.heap.size < P33.heap.size := Nat.lt_of_lt_of_le z10_0 hq.size
    have z11_1 : w.heap.size + 1 < P33.heap.size := Nat.lt_of_lt_of_le z10_1 hq.size
    have z11_2 : V2.heap.size < P33.heap.size := Nat.lt_of_lt_of_le z10_2 hq.size
    have z11_3 : P1.heap.size < P33.heap.size := Nat.lt_of_lt_of_le z10_3 hq.size
    replace hB := thru hB hq
    replace y9 := y9.later hq
    replace y1 := y1.later hq
    replace ya := ya.later hq
    replace yz := yz.later hq
    clear hq z10_0 z10_1 z10_2 z10_3
    try simp only [Act.put, List.setIfInBounds_toArray, List.set_cons_zero, List.set_cons_succ]
    rw [wpSched]
    simp only [pick, List.map_nil, Array.getD_eq_getD_getElem?, List.getElem?_toArray, List.getElem?_cons_succ, List.getElem?_cons_zero, Option.getD_some]
    refine wpQuiet_nil ?_
    refine heavy_want (by rfl) (fun K' hK' => ?_)
    go_simp
    refine (combine_any (Crc.sum [49, 50, 51, 52]) (Crc.sum [53, 54, 55, 56, 57]) 5 _ (by decide)).mono ?_
    rintro e P34 ⟨rfl, hb⟩
    refine hK' _ _ hb ?_
    clear hK' K'
    rw [EC.out]
    have hq := thru (Below.refl _ P33) hb
    clear hb
    have z12_0 : w.heap.size < P34.heap.size := Nat.lt_of_lt_of_le z11_0 hq.size
    have z12_1 : w.heap.size + 1 < P34.heap.size := Nat.lt_of_lt_of_le z11_1 hq.size
    have z12_2 : V2.heap.size < P34.heap.size := Nat.lt_of_lt_of_le z11_2 hq.size
    have z12_3 : P1.heap.size < P34.heap.size := Nat.lt_of_lt_of_le z11_3 hq.size
    replace hB := thru hB hq
    replace y9 := y9.later hq
    replace y1 := y1.later hq
    replace ya := ya.later hq
    replace yz := yz.later hq
    clear hq z11_0 z11_1 z11_2 z11_3
    try simp only [Act.put, List.setIfInBounds_toArray, List.set_cons_zero, List.set_cons_succ]
    rw [wpSched]
    simp only [pick, List.map_cons, List.map_nil, Array.getD_eq_getD_getElem?, List.getElem?_toArray, List.getElem?_cons_succ, List.getElem?_cons_zero, Option.getD_some]
    repeat (first | go_big_quiet_step (fail) | quiet_step (fail))
    refine wpQuiet_nil ?_
    go_wp2_with fail
    go_ret
    exact ⟨rfl, hB⟩
  · refine heavy_want (by rfl) (fun K' hK' => ?_)
    go_simp
    refine hK' _ _ (al (Below.refl _ _) _) ?_
    clear hK' K'
    have hq := al (Below.refl _ V4) (.cells #[.int .u8 0, .int .u8 0, .int .u8 0, .int .u8 0] 5)
    have fr0 : (V4.alloc (.cells #[.int .u8 0, .int .u8 0, .int .u8 0, .int .u8 0] 5)).cell? ⟨V4.heap.size, 0, none⟩ = some (.int .u8 0) := by go_simp
    have fr1 : (V4.alloc (.cells #[.int .u8 0, .int .u8 0, .int .u8 0, .int .u8 0] 5)).cell? ⟨V4.heap.size, 1, none⟩ = some (.int .u8 0) := by go_simp
    have fr2 : (V4.alloc (.cells #[.int .u8 0, .int .u8 0, .int .u8 0, .int .u8 0] 5)).cell? ⟨V4.heap.size, 2, none⟩ = some (.int .u8 0) := by go_simp
    have fr3 : (V4.alloc (.cells #[.int .u8 0, .int .u8 0, .int .u8 0, .int .u8 0] 5)).cell? ⟨V4.heap.size, 3, none⟩ = some (.int .u8 0) := by go_simp
    have frz : V4.heap.size < (V4.alloc (.cells #[.int .u8 0, .int .u8 0, .int .u8 0, .int .u8 0] 5)).heap.size := by simp
    obtain ⟨Q1, hw2⟩ : ∃ X : World, V4.alloc (.cells #[.int .u8 0, .int .u8 0, .int .u8 0, .int .u8 0] 5) = X := ⟨_, rfl⟩
    rw [hw2] at hq frz fr0 fr1 fr2 fr3
    rw [hw2]
    clear hw2
    have z7_0 : w.heap.size < Q1.heap.size := Nat.lt_of_lt_of_le z6_0 hq.size
    have z7_1 : w.heap.size + 1 < Q1.heap.size := Nat.lt_of_lt_of_le z6_1 hq.size
    have z7_2 : V2.heap.size < Q1.heap.size := Nat.lt_of_lt_of_le z6_2 hq.size
    replace hB := thru hB hq
    replace y9 := y9.later hq
    replace y1 := y1.later hq
    clear hq z6_0 z6_1 z6_2
    have n7_0 := fr0
    have n7_1 := fr1
    have n7_2 := fr2
    have n7_3 := fr3
    have m7 := frz
    clear frz fr0 fr1 fr2 fr3
    have yz : Bts Q1 (some ⟨V4.heap.size, 0, none⟩) [0, 0, 0, 0] := .inr ⟨_, 0, rfl, fun i hi => by match i, hi with | 0, _ => exact n7_0 | 1, _ => exact n7_1 | 2, _ => exact n7_2 | 3, _ => exact n7_3 | k + 4, h => exact absurd h (by simp)⟩
    clear n7_0 n7_1 n7_2 n7_3
    try simp only [Act.put, List.setIfInBounds_toArray, List.set_cons_zero, List.set_cons_succ]
    rw [wpSched]
    simp only [pick, List.map_nil, Array.getD_eq_getD_getElem?, List.getElem?_toArray, List.getElem?_cons_succ, List.getElem?_cons_zero, Option.getD_some]
    refine wpQuiet_nil ?_
    refine heavy_want (by rfl) (fun K' hK' => ?_)
    go_simp
    refine (append_any none [] 0 _ (Bts.nil _ _) (by decide)).mono ?_
    rintro e Q2 ⟨xa, ca, rfl, ho, hb⟩
    refine hK' _ _ hb ?_
    clear hK' K'
    have ya := ho.bts
    clear ho
    rw [A0.out] at ya ⊢
    have hq := thru (Below.refl _ Q1) hb
    clear hb
    have z8_0 : w.heap.size < Q2.heap.size := Nat.lt_of_lt_of_le z7_0 hq.size
    have z8_1 : w.heap.size + 1 < Q2.heap.size := Nat.lt_of_lt_of_le z7_1 hq.size
    have z8_2 : V2.heap.size < Q2.heap.size := Nat.lt_of_lt_of_le z7_2 hq.size
    have z8_3 : V4.heap.size < Q2.heap.size := Nat.lt_of_lt_of_le m7 hq.size
    replace hB := thru hB hq
    replace y9 := y9.later hq
    replace y1 := y1.later hq
    replace yz := yz.later hq
    clear hq z7_0 z7_1 z7_2 m7
    try simp only [Act.put, List.setIfInBounds_toArray, List.set_cons_zero, List.set_cons_succ]
    rw [wpSched]
    simp only [pick, List.map_nil, Array.getD_eq_getD_getElem?, List.getElem?_toArray, List.getElem?_cons_succ, List.getElem?_cons_zero, Option.getD_some]
    refine wpQuiet_nil ?_
    refine heavy_want (by rfl) (fun K' hK' => ?_)
    go_simp
    refine (toB (same_any xa [0, 0, 0, 0] ca _ [0, 0, 0, 0] 4 _ ya yz)).mono ?_
    rintro e Q31 ⟨rfl, hb⟩
    refine hK' _ _ hb ?_
    clear hK' K'
    have hq := thru (Below.refl _ Q2) hb
    clear hb
    have z9_0 : w.heap.size < Q31.heap.size := Nat.lt_of_lt_of_le z8_0 hq.size
    have z9_1 : w.heap.size + 1 < Q31.heap.size := Nat.lt_of_lt_of_le z8_1 hq.size
    have z9_2 : V2.heap.size < Q31.heap.size := Nat.lt_of_lt_of_le z8_2 hq.size
    have z9_3 : V4.heap.size < Q31.heap.size := Nat.lt_of_lt_of_le z8_3 hq.size
    replace hB := thru hB hq
    replace y9 := y9.later hq
    replace y1 := y1.later hq
    replace yz := yz.later hq
    replace ya := ya.later hq
    clear hq z8_0 z8_1 z8_2 z8_3
    try simp only [Act.put, List.setIfInBounds_toArray, List.set_cons_zero, List.set_cons_succ]
    rw [wpSched]
    simp only [pick, List.map_cons, List.map_nil, Array.getD_eq_getD_getElem?, List.getElem?_toArray, List.getElem?_cons_succ, List.getElem?_cons_zero, Option.getD_some]
    repeat (first | go_big_quiet_step (fail) | quiet_step (fail))
    refine wpQuiet_nil ?_
    refine heavy_want (by rfl) (fun K' hK' => ?_)
    go_simp
    refine (sum_any _ [49, 50, 51, 52] 9 _ (Bts.left (l := [49, 50, 51, 52]) (m := [53, 54, 55, 56, 57]) y9) (by decide)).mono ?_
    rintro e Q32 ⟨rfl, hb⟩
    refine hK' _ _ hb ?_
    clear hK' K'
    have hq := thru (Below.refl _ Q31) hb
    clear hb
    have z10_0 : w.heap.size < Q32.heap.size := Nat.lt_of_lt_of_le z9_0 hq.size
    have z10_1 : w.heap.size + 1 < Q32.heap.size := Nat.lt_of_lt_of_le z9_1 hq.size
    have z10_2 : V2.heap.size < Q32.heap.size := Nat.lt_of_lt_of_le z9_2 hq.size
    have z10_3 : V4.heap.size < Q32.heap.size := Nat.lt_of_lt_of_le z9_3 hq.size
    replace hB := thru hB hq
    replace y9 := y9.later hq
    replace y1 := y1.later hq
    replace yz := yz.later hq
    replace ya := ya.later hq
    clear hq z9_0 z9_1 z9_2 z9_3
    try simp only [Act.put, List.setIfInBounds_toArray, List.set_cons_zero, List.set_cons_succ]
    rw [wpSched]
    simp only [pick, List.map_nil, Array.getD_eq_getD_getElem?, List.getElem?_toArray, List.getElem?_cons_succ, List.getElem?_cons_zero, Option.getD_some]
    refine wpQuiet_nil ?_
    refine heavy_want (by rfl) (fun K' hK' => ?_)
    go_simp
    refine (sum_any _ [53, 54, 55, 56, 57] 5 _ (Bts.right (l := [49, 50, 51, 52]) (m := [53, 54, 55, 56, 57]) y9) (by decide)).mono ?_
    rintro e Q33 ⟨rfl, hb⟩
    refine hK' _ _ hb ?_
    clear hK' K'
    have hq := thru (Below.refl _ Q32) hb
    clear hb
    have z11_0 : w.heap.size < Q33.heap.size := Nat.lt_of_lt_of_le z10_0 hq.size
    have z11_1 : w.heap.size + 1 < Q33.heap.size := Nat.lt_of_lt_of_le z10_1 hq.size
    have z11_2 : V2.heap.size < Q33.heap.size := Nat.lt_of_lt_of_le z10_2 hq.size
    have z11_3 : V4.heap.size < Q33.heap.size := Nat.lt_of_lt_of_le z10_3 hq.size
    replace hB := thru hB hq
    replace y9 := y9.later hq
    replace y1 := y1.later hq
    replace yz := yz.later hq
    replace ya := ya.later hq
    clear hq z10_0 z10_1 z10_2 z10_3
    try simp only [Act.put, List.setIfInBounds_toArray, List.set_cons_zero, List.set_cons_succ]
    rw [wpSched]
    simp only [pick, List.map_nil, Array.getD_eq_getD_getElem?, List.getElem?_toArray, List.getElem?_cons_succ, List.getElem?_cons_zero, Option.getD_some]
    refine wpQuiet_nil ?_
    refine heavy_want (by rfl) (fun K' hK' => ?_)
    go_simp
    refine (combine_any (Crc.sum [49, 50, 51, 52]) (Crc.sum [53, 54, 55, 56, 57]) 5 _ (by decide)).mono ?_
    rintro e Q34 ⟨rfl, hb⟩
    refine hK' _ _ hb ?_
    clear hK' K'
    rw [EC.out]
    have hq := thru (Below.refl _ Q33) hb
    clear hb
    have z12_0 : w.heap.size < Q34.heap.size := Nat.lt_of_lt_of_le z11_0 hq.size
    have z12_1 : w.heap.size + 1 < Q34.heap.size := Nat.lt_of_lt_of_le z11_1 hq.size
    have z12_2 : V2.heap.size < Q34.heap.size := Nat.lt_of_lt_of_le z11_2 hq.size
    have z12_3 : V4.heap.size < Q34.heap.size := Nat.lt_of_lt_of_le z11_3 hq.size
    replace hB := thru hB hq
    replace y9 := y9.later hq
    replace y1 := y1.later hq
    replace yz := yz.later hq
    replace ya := ya.later hq
    clear hq z11_0 z11_1 z11_2 z11_3
    try simp only [Act.put, List.setIfInBounds_toArray, List.set_cons_zero, List.set_cons_succ]
    rw [wpSched]
    simp only [pick, List.map_cons, List.map_nil, Array.getD_eq_getD_getElem?, List.getElem?_toArray, List.getElem?_cons_succ, List.getElem?_cons_zero, Option.getD_some]
    repeat (first | go_big_quiet_step (fail) | quiet_step (fail))
    refine wpQuiet_nil ?_
    go_wp2_with fail
    go_ret
    exact ⟨rfl, hB⟩

end Go.Proofs.Ytcdmmhbmpkdagaa
