/- BlockWrong, way 4. -/
import Derived.Test.YtgibfagnfhgelaaWrgA
import Derived.Test.YtgibfagnfhgelaaFill
namespace Go.Proofs.Ytgibfagnfhgelaa
open Go.RowKit

set_option maxRecDepth 20000 in
set_option maxHeartbeats 4000000 in
theorem wrong_4 (way : UInt8) (i : Int) (w : World) (hi : -9223372036854775808 ≤ i ∧ i ≤ 9223372036854775807) (hw1 : (way.toNat : Int) % 6 = 4) : Calls Try.prog 8 #[.int .u8 (way.toNat : Int), .int .i64 i] w (YesOf w) := by
  have hz4 : ∀ W : World, (Instr.makeSlice 25 (.int .i64 49) (.int .i64 49)).run Try.prog W = .ok (.slice (some ⟨W.heap.size, 0, none⟩) 49 49) (W.alloc (.cells (zeroB 49) 5)) := fun W => run_zeros 49 (by decide) W
  have hw2 : (way.toNat : Int).tmod 6 = 4 := by rw [Int.tmod_eq_emod_of_nonneg (by omega)]; exact hw1
  have hB := Below.refl w.heap.size w
  obtain ⟨mi, hmi⟩ : ∃ m, (if (-1 : Int) < i then (-1 : Int) else i) = m := ⟨_, rfl⟩
  obtain ⟨ma, hma⟩ : ∃ m, (if (3 : Int) > i then (3 : Int) else i) = m := ⟨_, rfl⟩
  obtain ⟨mb, hmb⟩ : ∃ m, (if (65 : Int) > i then (65 : Int) else i) = m := ⟨_, rfl⟩
  have hmin : ∀ (ts : Array TypeId) (t : TypeId) (W : World), (Builtin.min_ ts t #[.int .i64 i, .int .i64 (-1)]).run Try.prog W = .ok (.int .i64 mi) W := fun ts t W => by rw [← hmi]; simp [Builtin.min_, Builtin.min2]
  have hmax : ∀ (ts : Array TypeId) (t : TypeId) (W : World), (Builtin.max_ ts t #[.int .i64 i, .int .i64 3]).run Try.prog W = .ok (.int .i64 ma) W := fun ts t W => by rw [← hma]; simp [Builtin.max_, Builtin.max2]
  have hmax2 : ∀ (ts : Array TypeId) (t : TypeId) (W : World), (Builtin.max_ ts t #[.int .i64 i, .int .i64 65]).run Try.prog W = .ok (.int .i64 mb) W := fun ts t W => by rw [← hmb]; simp [Builtin.max_, Builtin.max2]
  have hmi0 : mi < 0 := by rw [← hmi]; split <;> omega
  have hma3 : 3 ≤ ma := by rw [← hma]; split <;> omega
  have hmb65 : 64 < mb := by rw [← hmb]; split <;> omega
  have hmir : -9223372036854775808 ≤ mi := by rw [← hmi]; split <;> omega
  have hmar : ma ≤ 9223372036854775807 := by rw [← hma]; split <;> omega
  clear hmi hma hmb
  go_enter Try.func8, Try.ntmps8
  go_wp2_with fail
  refine (new_yes 3 _ (by decide)).mono ?_
  rintro e w1 ⟨xs, cs, rs, rfl, hrl, hon, hb⟩
  have hB1 := thru hB hb
  have hls : rs.map (·.l) = threeE := by rw [hon.ls, hrl]; rfl
  have hrs := hon.rws
  rw [hrl]
  clear hb hon hB
  have hlen3 : ∀ l, l ∈ rs.map (·.l) → l.length ≤ 100000 := fun l hl => by
    rw [hls] at hl
    have : l = erasedL := by simpa [threeE] using hl
    rw [this, erasedL_len]; decide
  have HCN := Lib.hid (cut_nil xs rs cs 3 hrl (by decide) hlen3)
  have HRN := Lib.hid (run_nil xs rs cs 3 hrl (by decide) hlen3 (by rw [hls]; exact three_v))
  have HC0 := Lib.hid (cut_bad xs rs cs 3 ⟨0, false, none, 0, []⟩ 0 (-1) hrl (by decide) hlen3 (by unfold cutOk; simp))
  have HSS := Lib.hid (same_yes xs rs cs 3 hrl (by decide))
  have HR1 := Lib.hid (read_bad xs rs cs 3 mi hrl (by decide) (.inl hmi0))
  have HR2 := Lib.hid (read_bad xs rs cs 3 ma hrl (by decide) (.inr hma3))
  have HNW := Lib.hid (fun W => new_no mb W (.inr hmb65))
  have HRL := Lib.hid hrl
  have HLS := Lib.hid hls
  have HL3 := Lib.hid hlen3
  clear hrl hls hlen3 hmb65
  go_wp2_with fail
  obtain ⟨X1, hX1⟩ : ∃ X, w1.alloc (.cells #[.slice xs 3 cs] 24) = X := ⟨_, rfl⟩
  have e1 : w1.heap.size + 1 = X1.heap.size := by rw [← hX1]; simp
  have u5 : X1.cell? ⟨w1.heap.size, 0, none⟩ = some (.slice xs 3 cs) := by rw [← hX1]; exact cell_new w1 _ _ _ 0
  have t1 : Below w1.heap.size w1 X1 := by rw [← hX1]; exact al (Below.refl _ _) _
  rw [e1, hX1]
  obtain ⟨X2, hX2⟩ : ∃ X, X1.alloc (.cells #[.int .u8 5] 5) = X := ⟨_, rfl⟩
  have e2 : X1.heap.size + 1 = X2.heap.size := by rw [← hX2]; simp
  have uD : Bts X2 (some ⟨X1.heap.size, 0, none⟩) [5] := by rw [← hX2]; exact bts_new X1 [5] _ _
  have t2 : Below X1.heap.size X1 X2 := by rw [← hX2]; exact al (Below.refl _ _) _
  rw [e2, hX2]
  obtain ⟨X3, hX3⟩ : ∃ X, X2.alloc (.cells #[.slice xs 3 cs] 24) = X := ⟨_, rfl⟩
  have e3 : X2.heap.size + 1 = X3.heap.size := by rw [← hX3]; simp
  have u7 : X3.cell? ⟨X2.heap.size, 0, none⟩ = some (.slice xs 3 cs) := by rw [← hX3]; exact cell_new X2 _ _ _ 0
  have t3 : Below X2.heap.size X2 X3 := by rw [← hX3]; exact al (Below.refl _ _) _
  rw [e3, hX3]
  obtain ⟨X4, hX4⟩ : ∃ X, X3.alloc (.cells #[.int .i64 1, .bool false, .slice (some ⟨X3.heap.size + 1, 0, none⟩) 49 49] 31) = X := ⟨_, rfl⟩
  have e4 : X3.heap.size + 1 = X4.heap.size := by rw [← hX4]; simp
  have n80' : X4.cell? ⟨X3.heap.size, 0, none⟩ = some (.int .i64 1) := by rw [← hX4]; exact cell_new X3 _ _ _ 0
  have n81' : X4.cell? ⟨X3.heap.size, 1, none⟩ = some (.bool false) := by rw [← hX4]; exact cell_new X3 _ _ _ 1
  have n82' : X4.cell? ⟨X3.heap.size, 2, none⟩ = some (.slice (some ⟨X3.heap.size + 1, 0, none⟩) 49 49) := by rw [← hX4]; exact cell_new X3 _ _ _ 2
  have t4 : Below X3.heap.size X3 X4 := by rw [← hX4]; exact al (Below.refl _ _) _
  rw [hX4, e4]
  rw [e4] at n82'
  obtain ⟨V, hV⟩ : ∃ X, X4.alloc (.cells (zeroB 49) 5) = X := ⟨_, rfl⟩
  have e5 : X4.heap.size + 1 = V.heap.size := by rw [← hV]; simp
  have uDV : Bts V (some ⟨X4.heap.size, 0, none⟩) (List.replicate 49 0) := by rw [← hV]; exact bts_new X4 (List.replicate 49 0) _ _
  have t5 : Below X4.heap.size X4 V := by rw [← hV]; exact al (Below.refl _ _) _
  rw [e5, hV]
  have n5 := later t5 (later t4 (later t3 (later t2 u5)))
  have n7 := later t5 (later t4 u7)
  have n80 := later t5 n80'
  have n81 := later t5 n81'
  have n82 := later t5 n82'
  have hBV := thru (thru (thru (thru (thru hB1 t1) t2) t3) t4) t5
  have hrsV := ((((hrs.later t1).later t2).later t3).later t4).later t5
  obtain ⟨b5, hb5⟩ : ∃ b, w1.heap.size = b := ⟨_, rfl⟩
  obtain ⟨bD, hbD⟩ : ∃ b, X1.heap.size = b := ⟨_, rfl⟩
  obtain ⟨b7, hb7⟩ : ∃ b, X2.heap.size = b := ⟨_, rfl⟩
  obtain ⟨b8, hb8⟩ : ∃ b, X3.heap.size = b := ⟨_, rfl⟩
  obtain ⟨bZ, hbZ⟩ : ∃ b, X4.heap.size = b := ⟨_, rfl⟩
  rw [hb5] at n5 ⊢
  rw [hbD]
  rw [hb7] at n7 ⊢
  rw [hb8] at n80 n81 n82 ⊢
  rw [hbZ] at n82 uDV ⊢
  clear e1 e2 e3 e4 e5 hX1 hX2 hX3 hX4 hV t1 t2 t3 t4 t5 u5 u7 uD hrs hB1 hb5 hbD hb7 hb8 hbZ n80' n81' n82'
  have hok : OpOk V ⟨1, false, some ⟨bZ, 0, none⟩, 49, List.replicate 49 0⟩ := ⟨uDV, (fun h => by cases h), by simp, by simp, (show (-9223372036854775808 : Int) ≤ 1 by decide), (show (1 : Int) ≤ 9223372036854775807 by decide)⟩
  clear uDV
  have hbad : vldO (rs.map (·.l)) [⟨1, false, some ⟨bZ, 0, none⟩, 49, List.replicate 49 0⟩] = false := by
    rw [Bool.eq_false_iff]
    intro h
    have h1 := ((vldO_iff _ _).1 h).2 _ (List.mem_singleton.2 rfl)
    rw [HLS.out] at h1
    have h2 := (badO_iff _ _).1 h1
    have := h2.2.1; simp at this
  have HRB := Lib.hid (run_bad xs rs cs 3 ⟨1, false, some ⟨bZ, 0, none⟩, 49, List.replicate 49 0⟩ HRL.out (by decide) HL3.out hbad)
  have HCB := Lib.hid (cut_bad xs rs cs 3 ⟨1, false, some ⟨bZ, 0, none⟩, 49, List.replicate 49 0⟩ 0 0 HRL.out (by decide) HL3.out (by unfold cutOk; rw [hbad]; rfl))
  have HST := Lib.hid (same_yes xs rs cs 3 HRL.out (by decide))
  clear hbad
  have hrs := hrsV
  have hrt := hrsV
  clear hrsV
  refine (HRB.out _ V.heap.size (hrt.later (al (Below.refl _ V) (.cells #[.int .i64 1, .bool false, .slice (some ⟨bZ, 0, none⟩) 49 49] 31))) (ops_at (o := ⟨1, false, some ⟨bZ, 0, none⟩, 49, List.replicate 49 0⟩) (cell_new V _ _ _ 0) (cell_new V _ _ _ 1) (cell_new V _ _ _ 2) (hok.later (al (Below.refl _ V) (.cells #[.int .i64 1, .bool false, .slice (some ⟨bZ, 0, none⟩) 49 49] 31))))).mono ?_
  rintro e V1 ⟨xa, ca, ra, rfl, hra, hma, hb⟩
  have hq := thru (al (Below.refl _ V) (.cells #[.int .i64 1, .bool false, .slice (some ⟨bZ, 0, none⟩) 49 49] 31)) hb
  replace n5 := later hq n5
  replace n7 := later hq n7
  replace n80 := later hq n80
  replace n81 := later hq n81
  replace n82 := later hq n82
  replace hrs := hrs.later hq
  replace hrt := hrt.later hq
  replace hok := hok.later hq
  replace hBV := thru hBV hq
  clear hb hq
  have HMA := Lib.hid hma
  clear hma
  have zb5 : b5 < V1.heap.size := World.block_lt_of_cell? _ _ n5
  have zb7 : b7 < V1.heap.size := World.block_lt_of_cell? _ _ n7
  have zb8 : b8 < V1.heap.size := World.block_lt_of_cell? _ _ n80
  go_wp2_with fail
  have e0 : ((V1.alloc (.cells #[.slice xa ra.length ca] 24)).alloc (.cells #[.int .i64 1, .bool false, .slice (some ⟨bZ, 0, none⟩) 49 49] 31)).heap.size = V1.heap.size + 2 := by simp
  refine (HCB.out _ (V1.heap.size + 1) (hrt.later (al (al (Below.refl _ V1) (.cells #[.slice xa ra.length ca] 24)) (.cells #[.int .i64 1, .bool false, .slice (some ⟨bZ, 0, none⟩) 49 49] 31))) (ops_at (o := ⟨1, false, some ⟨bZ, 0, none⟩, 49, List.replicate 49 0⟩) (by go_simp) (by go_simp) (by go_simp) (hok.later (al (al (Below.refl _ V1) (.cells #[.slice xa ra.length ca] 24)) (.cells #[.int .i64 1, .bool false, .slice (some ⟨bZ, 0, none⟩) 49 49] 31))))).mono ?_
  clear e0
  rintro e V2 ⟨xb, cb, rb, rfl, hrb, hmb, hb⟩
  have m9 := later (a := ⟨V1.heap.size, 0, none⟩) (v := .slice xa ra.length ca) hb (later (al (Below.refl _ _) _) (by go_simp))
  have hq := thru (al (al (Below.refl _ V1) (.cells #[.slice xa ra.length ca] 24)) (.cells #[.int .i64 1, .bool false, .slice (some ⟨bZ, 0, none⟩) 49 49] 31)) hb
  replace n5 := later hq n5
  replace n7 := later hq n7
  replace n80 := later hq n80
  replace n81 := later hq n81
  replace n82 := later hq n82
  replace hrs := hrs.later hq
  replace hrt := hrt.later hq
  replace hra := hra.later hq
  replace hok := hok.later hq
  replace hBV := thru hBV hq
  clear hb hq zb5 zb7 zb8
  have HMB := Lib.hid hmb
  clear hmb
  obtain ⟨b9, hb9⟩ : ∃ b, V1.heap.size = b := ⟨_, rfl⟩
  rw [hb9] at m9 ⊢
  clear hb9
  have zb5 : b5 < V2.heap.size := World.block_lt_of_cell? _ _ n5
  have zb7 : b7 < V2.heap.size := World.block_lt_of_cell? _ _ n7
  have zb8 : b8 < V2.heap.size := World.block_lt_of_cell? _ _ n80
  have zb9 : b9 < V2.heap.size := World.block_lt_of_cell? _ _ m9
  go_wp2_with fail
  refine (HST.out _ xa ra ca (hra.later (al (Below.refl _ V2) (.cells #[.slice xb rb.length cb] 24))) (hrt.later (al (Below.refl _ V2) (.cells #[.slice xb rb.length cb] 24))) HMA.out).mono ?_
  rintro e V3 ⟨rfl, hb⟩
  have m11 := later (a := ⟨V2.heap.size, 0, none⟩) (v := .slice xb rb.length cb) hb (by go_simp)
  clear zb5 zb7 zb8 zb9
  have hq := thru (al (Below.refl _ V2) (.cells #[.slice xb rb.length cb] 24)) hb
  replace n5 := later hq n5
  replace n7 := later hq n7
  replace n80 := later hq n80
  replace n81 := later hq n81
  replace n82 := later hq n82
  replace m9 := later hq m9
  replace hrs := hrs.later hq
  replace hrt := hrt.later hq
  replace hra := hra.later hq
  replace hrb := hrb.later hq
  replace hok := hok.later hq
  replace hBV := thru hBV hq
  clear hb hq
  obtain ⟨b11, hb11⟩ : ∃ b, V2.heap.size = b := ⟨_, rfl⟩
  rw [hb11] at m11 ⊢
  clear hb11
  go_wp2_with fail
  refine (HST.out _ xb rb cb hrb hrt HMB.out).mono ?_
  rintro e V4 ⟨rfl, hb⟩
  have hq := thru (Below.refl _ V3) hb
  replace n5 := later hq n5
  replace n7 := later hq n7
  replace n80 := later hq n80
  replace n81 := later hq n81
  replace n82 := later hq n82
  replace m9 := later hq m9
  replace m11 := later hq m11
  replace hrs := hrs.later hq
  replace hrt := hrt.later hq
  replace hra := hra.later hq
  replace hrb := hrb.later hq
  replace hok := hok.later hq
  replace hBV := thru hBV hq
  clear hb hq
  go_wp2_with fail
  refine (HR1.out _ hrs).mono ?_
  rintro e V5 ⟨y1, cy1, rfl, hb⟩
  have hq := thru (Below.refl _ V4) hb
  replace n5 := later hq n5
  replace n7 := later hq n7
  replace n80 := later hq n80
  replace n81 := later hq n81
  replace n82 := later hq n82
  replace m9 := later hq m9
  replace m11 := later hq m11
  replace hrs := hrs.later hq
  replace hrt := hrt.later hq
  replace hra := hra.later hq
  replace hrb := hrb.later hq
  replace hok := hok.later hq
  replace hBV := thru hBV hq
  clear hb hq
  go_wp2_with fail
  refine (HR2.out _ hrs).mono ?_
  rintro e V6 ⟨y2, cy2, rfl, hb⟩
  have hq := thru (Below.refl _ V5) hb
  replace n5 := later hq n5
  replace n7 := later hq n7
  replace n80 := later hq n80
  replace n81 := later hq n81
  replace n82 := later hq n82
  replace m9 := later hq m9
  replace m11 := later hq m11
  replace hrs := hrs.later hq
  replace hrt := hrt.later hq
  replace hra := hra.later hq
  replace hrb := hrb.later hq
  replace hok := hok.later hq
  replace hBV := thru hBV hq
  clear hb hq
  clear n7 n80 n81 n82 m9 m11 hrt hra hrb hok HRB HCB HST HMA HMB
  go_wp2_with fail
  refine (HCN.out _ hrs).mono ?_
  rintro e V7 ⟨y3, cy3, r3, rfl, hr3, hm3, hb⟩
  have hq := thru (Below.refl _ V6) hb
  replace n5 := later hq n5
  replace hrs := hrs.later hq
  replace hBV := thru hBV hq
  clear hb hq hr3 hm3
  have z7 : b5 < V7.heap.size := World.block_lt_of_cell? _ _ n5
  go_wp2_with fail
  refine (HC0.out _ (V7.heap.size + 1) (hrs.later (al (al (Below.refl _ V7) (.cells #[.slice y3 r3.length cy3] 24)) (.cells #[.int .i64 0, .bool false, .slice none 0 0] 31))) (ops_at (o := ⟨0, false, none, 0, []⟩) (by go_simp) (by go_simp) (by go_simp) ⟨.inl rfl, fun _ => rfl, by decide, by decide, by decide, by decide⟩)).mono ?_
  rintro e V8 ⟨y4, cy4, r4, rfl, hr4, hm4, hb⟩
  have hq := thru (al (al (Below.refl _ V7) (.cells #[.slice y3 r3.length cy3] 24)) (.cells #[.int .i64 0, .bool false, .slice none 0 0] 31)) hb
  replace n5 := later hq n5
  replace hrs := hrs.later hq
  replace hBV := thru hBV hq
  clear hb hq hr4 hm4 z7
  have z8 : b5 < V8.heap.size := World.block_lt_of_cell? _ _ n5
  go_wp2_with fail
  refine (HRN.out _ (hrs.later (al (Below.refl _ V8) (.cells #[.slice y4 r4.length cy4] 24)))).mono ?_
  rintro e V9 ⟨y5, cy5, r5, rfl, hr5, hm5, hb⟩
  have hq := thru (al (Below.refl _ V8) (.cells #[.slice y4 r4.length cy4] 24)) hb
  replace n5 := later hq n5
  replace hrs := hrs.later hq
  replace hBV := thru hBV hq
  clear hb hq z8
  have HM5 := Lib.hid hm5
  clear hm5
  have z9 : b5 < V9.heap.size := World.block_lt_of_cell? _ _ n5
  go_wp2_with fail
  refine (HNW.out _).mono ?_
  rintro e V10 ⟨rfl, hb⟩
  have m21 := later (a := ⟨V9.heap.size, 0, none⟩) (v := .slice y5 r5.length cy5) hb (by go_simp)
  have hq := thru (al (Below.refl _ V9) (.cells #[.slice y5 r5.length cy5] 24)) hb
  replace n5 := later hq n5
  replace hrs := hrs.later hq
  replace hr5 := hr5.later hq
  replace hBV := thru hBV hq
  clear hb hq z9
  obtain ⟨b21, hb21⟩ : ∃ b, V9.heap.size = b := ⟨_, rfl⟩
  rw [hb21] at m21 ⊢
  clear hb21
  have z10 : b5 < V10.heap.size := World.block_lt_of_cell? _ _ n5
  have z11 : b21 < V10.heap.size := World.block_lt_of_cell? _ _ m21
  go_wp2_with fail
  refine (HSS.out _ y5 r5 cy5 (hr5.later (al (Below.refl _ V10) (.cells #[.slice none 0 0] 24))) (hrs.later (al (Below.refl _ V10) (.cells #[.slice none 0 0] 24))) HM5.out).mono ?_
  rintro e V11 ⟨rfl, hb⟩
  have hBW := thru (al hBV (.cells #[.slice none 0 0] 24)) hb
  go_wp2_with fail
  refine (awake_any _).mono ?_
  rintro e w' ⟨rfl, hb2⟩
  go_wp2_with fail
  go_ret
  exact ⟨rfl, thru hBW hb2⟩

end Go.Proofs.Ytgibfagnfhgelaa
