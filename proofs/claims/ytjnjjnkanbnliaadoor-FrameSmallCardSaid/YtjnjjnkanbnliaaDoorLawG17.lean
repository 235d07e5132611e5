/- WALKS of the laws of the frame layer: FrameFields. -/
import Derived.Test.YtjnjjnkanbnliaaDoorLawB17
namespace Go.Proofs.YtjnjjnkanbnliaaDoor
open Go.RowKit

theorem own_some {B : Nat} {w : World} {x : Option Addr} {c : Nat} {l : List UInt8} (h : OwnsB B w x c l) (hl : 1 ≤ l.length) : ∃ g, x = some ⟨g, 0, none⟩ := by
  rcases h.2 with ⟨hv, h0⟩ | ⟨g, cap', cur, hv, _⟩
  · simp only [Value.slice.injEq] at hv; omega
  · simp only [Value.slice.injEq] at hv; exact ⟨g, hv.1⟩
theorem bts_cell {w : World} {g : Nat} {l : List UInt8} (h : Bts w (some ⟨g, 0, none⟩) l) (i : Nat) (hi : i < l.length) : w.cell? ⟨g, i, none⟩ = some (.int .u8 ((l.getD i 0).toNat : Int)) := by
  rcases h with h | ⟨b', o', hx, hc⟩
  · subst h; simp at hi
  · cases hx
    have := hc i hi
    rw [Nat.zero_add] at this
    exact this
theorem bts_pre {w : World} {g : Nat} {l m k : List UInt8} (h : l = m ++ k) (hb : Bts w (some ⟨g, 0, none⟩) l) : Bts w (some ⟨g, 0, none⟩) m := by subst h; exact hb.left
theorem bts_mid {w : World} {g : Nat} {l p m k : List UInt8} (h : l = p ++ (m ++ k) ∧ p.length = 4) (hb : Bts w (some ⟨g, 0, none⟩) l) : Bts w (some ⟨g, 4, none⟩) m := by
  obtain ⟨rfl, h4⟩ := h
  have := hb.right
  rw [h4, Nat.zero_add] at this
  exact this.left
theorem append_at (x : Option Addr) (l : List UInt8) (n c : Nat) (w : World) (h : l.length = n) (hx : Bts w x l) (hl : l.length ≤ 100000) : Calls Tryd.prog 19 #[.slice x n c] w (AppOf l w) := by
  subst h; exact append_any x l c w hx hl

set_option maxHeartbeats 1000000 in
theorem fields17_law (v n s : Int) (x : Option Addr) (l : List UInt8) (cx : Nat) (w : World) (hd : DbAt w) (hx : Bts w x l) (hn : x = none → cx = 0) (hcx : l.length ≤ cx ∧ cx ≤ 9223372036854775807) (hv : -9223372036854775808 ≤ v ∧ v ≤ 9223372036854775807) (hn' : -9223372036854775808 ≤ n ∧ n ≤ 9223372036854775807) (hs : -9223372036854775808 ≤ s ∧ s ≤ 9223372036854775807) :
    Calls Tryd.prog 8 #[.agg #[.int .i64 v, .int .i64 n, .int .i64 s, .slice x l.length cx]] w (YesOf w) := by
  by_cases c0 : 300 < (l.length : Int)
  · have y0 : decide (300 < (l.length : Int)) = true := decide_eq_true c0
    have hB := Below.refl w.heap.size w
    go_enter Tryd.func8, Tryd.ntmps8
    go_wp2_with fail
    refine (awake_any _ (hd.later (al (Below.refl _ w) _))).mono ?_
    rintro e w1 ⟨rfl, hb⟩
    have hq := thru (al (Below.refl _ w) _) hb
    have g1_0 := later (a := ⟨w.heap.size, 0, none⟩) (v := .int .i64 v) hb (by go_simp)
    have g1_1 := later (a := ⟨w.heap.size, 1, none⟩) (v := .int .i64 n) hb (by go_simp)
    have g1_2 := later (a := ⟨w.heap.size, 2, none⟩) (v := .int .i64 s) hb (by go_simp)
    have g1_3 := later (a := ⟨w.heap.size, 3, none⟩) (v := .slice x l.length cx) hb (by go_simp)
    have z1_0 : w.heap.size < w1.heap.size := (by have := hb.size; first | omega | (simp at this; omega))
    replace hB := thru hB hq
    clear hb hq 
    go_wp2_with fail
    go_ret
    exact ⟨rfl, hB⟩
  · have y0 : decide (300 < (l.length : Int)) = false := decide_eq_false c0
    have l3 : l.length ≤ 300 := by omega
    obtain ⟨a, ha⟩ : ∃ a, nearA v = a := ⟨_, rfl⟩
    obtain ⟨b, hb'⟩ : ∃ a, nearB n = a := ⟨_, rfl⟩
    obtain ⟨d, hd'⟩ : ∃ a, nearD s = a := ⟨_, rfl⟩
    obtain ⟨r, hr⟩ : ∃ a, nearL l = a := ⟨_, rfl⟩
    have hok := near_ok v n s l
    have hrl := near_len l
    rw [ha, hb', hd', hr] at hok
    rw [hr] at hrl
    obtain ⟨wl, hwl⟩ : ∃ z, wholeF a b d r = z := ⟨_, rfl⟩
    have hwn : wl.length = r.length + 8 := by rw [← hwl]; exact whole_length _ _ _ _
    have HN := Lib.hid (show NearOf (nearA v) (nearB n) (nearD s) (nearL l) = NearOf a b d r by rw [ha, hb', hd', hr])
    have HBY := Lib.hid (show bytesV (a.toNat : Int) (b.toNat : Int) (d.toNat : Int) r = some wl by rw [bytesV_ok hok, hwl])
    have HWN := Lib.hid hwn
    have hw72 : wl.length ≤ 72 := by omega
    have hw9 : 9 ≤ wl.length := by omega
    obtain ⟨tr, htr⟩ : ∃ t, Crc.trailer (Crc.sum (bodyF a b d r)) = t := ⟨_, rfl⟩
    obtain ⟨bl, hbl⟩ : ∃ t, bodyF a b d r = t := ⟨_, rfl⟩
    obtain ⟨k4, hk4⟩ : ∃ k, r.length + 4 = k := ⟨_, rfl⟩
    have hwt : wl = bl ++ tr := by rw [← hwl, ← hbl, ← htr]; rfl
    have hbn : bl.length = k4 := by rw [← hbl, ← hk4]; unfold bodyF; simp
    have HPRE := Lib.hid hwt
    have HBN := Lib.hid hbn
    have hmid : wl = [a, b, d, UInt8.ofNat r.length] ++ (r ++ tr) ∧ [a, b, d, UInt8.ofNat r.length].length = 4 := ⟨by rw [hwt, ← hbl]; unfold bodyF; simp, rfl⟩
    have HMID := Lib.hid hmid
    have HW0 := Lib.hid (show wl.getD 0 0 = a by rw [hmid.1]; rfl)
    have HW1 := Lib.hid (show wl.getD 1 0 = b by rw [hmid.1]; rfl)
    have HW2 := Lib.hid (show wl.getD 2 0 = d by rw [hmid.1]; rfl)
    have HW3 := Lib.hid (show ((wl.getD 3 0).toNat : Int) = (r.length : Int) by rw [hmid.1]; show (((UInt8.ofNat r.length).toNat : Nat) : Int) = _; rw [UInt8.toNat_ofNat']; omega)
    have HRR := Lib.hid (show (r == r) = true by simp)
    have HWW := Lib.hid (show (wl == wl) = true by simp)
    have HAPP := Lib.hid (show bl ++ Crc.trailer (Crc.sum bl) = wl by rw [hwt, ← htr, hbl])
    have hwa : IntKind.i64.wrap (a.toNat : Int) = (a.toNat : Int) := wrap64_of _ (by have := a.toNat_lt; omega)
    have hwb : IntKind.i64.wrap (b.toNat : Int) = (b.toNat : Int) := wrap64_of _ (by have := b.toNat_lt; omega)
    have hwd : IntKind.i64.wrap (d.toNat : Int) = (d.toNat : Int) := wrap64_of _ (by have := d.toNat_lt; omega)
    have hwr : IntKind.i64.wrap (r.length : Int) = (r.length : Int) := wrap64_of _ (by omega)
    have hw8 : IntKind.i64.wrap ((r.length : Int) + 8) = (wl.length : Int) := by rw [wrap64_of _ (by omega)]; omega
    have hw4 : IntKind.i64.wrap (4 + (r.length : Int)) = (k4 : Int) := by rw [wrap64_of _ (by omega)]; omega
    have hw4' : (r.length : Int) + 4 = (k4 : Int) := by omega
    have h44 : 4 ≤ k4 := by omega
    have h4w : k4 ≤ wl.length := by omega
    have hkr : k4 - 4 = r.length := by omega
    clear hbn htr hbl hwt hmid ha hb' hd' hr hwl hwn hok c0 hk4
    have hB := Below.refl w.heap.size w
    go_enter Tryd.func8, Tryd.ntmps8
    go_wp2_with fail
    refine (awake_any _ (hd.later (al (Below.refl _ w) _))).mono ?_
    rintro e w1 ⟨rfl, hb⟩
    have z0 : w.heap.size < w1.heap.size := by have := hb.size; simp at this; omega
    have fz0 := (Below.frozen hb (p := ⟨w.heap.size, 0, none⟩) (by simp)).trans (show _ = false by go_simp)
    have fz1 := (Below.frozen hb (p := ⟨w.heap.size, 1, none⟩) (by simp)).trans (show _ = false by go_simp)
    have fz2 := (Below.frozen hb (p := ⟨w.heap.size, 2, none⟩) (by simp)).trans (show _ = false by go_simp)
    have fz3 := (Below.frozen hb (p := ⟨w.heap.size, 3, none⟩) (by simp)).trans (show _ = false by go_simp)
    have hq := thru (al (Below.refl _ w) _) hb
    have g1_0 := later (a := ⟨w.heap.size, 0, none⟩) (v := .int .i64 v) hb (by go_simp)
    have g1_1 := later (a := ⟨w.heap.size, 1, none⟩) (v := .int .i64 n) hb (by go_simp)
    have g1_2 := later (a := ⟨w.heap.size, 2, none⟩) (v := .int .i64 s) hb (by go_simp)
    have g1_3 := later (a := ⟨w.heap.size, 3, none⟩) (v := .slice x l.length cx) hb (by go_simp)
    have z1_0 : w.heap.size < w1.heap.size := (by have := hb.size; first | omega | (simp at this; omega))
    replace hB := thru hB hq
    clear hb hq 
    go_wp2_with fail
    refine (near_any v n s x l cx _ (hx.later hB) hn (by omega) hcx hv hn' hs).mono ?_
    rw [HN.out]
    rintro e w2 ⟨x2, c2, rfl, ho2, hb⟩
    have hq := thru (Below.refl _ w1) hb
    have g2_0 := later hq g1_0
    have g2_1 := later hq g1_1
    have g2_2 := later hq g1_2
    have g2_3 := later hq g1_3
    have e2_0 := (hq.frozen (World.block_lt_of_cell? _ _ g1_0)).trans fz0
    have e2_1 := (hq.frozen (World.block_lt_of_cell? _ _ g1_1)).trans fz1
    have e2_2 := (hq.frozen (World.block_lt_of_cell? _ _ g1_2)).trans fz2
    have e2_3 := (hq.frozen (World.block_lt_of_cell? _ _ g1_3)).trans fz3
    have z2_0 : w.heap.size < w2.heap.size := Nat.lt_of_lt_of_le z1_0 hq.size
    replace hB := thru hB hq
    clear hb hq g1_0 g1_1 g1_2 g1_3 z1_0 fz0 fz1 fz2 fz3
    go_wp2_with fail
    replace ho2 := ho2.turn (four_turn w.heap.size _ (.int .i64 (a.toNat : Int)) (.int .i64 (b.toNat : Int)) (.int .i64 (d.toNat : Int)) (.slice x2 r.length c2)) (fun b hb e => by have := (ho2.low b hb).1; omega)
    refine (bytes_all (a.toNat : Int) (b.toNat : Int) (d.toNat : Int) x2 r c2 _ ho2.bts ho2.none_cap).mono ?_
    rw [HBY.out]
    rintro e w3 ⟨x3, c3, rfl, ho, hb⟩
    have y2 := ho2.bts.later hb
    clear ho2
    obtain ⟨g3, hx3⟩ := own_some ho (by omega)
    subst hx3
    have y3 := ho.bts
    have cap3 := ho.le_cap
    clear ho
    have q0 := bts_cell y3 0 (by omega)
    have q1 := bts_cell y3 1 (by omega)
    have q2 := bts_cell y3 2 (by omega)
    have q3 := bts_cell y3 3 (by omega)
    rw [HW0.out] at q0
    rw [HW1.out] at q1
    rw [HW2.out] at q2
    rw [HW3.out] at q3
    have hk3 : k4 ≤ c3 := by omega
    have g3_0 := later (a := ⟨w.heap.size, 0, none⟩) (v := .int .i64 (a.toNat : Int)) hb (by go_simp)
    have g3_1 := later (a := ⟨w.heap.size, 1, none⟩) (v := .int .i64 (b.toNat : Int)) hb (by go_simp)
    have g3_2 := later (a := ⟨w.heap.size, 2, none⟩) (v := .int .i64 (d.toNat : Int)) hb (by go_simp)
    have g3_3 := later (a := ⟨w.heap.size, 3, none⟩) (v := .slice x2 r.length c2) hb (by go_simp)
    have z3_0 : w.heap.size < w3.heap.size := (by have := hb.size; first | omega | (simp at this; omega))
    replace hB := thru (four_set hB (Nat.le_refl _) _ _ _ _) hb
    clear hb g2_0 g2_1 g2_2 g2_3 z2_0
    go_wp2_with fail
    refine wp_region_sched (fun W => W.cell? ⟨w.heap.size, 0, none⟩ = some (.int .i64 (a.toNat : Int)) ∧ W.cell? ⟨w.heap.size, 1, none⟩ = some (.int .i64 (b.toNat : Int)) ∧ W.cell? ⟨w.heap.size, 2, none⟩ = some (.int .i64 (d.toNat : Int)) ∧ W.cell? ⟨w.heap.size, 3, none⟩ = some (.slice x2 r.length c2) ∧ W.cell? ⟨g3, 0, none⟩ = some (.int .u8 (a.toNat : Int)) ∧ W.cell? ⟨g3, 1, none⟩ = some (.int .u8 (b.toNat : Int)) ∧ W.cell? ⟨g3, 2, none⟩ = some (.int .u8 (d.toNat : Int)) ∧ W.cell? ⟨g3, 3, none⟩ = some (.int .u8 (r.length : Int)) ∧ w.heap.size < W.heap.size ∧ Bts W x2 r ∧ Bts W (some ⟨g3, 0, none⟩) wl ∧ Below w.heap.size w W) (.one [0, 1, 2, 3, 4, 5, 6, 7, 8, 9, 10, 11, 12, 13, 14, 15, 16, 17, 18, 19, 20, 21, 22, 23, 24, 25, 26, 27, 28, 29, 30, 31, 32, 33, 34, 35, 36, 37, 38, 39, 40, 41, 42, 43, 44, 45, 46, 47, 48, 49, 50] 51 (.done [52, 53])) (by kernel_rfl) (by kernel_rfl) (fun _ _ _ _ _ h => h) ⟨(by go_simp), (by go_simp), (by go_simp), (by go_simp), (by go_simp), (by go_simp), (by go_simp), (by go_simp), (by simp <;> omega), y2, y3, hB.drew⟩ ?_
    clear hB g3_0 g3_1 g3_2 g3_3 q0 q1 q2 q3 z3_0 y2 y3
    rintro Q ⟨g4_0, g4_1, g4_2, g4_3, g4_4, g4_5, g4_6, g4_7, z4_0, y2, y3, hB⟩
    rw [wpSched]
    simp only [pick, List.map_cons, List.map_nil, Array.getD_eq_getD_getElem?, List.getElem?_toArray, List.getElem?_cons_succ, List.getElem?_cons_zero, Option.getD_some]
    have kg4_0 := plusW_cell g4_0
    have kg4_1 := plusW_cell g4_1
    have kg4_2 := plusW_cell g4_2
    have kg4_3 := plusW_cell g4_3
    have kg4_4 := plusW_cell g4_4
    have kg4_5 := plusW_cell g4_5
    have kg4_6 := plusW_cell g4_6
    have kg4_7 := plusW_cell g4_7
    repeat (first | go_big_quiet_step (fail) | quiet_step (fail))
    refine wpQuiet_nil ?_
    clear kg4_0 kg4_1 kg4_2 kg4_3 kg4_4 kg4_5 kg4_6 kg4_7
    refine heavy_want (by rfl) (fun K' hK' => ?_)
    go_simp
    refine (sameb_any (some ⟨g3, 4, none⟩) r (c3 - 4) x2 r c2 _ (bts_mid HMID.out y3) y2 (by omega) (by omega)).mono ?_
    rintro e Q1 ⟨rfl, hb⟩
    refine hK' _ _ hb ?_
    clear hK' K'
    rw [HRR.out]
    have hq := thru (Below.refl _ Q) hb
    clear hb
    have g5_0 := later hq g4_0
    have g5_1 := later hq g4_1
    have g5_2 := later hq g4_2
    have g5_3 := later hq g4_3
    have g5_4 := later hq g4_4
    have g5_5 := later hq g4_5
    have g5_6 := later hq g4_6
    have g5_7 := later hq g4_7
    have z5_0 : w.heap.size < Q1.heap.size := Nat.lt_of_lt_of_le z4_0 hq.size
    replace hB := thru hB hq
    replace y2 := y2.later hq
    replace y3 := y3.later hq
    clear hq g4_0 g4_1 g4_2 g4_3 g4_4 g4_5 g4_6 g4_7 z4_0
    try simp only [Act.put, List.setIfInBounds_toArray, List.set_cons_zero, List.set_cons_succ]
    rw [wpSched]
    simp only [pick, List.map_cons, List.map_nil, Array.getD_eq_getD_getElem?, List.getElem?_toArray, List.getElem?_cons_succ, List.getElem?_cons_zero, Option.getD_some]
    repeat (first | go_big_quiet_step (fail) | quiet_step (fail))
    refine wpQuiet_nil ?_
    go_wp2_with fail
    refine (append_at (some ⟨g3, 0, none⟩) bl _ c3 _ (by rw [HBN.out] <;> omega) (bts_pre HPRE.out y3) (by rw [HBN.out]; omega)).mono ?_
    rintro e w5 ⟨x5, c5, rfl, ho, hb⟩
    rw [HAPP.out] at ho ⊢
    have y5 := ho.bts
    clear ho
    have hq := thru (Below.refl _ Q1) hb
    have g6_0 := later hq g5_0
    have g6_1 := later hq g5_1
    have g6_2 := later hq g5_2
    have g6_3 := later hq g5_3
    have g6_4 := later hq g5_4
    have g6_5 := later hq g5_5
    have g6_6 := later hq g5_6
    have g6_7 := later hq g5_7
    have z6_0 : w.heap.size < w5.heap.size := Nat.lt_of_lt_of_le z5_0 hq.size
    replace hB := thru hB hq
    replace y2 := y2.later hq
    replace y3 := y3.later hq
    clear hb hq g5_0 g5_1 g5_2 g5_3 g5_4 g5_5 g5_6 g5_7 z5_0
    go_wp2_with fail
    refine (sameb_any x5 wl c5 (some ⟨g3, 0, none⟩) wl c3 _ y5 y3 (by omega) (by omega)).mono ?_
    rintro e w6 ⟨rfl, hb⟩
    rw [HWW.out]
    have hq := thru (Below.refl _ w5) hb
    have g7_0 := later hq g6_0
    have g7_1 := later hq g6_1
    have g7_2 := later hq g6_2
    have g7_3 := later hq g6_3
    have g7_4 := later hq g6_4
    have g7_5 := later hq g6_5
    have g7_6 := later hq g6_6
    have g7_7 := later hq g6_7
    have z7_0 : w.heap.size < w6.heap.size := Nat.lt_of_lt_of_le z6_0 hq.size
    replace hB := thru hB hq
    replace y2 := y2.later hq
    replace y3 := y3.later hq
    clear hb hq g6_0 g6_1 g6_2 g6_3 g6_4 g6_5 g6_6 g6_7 z6_0
    go_wp2_with fail
    go_ret
    exact ⟨rfl, hB⟩

end Go.Proofs.YtjnjjnkanbnliaaDoor
