/- WALKS of the laws of the frame layer: FrameBad. -/
import Derived.Test.YtjnjjnkanbnliaaDoorLawG17
import Derived.Test.YtjnjjnkanbnliaaDoorPureBad17
namespace Go.Proofs.YtjnjjnkanbnliaaDoor
open Go.RowKit

set_option maxHeartbeats 600000 in
theorem bad17_0t (v n s : Int) (x : Option Addr) (l : List UInt8) (cx : Nat) (wy vv : UInt8) (w : World) (hd : DbAt w) (hx : Bts w x l) (hn : x = none → cx = 0) (hcx : l.length ≤ cx ∧ cx ≤ 9223372036854775807) (hv : -9223372036854775808 ≤ v ∧ v ≤ 9223372036854775807) (hn' : -9223372036854775808 ≤ n ∧ n ≤ 9223372036854775807) (hs : -9223372036854775808 ≤ s ∧ s ≤ 9223372036854775807) (c0 : ¬ 300 < (l.length : Int)) (htn : wy.toNat % 3 = 0) (cb : 15 < vv.toNat) :
    Calls Tryd.prog 10 #[.agg #[.int .i64 v, .int .i64 n, .int .i64 s, .slice x l.length cx], .int .u8 (wy.toNat : Int), .int .u8 (vv.toNat : Int)] w (YesOf w) := by
  have y0 : decide (300 < (l.length : Int)) = false := decide_eq_false c0
  have l3 : l.length ≤ 300 := by omega
  obtain ⟨a, ha⟩ : ∃ a, nearA v = a := ⟨_, rfl⟩
  obtain ⟨b, hb'⟩ : ∃ a, nearB n = a := ⟨_, rfl⟩
  obtain ⟨d, hd'⟩ : ∃ a, nearD s = a := ⟨_, rfl⟩
  obtain ⟨r, hr⟩ : ∃ a, nearL l = a := ⟨_, rfl⟩
  have hok := near_ok v n s l
  have hrl := near_len l
  rw [ha, hb', hd', hr] at hok
  rw [hr] at hrl
  obtain ⟨wl, hwl⟩ : ∃ z, wholeF a b d r = z := ⟨_, rfl⟩
  have hwn : wl.length = r.length + 8 := by rw [← hwl]; exact whole_length _ _ _ _
  have HN := Lib.hid (show NearOf (nearA v) (nearB n) (nearD s) (nearL l) = NearOf a b d r by rw [ha, hb', hd', hr])
  have HBY := Lib.hid (show bytesV (a.toNat : Int) (b.toNat : Int) (d.toNat : Int) r = some wl by rw [bytesV_ok hok, hwl])
  have HWN := Lib.hid hwn
  have hw72 : wl.length ≤ 72 := by omega
  have hw9 : 9 ≤ wl.length := by omega
  obtain ⟨tr, htr⟩ : ∃ t, Crc.trailer (Crc.sum (bodyF a b d r)) = t := ⟨_, rfl⟩
  obtain ⟨bl, hbl⟩ : ∃ t, bodyF a b d r = t := ⟨_, rfl⟩
  obtain ⟨k4, hk4⟩ : ∃ k, r.length + 4 = k := ⟨_, rfl⟩
  have hwt : wl = bl ++ tr := by rw [← hwl, ← hbl, ← htr]; rfl
  have hbn : bl.length = k4 := by rw [← hbl, ← hk4]; unfold bodyF; simp
  have hmid : wl = [a, b, d, UInt8.ofNat r.length] ++ (r ++ tr) := by rw [hwt, ← hbl]; unfold bodyF; simp
  have HW3 := Lib.hid (show wl.getD 3 0 = UInt8.ofNat r.length by rw [hmid]; rfl)
  obtain ⟨nn, hnn⟩ : ∃ k, wy.toNat % wl.length = k := ⟨_, rfl⟩
  have hwy := wy.toNat_lt
  have HTM := Lib.hid (show (wy.toNat : Int) % (wl.length : Int) = (nn : Int) by rw [← hnn]; omega)
  obtain ⟨j, hj⟩ : ∃ k, min nn 8 = k := ⟨_, rfl⟩
  have hj8 : j ≤ 8 := by omega
  have hmin : ∀ (ts : Array TypeId) (t : TypeId) (W : World), (Builtin.min_ ts t #[.int .i64 (nn : Int), .int .i64 8]).run Tryd.prog W = .ok (.int .i64 (j : Int)) W := fun ts t W => by
    have e : (j : Int) = if (8 : Int) < (nn : Int) then 8 else (nn : Int) := by split <;> omega
    rw [e]
    simp [Builtin.min_, Builtin.min2]
  have htl : (wl.take j).length = j := by simp; omega
  have HJ := Lib.hid htl
  have HRJ0 := Lib.hid (readV_few (l := wl.take j) (by omega))
  obtain ⟨kk, hkk⟩ : ∃ k, codeV (wl.take j) = k := ⟨_, rfl⟩
  have HCJ := Lib.hid hkk
  have HK := Lib.hid (show (kk == 0) = false by rw [← hkk]; exact codeV_zero _)
  have hw4 : (wl.length : Int) - 4 = (k4 : Int) := by omega
  have HRJ := HRJ0
  have he0 : (((UInt8.ofNat r.length).toNat : Int) == (r.length : Int)) = true := by rw [beq_iff_eq, UInt8.toNat_ofNat']; omega
  have hk := (vldF_iff _ _ _ _).1 hok
  have ht3 : (wy.toNat : Int).tmod 3 = 0 := by rw [Int.tmod_eq_emod_of_nonneg (by omega)]; omega
  have ht3b : (wy.toNat : Int) % 3 = 0 := by omega
  have hbd : decide ((15 : Int) < (vv.toNat : Int)) = true := decide_eq_true (by omega)
  have HB := Lib.hid (show ((((UInt8.ofNat r.length).toNat : Int) == (r.length : Int)) && vldF (vv.toNat : Int) (b.toNat : Int) (d.toNat : Int) r.length) = false by rw [he0, Bool.true_and]; exact eq_false_of_ne_true (fun h => by have := ((vldF_iff _ _ _ _).1 h).1.2; omega))
  obtain ⟨bl2, hbl2⟩ : ∃ t, bl.set 0 vv = t := ⟨_, rfl⟩
  have hbe : bl2 = vv :: b :: d :: UInt8.ofNat r.length :: r := by rw [← hbl2, ← hbl]; rfl
  have HBN2 := Lib.hid (show bl2.length = k4 by rw [← hbl2]; simp [hbn])
  have HPRE2 := Lib.hid (show wl.set 0 vv = bl2 ++ tr by rw [hwt, List.set_append_left _ _ (by omega), hbl2])
  obtain ⟨al5, hal⟩ : ∃ t, bl2 ++ Crc.trailer (Crc.sum bl2) = t := ⟨_, rfl⟩
  have HAPP := Lib.hid hal
  have hal5 : al5.length ≤ 400 := by rw [← hal, List.length_append, Crc.trailer_length, HBN2.out]; omega
  have HCV := Lib.hid (show codeV al5 = 170 by rw [← hal]; exact codeV_app _)
  have HRV := Lib.hid (show readV al5 = none by rw [← hal, readV_app, hbe]; exact parse_none HB.out)
  clear hal hbl2 hbe he0 hk cb htl htn
  clear htr hbl hwt hbn hk4 hmid hnn hj hkk hok hwl hwn ha hb' hd' hr c0
  have hB := Below.refl w.heap.size w
  go_enter Tryd.func10, Tryd.ntmps10
  go_wp2_with fail
  refine (awake_any _ (hd.later (al (Below.refl _ w) _))).mono ?_
  rintro e w1 ⟨rfl, hb⟩
  have hq := thru (al (Below.refl _ w) _) hb
  have g1_0 := later (a := ⟨w.heap.size, 0, none⟩) (v := .int .i64 v) hb (by go_simp)
  have g1_1 := later (a := ⟨w.heap.size, 1, none⟩) (v := .int .i64 n) hb (by go_simp)
  have g1_2 := later (a := ⟨w.heap.size, 2, none⟩) (v := .int .i64 s) hb (by go_simp)
  have g1_3 := later (a := ⟨w.heap.size, 3, none⟩) (v := .slice x l.length cx) hb (by go_simp)
  have z1_0 : w.heap.size < w1.heap.size := (by have := hb.size; first | omega | (simp at this; omega))
  replace hB := thru hB hq
  clear hb hq 
  go_wp2_with fail
  refine (near_any v n s x l cx _ (hx.later hB) hn (by omega) hcx hv hn' hs).mono ?_
  rw [HN.out]
  rintro e w2 ⟨x2, c2, rfl, ho, hb⟩
  have y2 := ho.bts
  have n2 := ho.none_cap
  clear ho
  have hq := thru (Below.refl _ w1) hb
  have g2_0 := later hq g1_0
  have g2_1 := later hq g1_1
  have g2_2 := later hq g1_2
  have g2_3 := later hq g1_3
  have z2_0 : w.heap.size < w2.heap.size := Nat.lt_of_lt_of_le z1_0 hq.size
  replace hB := thru hB hq
  clear hb hq g1_0 g1_1 g1_2 g1_3 z1_0
  go_wp2_with fail
  refine (bytes_all (a.toNat : Int) (b.toNat : Int) (d.toNat : Int) x2 r c2 _ y2 n2).mono ?_
  rw [HBY.out]
  rintro e w3 ⟨x3, c3, rfl, ho, hb⟩
  obtain ⟨g3, hx3⟩ := ho.some_of (by omega)
  subst hx3
  have cap3 := ho.le_cap
  have lo3 : w.heap.size < g3 := by have := ho.low g3 rfl; omega
  clear y2 n2
  have hq := thru (Below.refl _ w2) hb
  have g3_0 := later hq g2_0
  have g3_1 := later hq g2_1
  have g3_2 := later hq g2_2
  have g3_3 := later hq g2_3
  have z3_0 : w.heap.size < w3.heap.size := Nat.lt_of_lt_of_le z2_0 hq.size
  replace hB := thru hB hq
  clear hb hq g2_0 g2_1 g2_2 g2_3 z2_0
  have htm := HTM.out
  go_wp2_with fail
  clear htm
  refine (readf_at (some ⟨g3, 0, none⟩) (wl.take j) _ c3 _ HJ.out (ho.bts.take j) (by rw [HJ.out]; omega) ⟨by rw [HJ.out]; omega, cap3.2⟩).mono ?_
  rw [HRJ.out, HCJ.out]
  rintro e w4 ⟨rfl, hb⟩
  have hk0 := HK.out
  have hq := thru (Below.refl _ w3) hb
  have g4_0 := later hq g3_0
  have g4_1 := later hq g3_1
  have g4_2 := later hq g3_2
  have g4_3 := later hq g3_3
  have z4_0 : w.heap.size < w4.heap.size := Nat.lt_of_lt_of_le z3_0 hq.size
  replace hB := thru hB hq
  replace ho := ho.later hq
  clear hb hq g3_0 g3_1 g3_2 g3_3 z3_0
  have zg := (ho.low g3 rfl).2
  have fr := ho.free 0
  have q3 := ho.cell 0 (by omega)
  go_wp2_with fail
  have hoS := ho.set 0 vv
  refine (append_at (some ⟨g3, 0, none⟩) bl2 _ c3 _ (by rw [HBN2.out] <;> omega) (bts_pre HPRE2.out (hoS.later (al (Below.refl _ _) _)).bts) (by rw [HBN2.out]; omega)).mono ?_
  rintro e w5 ⟨x5, c5, rfl, ho5, hb⟩
  rw [HAPP.out] at ho5 ⊢
  have y5 := ho5.bts
  have cap5 := ho5.le_cap
  clear ho5 hoS
  replace hB := thru (al (hB.setCell (p := ⟨g3, 0, none⟩) (by simp <;> omega) _) _) hb
  clear hb ho fr q3
  go_wp2_with fail
  refine (readf_all x5 al5 c5 _ y5 (by omega) cap5).mono ?_
  rw [HRV.out, HCV.out]
  rintro e w6 ⟨rfl, hb⟩
  replace hB := thru hB hb
  clear hb
  go_wp2_with fail
  go_ret
  exact ⟨rfl, al hB _⟩

set_option maxHeartbeats 600000 in
theorem bad17_0f (v n s : Int) (x : Option Addr) (l : List UInt8) (cx : Nat) (wy vv : UInt8) (w : World) (hd : DbAt w) (hx : Bts w x l) (hn : x = none → cx = 0) (hcx : l.length ≤ cx ∧ cx ≤ 9223372036854775807) (hv : -9223372036854775808 ≤ v ∧ v ≤ 9223372036854775807) (hn' : -9223372036854775808 ≤ n ∧ n ≤ 9223372036854775807) (hs : -9223372036854775808 ≤ s ∧ s ≤ 9223372036854775807) (c0 : ¬ 300 < (l.length : Int)) (htn : wy.toNat % 3 = 0) (cb : ¬ (15 < vv.toNat)) :
    Calls Tryd.prog 10 #[.agg #[.int .i64 v, .int .i64 n, .int .i64 s, .slice x l.length cx], .int .u8 (wy.toNat : Int), .int .u8 (vv.toNat : Int)] w (YesOf w) := by
  have y0 : decide (300 < (l.length : Int)) = false := decide_eq_false c0
  have l3 : l.length ≤ 300 := by omega
  obtain ⟨a, ha⟩ : ∃ a, nearA v = a := ⟨_, rfl⟩
  obtain ⟨b, hb'⟩ : ∃ a, nearB n = a := ⟨_, rfl⟩
  obtain ⟨d, hd'⟩ : ∃ a, nearD s = a := ⟨_, rfl⟩
  obtain ⟨r, hr⟩ : ∃ a, nearL l = a := ⟨_, rfl⟩
  have hok := near_ok v n s l
  have hrl := near_len l
  rw [ha, hb', hd', hr] at hok
  rw [hr] at hrl
  obtain ⟨wl, hwl⟩ : ∃ z, wholeF a b d r = z := ⟨_, rfl⟩
  have hwn : wl.length = r.length + 8 := by rw [← hwl]; exact whole_length _ _ _ _
  have HN := Lib.hid (show NearOf (nearA v) (nearB n) (nearD s) (nearL l) = NearOf a b d r by rw [ha, hb', hd', hr])
  have HBY := Lib.hid (show bytesV (a.toNat : Int) (b.toNat : Int) (d.toNat : Int) r = some wl by rw [bytesV_ok hok, hwl])
  have HWN := Lib.hid hwn
  have hw72 : wl.length ≤ 72 := by omega
  have hw9 : 9 ≤ wl.length := by omega
  obtain ⟨tr, htr⟩ : ∃ t, Crc.trailer (Crc.sum (bodyF a b d r)) = t := ⟨_, rfl⟩
  obtain ⟨bl, hbl⟩ : ∃ t, bodyF a b d r = t := ⟨_, rfl⟩
  obtain ⟨k4, hk4⟩ : ∃ k, r.length + 4 = k := ⟨_, rfl⟩
  have hwt : wl = bl ++ tr := by rw [← hwl, ← hbl, ← htr]; rfl
  have hbn : bl.length = k4 := by rw [← hbl, ← hk4]; unfold bodyF; simp
  have hmid : wl = [a, b, d, UInt8.ofNat r.length] ++ (r ++ tr) := by rw [hwt, ← hbl]; unfold bodyF; simp
  have HW3 := Lib.hid (show wl.getD 3 0 = UInt8.ofNat r.length by rw [hmid]; rfl)
  obtain ⟨nn, hnn⟩ : ∃ k, wy.toNat % wl.length = k := ⟨_, rfl⟩
  have hwy := wy.toNat_lt
  have HTM := Lib.hid (show (wy.toNat : Int) % (wl.length : Int) = (nn : Int) by rw [← hnn]; omega)
  obtain ⟨j, hj⟩ : ∃ k, min nn 8 = k := ⟨_, rfl⟩
  have hj8 : j ≤ 8 := by omega
  have hmin : ∀ (ts : Array TypeId) (t : TypeId) (W : World), (Builtin.min_ ts t #[.int .i64 (nn : Int), .int .i64 8]).run Tryd.prog W = .ok (.int .i64 (j : Int)) W := fun ts t W => by
    have e : (j : Int) = if (8 : Int) < (nn : Int) then 8 else (nn : Int) := by split <;> omega
    rw [e]
    simp [Builtin.min_, Builtin.min2]
  have htl : (wl.take j).length = j := by simp; omega
  have HJ := Lib.hid htl
  have HRJ0 := Lib.hid (readV_few (l := wl.take j) (by omega))
  obtain ⟨kk, hkk⟩ : ∃ k, codeV (wl.take j) = k := ⟨_, rfl⟩
  have HCJ := Lib.hid hkk
  have HK := Lib.hid (show (kk == 0) = false by rw [← hkk]; exact codeV_zero _)
  have hw4 : (wl.length : Int) - 4 = (k4 : Int) := by omega
  have HRJ := HRJ0
  have he0 : (((UInt8.ofNat r.length).toNat : Int) == (r.length : Int)) = true := by rw [beq_iff_eq, UInt8.toNat_ofNat']; omega
  have hk := (vldF_iff _ _ _ _).1 hok
  have ht3 : (wy.toNat : Int).tmod 3 = 0 := by rw [Int.tmod_eq_emod_of_nonneg (by omega)]; omega
  have ht3b : (wy.toNat : Int) % 3 = 0 := by omega
  have hbd : decide ((15 : Int) < (vv.toNat : Int)) = false := decide_eq_false (by omega)
  have HB := Lib.hid (show ((((UInt8.ofNat r.length).toNat : Int) == (r.length : Int)) && vldF (vv.toNat : Int) (b.toNat : Int) (d.toNat : Int) r.length) = true by rw [he0, Bool.true_and]; exact (vldF_iff _ _ _ _).2 ⟨⟨by omega, by omega⟩, hk.2.1, hk.2.2⟩)
  obtain ⟨bl2, hbl2⟩ : ∃ t, bl.set 0 vv = t := ⟨_, rfl⟩
  have hbe : bl2 = vv :: b :: d :: UInt8.ofNat r.length :: r := by rw [← hbl2, ← hbl]; rfl
  have HBN2 := Lib.hid (show bl2.length = k4 by rw [← hbl2]; simp [hbn])
  have HPRE2 := Lib.hid (show wl.set 0 vv = bl2 ++ tr by rw [hwt, List.set_append_left _ _ (by omega), hbl2])
  obtain ⟨al5, hal⟩ : ∃ t, bl2 ++ Crc.trailer (Crc.sum bl2) = t := ⟨_, rfl⟩
  have HAPP := Lib.hid hal
  have hal5 : al5.length ≤ 400 := by rw [← hal, List.length_append, Crc.trailer_length, HBN2.out]; omega
  have HCV := Lib.hid (show codeV al5 = 170 by rw [← hal]; exact codeV_app _)
  have HRV := Lib.hid (show readV al5 = some (vv, b, d, r) by rw [← hal, readV_app, hbe]; exact parse_some HB.out)
  clear hal hbl2 hbe he0 hk cb htl htn
  clear htr hbl hwt hbn hk4 hmid hnn hj hkk hok hwl hwn ha hb' hd' hr c0
  have hB := Below.refl w.heap.size w
  go_enter Tryd.func10, Tryd.ntmps10
  go_wp2_with fail
  refine (awake_any _ (hd.later (al (Below.refl _ w) _))).mono ?_
  rintro e w1 ⟨rfl, hb⟩
  have hq := thru (al (Below.refl _ w) _) hb
  have g1_0 := later (a := ⟨w.heap.size, 0, none⟩) (v := .int .i64 v) hb (by go_simp)
  have g1_1 := later (a := ⟨w.heap.size, 1, none⟩) (v := .int .i64 n) hb (by go_simp)
  have g1_2 := later (a := ⟨w.heap.size, 2, none⟩) (v := .int .i64 s) hb (by go_simp)
  have g1_3 := later (a := ⟨w.heap.size, 3, none⟩) (v := .slice x l.length cx) hb (by go_simp)
  have z1_0 : w.heap.size < w1.heap.size := (by have := hb.size; first | omega | (simp at this; omega))
  replace hB := thru hB hq
  clear hb hq 
  go_wp2_with fail
  refine (near_any v n s x l cx _ (hx.later hB) hn (by omega) hcx hv hn' hs).mono ?_
  rw [HN.out]
  rintro e w2 ⟨x2, c2, rfl, ho, hb⟩
  have y2 := ho.bts
  have n2 := ho.none_cap
  clear ho
  have hq := thru (Below.refl _ w1) hb
  have g2_0 := later hq g1_0
  have g2_1 := later hq g1_1
  have g2_2 := later hq g1_2
  have g2_3 := later hq g1_3
  have z2_0 : w.heap.size < w2.heap.size := Nat.lt_of_lt_of_le z1_0 hq.size
  replace hB := thru hB hq
  clear hb hq g1_0 g1_1 g1_2 g1_3 z1_0
  go_wp2_with fail
  refine (bytes_all (a.toNat : Int) (b.toNat : Int) (d.toNat : Int) x2 r c2 _ y2 n2).mono ?_
  rw [HBY.out]
  rintro e w3 ⟨x3, c3, rfl, ho, hb⟩
  obtain ⟨g3, hx3⟩ := ho.some_of (by omega)
  subst hx3
  have cap3 := ho.le_cap
  have lo3 : w.heap.size < g3 := by have := ho.low g3 rfl; omega
  clear y2 n2
  have hq := thru (Below.refl _ w2) hb
  have g3_0 := later hq g2_0
  have g3_1 := later hq g2_1
  have g3_2 := later hq g2_2
  have g3_3 := later hq g2_3
  have z3_0 : w.heap.size < w3.heap.size := Nat.lt_of_lt_of_le z2_0 hq.size
  replace hB := thru hB hq
  clear hb hq g2_0 g2_1 g2_2 g2_3 z2_0
  have htm := HTM.out
  go_wp2_with fail
  clear htm
  refine (readf_at (some ⟨g3, 0, none⟩) (wl.take j) _ c3 _ HJ.out (ho.bts.take j) (by rw [HJ.out]; omega) ⟨by rw [HJ.out]; omega, cap3.2⟩).mono ?_
  rw [HRJ.out, HCJ.out]
  rintro e w4 ⟨rfl, hb⟩
  have hk0 := HK.out
  have hq := thru (Below.refl _ w3) hb
  have g4_0 := later hq g3_0
  have g4_1 := later hq g3_1
  have g4_2 := later hq g3_2
  have g4_3 := later hq g3_3
  have z4_0 : w.heap.size < w4.heap.size := Nat.lt_of_lt_of_le z3_0 hq.size
  replace hB := thru hB hq
  replace ho := ho.later hq
  clear hb hq g3_0 g3_1 g3_2 g3_3 z3_0
  have zg := (ho.low g3 rfl).2
  have fr := ho.free 0
  have q3 := ho.cell 0 (by omega)
  go_wp2_with fail
  have hoS := ho.set 0 vv
  refine (append_at (some ⟨g3, 0, none⟩) bl2 _ c3 _ (by rw [HBN2.out] <;> omega) (bts_pre HPRE2.out (hoS.later (al (Below.refl _ _) _)).bts) (by rw [HBN2.out]; omega)).mono ?_
  rintro e w5 ⟨x5, c5, rfl, ho5, hb⟩
  rw [HAPP.out] at ho5 ⊢
  have y5 := ho5.bts
  have cap5 := ho5.le_cap
  clear ho5 hoS
  replace hB := thru (al (hB.setCell (p := ⟨g3, 0, none⟩) (by simp <;> omega) _) _) hb
  clear hb ho fr q3
  go_wp2_with fail
  refine (readf_all x5 al5 c5 _ y5 (by omega) cap5).mono ?_
  rw [HRV.out]
  rintro e w6 ⟨⟨x6, c6, rfl, ho6⟩, hb⟩
  replace hB := thru hB hb
  clear hb
  go_wp2_with fail
  go_ret
  exact ⟨rfl, al hB _⟩

set_option maxHeartbeats 600000 in
theorem bad17_1t (v n s : Int) (x : Option Addr) (l : List UInt8) (cx : Nat) (wy vv : UInt8) (w : World) (hd : DbAt w) (hx : Bts w x l) (hn : x = none → cx = 0) (hcx : l.length ≤ cx ∧ cx ≤ 9223372036854775807) (hv : -9223372036854775808 ≤ v ∧ v ≤ 9223372036854775807) (hn' : -9223372036854775808 ≤ n ∧ n ≤ 9223372036854775807) (hs : -9223372036854775808 ≤ s ∧ s ≤ 9223372036854775807) (c0 : ¬ 300 < (l.length : Int)) (htn : wy.toNat % 3 = 1) (cb : 1 < vv.toNat) :
    Calls Tryd.prog 10 #[.agg #[.int .i64 v, .int .i64 n, .int .i64 s, .slice x l.length cx], .int .u8 (wy.toNat : Int), .int .u8 (vv.toNat : Int)] w (YesOf w) := by
  have y0 : decide (300 < (l.length : Int)) = false := decide_eq_false c0
  have l3 : l.length ≤ 300 := by omega
  obtain ⟨a, ha⟩ : ∃ a, nearA v = a := ⟨_, rfl⟩
  obtain ⟨b, hb'⟩ : ∃ a, nearB n = a := ⟨_, rfl⟩
  obtain ⟨d, hd'⟩ : ∃ a, nearD s = a := ⟨_, rfl⟩
  obtain ⟨r, hr⟩ : ∃ a, nearL l = a := ⟨_, rfl⟩
  have hok := near_ok v n s l
  have hrl := near_len l
  rw [ha, hb', hd', hr] at hok
  rw [hr] at hrl
  obtain ⟨wl, hwl⟩ : ∃ z, wholeF a b d r = z := ⟨_, rfl⟩
  have hwn : wl.length = r.length + 8 := by rw [← hwl]; exact whole_length _ _ _ _
  have HN := Lib.hid (show NearOf (nearA v) (nearB n) (nearD s) (nearL l) = NearOf a b d r by rw [ha, hb', hd', hr])
  have HBY := Lib.hid (show bytesV (a.toNat : Int) (b.toNat : Int) (d.toNat : Int) r = some wl by rw [bytesV_ok hok, hwl])
  have HWN := Lib.hid hwn
  have hw72 : wl.length ≤ 72 := by omega
  have hw9 : 9 ≤ wl.length := by omega
  obtain ⟨tr, htr⟩ : ∃ t, Crc.trailer (Crc.sum (bodyF a b d r)) = t := ⟨_, rfl⟩
  obtain ⟨bl, hbl⟩ : ∃ t, bodyF a b d r = t := ⟨_, rfl⟩
  obtain ⟨k4, hk4⟩ : ∃ k, r.length + 4 = k := ⟨_, rfl⟩
  have hwt : wl = bl ++ tr := by rw [← hwl, ← hbl, ← htr]; rfl
  have hbn : bl.length = k4 := by rw [← hbl, ← hk4]; unfold bodyF; simp
  have hmid : wl = [a, b, d, UInt8.ofNat r.length] ++ (r ++ tr) := by rw [hwt, ← hbl]; unfold bodyF; simp
  have HW3 := Lib.hid (show wl.getD 3 0 = UInt8.ofNat r.length by rw [hmid]; rfl)
  obtain ⟨nn, hnn⟩ : ∃ k, wy.toNat % wl.length = k := ⟨_, rfl⟩
  have hwy := wy.toNat_lt
  have HTM := Lib.hid (show (wy.toNat : Int) % (wl.length : Int) = (nn : Int) by rw [← hnn]; omega)
  obtain ⟨j, hj⟩ : ∃ k, min nn 8 = k := ⟨_, rfl⟩
  have hj8 : j ≤ 8 := by omega
  have hmin : ∀ (ts : Array TypeId) (t : TypeId) (W : World), (Builtin.min_ ts t #[.int .i64 (nn : Int), .int .i64 8]).run Tryd.prog W = .ok (.int .i64 (j : Int)) W := fun ts t W => by
    have e : (j : Int) = if (8 : Int) < (nn : Int) then 8 else (nn : Int) := by split <;> omega
    rw [e]
    simp [Builtin.min_, Builtin.min2]
  have htl : (wl.take j).length = j := by simp; omega
  have HJ := Lib.hid htl
  have HRJ0 := Lib.hid (readV_few (l := wl.take j) (by omega))
  obtain ⟨kk, hkk⟩ : ∃ k, codeV (wl.take j) = k := ⟨_, rfl⟩
  have HCJ := Lib.hid hkk
  have HK := Lib.hid (show (kk == 0) = false by rw [← hkk]; exact codeV_zero _)
  have hw4 : (wl.length : Int) - 4 = (k4 : Int) := by omega
  have HRJ := HRJ0
  have he0 : (((UInt8.ofNat r.length).toNat : Int) == (r.length : Int)) = true := by rw [beq_iff_eq, UInt8.toNat_ofNat']; omega
  have hk := (vldF_iff _ _ _ _).1 hok
  have ht3 : (wy.toNat : Int).tmod 3 = 1 := by rw [Int.tmod_eq_emod_of_nonneg (by omega)]; omega
  have ht3b : (wy.toNat : Int) % 3 = 1 := by omega
  have hbd : decide ((1 : Int) < (vv.toNat : Int)) = true := decide_eq_true (by omega)
  have HB := Lib.hid (show ((((UInt8.ofNat r.length).toNat : Int) == (r.length : Int)) && vldF (a.toNat : Int) (vv.toNat : Int) (d.toNat : Int) r.length) = false by rw [he0, Bool.true_and]; exact eq_false_of_ne_true (fun h => by have := ((vldF_iff _ _ _ _).1 h).2.1.2; omega))
  obtain ⟨bl2, hbl2⟩ : ∃ t, bl.set 1 vv = t := ⟨_, rfl⟩
  have hbe : bl2 = a :: vv :: d :: UInt8.ofNat r.length :: r := by rw [← hbl2, ← hbl]; rfl
  have HBN2 := Lib.hid (show bl2.length = k4 by rw [← hbl2]; simp [hbn])
  have HPRE2 := Lib.hid (show wl.set 1 vv = bl2 ++ tr by rw [hwt, List.set_append_left _ _ (by omega), hbl2])
  obtain ⟨al5, hal⟩ : ∃ t, bl2 ++ Crc.trailer (Crc.sum bl2) = t := ⟨_, rfl⟩
  have HAPP := Lib.hid hal
  have hal5 : al5.length ≤ 400 := by rw [← hal, List.length_append, Crc.trailer_length, HBN2.out]; omega
  have HCV := Lib.hid (show codeV al5 = 170 by rw [← hal]; exact codeV_app _)
  have HRV := Lib.hid (show readV al5 = none by rw [← hal, readV_app, hbe]; exact parse_none HB.out)
  clear hal hbl2 hbe he0 hk cb htl htn
  clear htr hbl hwt hbn hk4 hmid hnn hj hkk hok hwl hwn ha hb' hd' hr c0
  have hB := Below.refl w.heap.size w
  go_enter Tryd.func10, Tryd.ntmps10
  go_wp2_with fail
  refine (awake_any _ (hd.later (al (Below.refl _ w) _))).mono ?_
  rintro e w1 ⟨rfl, hb⟩
  have hq := thru (al (Below.refl _ w) _) hb
  have g1_0 := later (a := ⟨w.heap.size, 0, none⟩) (v := .int .i64 v) hb (by go_simp)
  have g1_1 := later (a := ⟨w.heap.size, 1, none⟩) (v := .int .i64 n) hb (by go_simp)
  have g1_2 := later (a := ⟨w.heap.size, 2, none⟩) (v := .int .i64 s) hb (by go_simp)
  have g1_3 := later (a := ⟨w.heap.size, 3, none⟩) (v := .slice x l.length cx) hb (by go_simp)
  have z1_0 : w.heap.size < w1.heap.size := (by have := hb.size; first | omega | (simp at this; omega))
  replace hB := thru hB hq
  clear hb hq 
  go_wp2_with fail
  refine (near_any v n s x l cx _ (hx.later hB) hn (by omega) hcx hv hn' hs).mono ?_
  rw [HN.out]
  rintro e w2 ⟨x2, c2, rfl, ho, hb⟩
  have y2 := ho.bts
  have n2 := ho.none_cap
  clear ho
  have hq := thru (Below.refl _ w1) hb
  have g2_0 := later hq g1_0
  have g2_1 := later hq g1_1
  have g2_2 := later hq g1_2
  have g2_3 := later hq g1_3
  have z2_0 : w.heap.size < w2.heap.size := Nat.lt_of_lt_of_le z1_0 hq.size
  replace hB := thru hB hq
  clear hb hq g1_0 g1_1 g1_2 g1_3 z1_0
  go_wp2_with fail
  refine (bytes_all (a.toNat : Int) (b.toNat : Int) (d.toNat : Int) x2 r c2 _ y2 n2).mono ?_
  rw [HBY.out]
  rintro e w3 ⟨x3, c3, rfl, ho, hb⟩
  obtain ⟨g3, hx3⟩ := ho.some_of (by omega)
  subst hx3
  have cap3 := ho.le_cap
  have lo3 : w.heap.size < g3 := by have := ho.low g3 rfl; omega
  clear y2 n2
  have hq := thru (Below.refl _ w2) hb
  have g3_0 := later hq g2_0
  have g3_1 := later hq g2_1
  have g3_2 := later hq g2_2
  have g3_3 := later hq g2_3
  have z3_0 : w.heap.size < w3.heap.size := Nat.lt_of_lt_of_le z2_0 hq.size
  replace hB := thru hB hq
  clear hb hq g2_0 g2_1 g2_2 g2_3 z2_0
  have htm := HTM.out
  go_wp2_with fail
  clear htm
  refine (readf_at (some ⟨g3, 0, none⟩) (wl.take j) _ c3 _ HJ.out (ho.bts.take j) (by rw [HJ.out]; omega) ⟨by rw [HJ.out]; omega, cap3.2⟩).mono ?_
  rw [HRJ.out, HCJ.out]
  rintro e w4 ⟨rfl, hb⟩
  have hk0 := HK.out
  have hq := thru (Below.refl _ w3) hb
  have g4_0 := later hq g3_0
  have g4_1 := later hq g3_1
  have g4_2 := later hq g3_2
  have g4_3 := later hq g3_3
  have z4_0 : w.heap.size < w4.heap.size := Nat.lt_of_lt_of_le z3_0 hq.size
  replace hB := thru hB hq
  replace ho := ho.later hq
  clear hb hq g3_0 g3_1 g3_2 g3_3 z3_0
  have zg := (ho.low g3 rfl).2
  have fr := ho.free 1
  have q3 := ho.cell 1 (by omega)
  go_wp2_with fail
  have hoS := ho.set 1 vv
  refine (append_at (some ⟨g3, 0, none⟩) bl2 _ c3 _ (by rw [HBN2.out] <;> omega) (bts_pre HPRE2.out (hoS.later (al (Below.refl _ _) _)).bts) (by rw [HBN2.out]; omega)).mono ?_
  rintro e w5 ⟨x5, c5, rfl, ho5, hb⟩
  rw [HAPP.out] at ho5 ⊢
  have y5 := ho5.bts
  have cap5 := ho5.le_cap
  clear ho5 hoS
  replace hB := thru (al (hB.setCell (p := ⟨g3, 1, none⟩) (by simp <;> omega) _) _) hb
  clear hb ho fr q3
  go_wp2_with fail
  refine (readf_all x5 al5 c5 _ y5 (by omega) cap5).mono ?_
  rw [HRV.out, HCV.out]
  rintro e w6 ⟨rfl, hb⟩
  replace hB := thru hB hb
  clear hb
  go_wp2_with fail
  go_ret
  exact ⟨rfl, al hB _⟩

set_option maxHeartbeats 600000 in
theorem bad17_1f (v n s : Int) (x : Option Addr) (l : List UInt8) (cx : Nat) (wy vv : UInt8) (w : World) (hd : DbAt w) (hx : Bts w x l) (hn : x = none → cx = 0) (hcx : l.length ≤ cx ∧ cx ≤ 9223372036854775807) (hv : -9223372036854775808 ≤ v ∧ v ≤ 9223372036854775807) (hn' : -9223372036854775808 ≤ n ∧ n ≤ 9223372036854775807) (hs : -9223372036854775808 ≤ s ∧ s ≤ 9223372036854775807) (c0 : ¬ 300 < (l.length : Int)) (htn : wy.toNat % 3 = 1) (cb : ¬ (1 < vv.toNat)) :
    Calls Tryd.prog 10 #[.agg #[.int .i64 v, .int .i64 n, .int .i64 s, .slice x l.length cx], .int .u8 (wy.toNat : Int), .int .u8 (vv.toNat : Int)] w (YesOf w) := by
  have y0 : decide (300 < (l.length : Int)) = false := decide_eq_false c0
  have l3 : l.length ≤ 300 := by omega
  obtain ⟨a, ha⟩ : ∃ a, nearA v = a := ⟨_, rfl⟩
  obtain ⟨b, hb'⟩ : ∃ a, nearB n = a := ⟨_, rfl⟩
  obtain ⟨d, hd'⟩ : ∃ a, nearD s = a := ⟨_, rfl⟩
  obtain ⟨r, hr⟩ : ∃ a, nearL l = a := ⟨_, rfl⟩
  have hok := near_ok v n s l
  have hrl := near_len l
  rw [ha, hb', hd', hr] at hok
  rw [hr] at hrl
  obtain ⟨wl, hwl⟩ : ∃ z, wholeF a b d r = z := ⟨_, rfl⟩
  have hwn : wl.length = r.length + 8 := by rw [← hwl]; exact whole_length _ _ _ _
  have HN := Lib.hid (show NearOf (nearA v) (nearB n) (nearD s) (nearL l) = NearOf a b d r by rw [ha, hb', hd', hr])
  have HBY := Lib.hid (show bytesV (a.toNat : Int) (b.toNat : Int) (d.toNat : Int) r = some wl by rw [bytesV_ok hok, hwl])
  have HWN := Lib.hid hwn
  have hw72 : wl.length ≤ 72 := by omega
  have hw9 : 9 ≤ wl.length := by omega
  obtain ⟨tr, htr⟩ : ∃ t, Crc.trailer (Crc.sum (bodyF a b d r)) = t := ⟨_, rfl⟩
  obtain ⟨bl, hbl⟩ : ∃ t, bodyF a b d r = t := ⟨_, rfl⟩
  obtain ⟨k4, hk4⟩ : ∃ k, r.length + 4 = k := ⟨_, rfl⟩
  have hwt : wl = bl ++ tr := by rw [← hwl, ← hbl, ← htr]; rfl
  have hbn : bl.length = k4 := by rw [← hbl, ← hk4]; unfold bodyF; simp
  have hmid : wl = [a, b, d, UInt8.ofNat r.length] ++ (r ++ tr) := by rw [hwt, ← hbl]; unfold bodyF; simp
  have HW3 := Lib.hid (show wl.getD 3 0 = UInt8.ofNat r.length by rw [hmid]; rfl)
  obtain ⟨nn, hnn⟩ : ∃ k, wy.toNat % wl.length = k := ⟨_, rfl⟩
  have hwy := wy.toNat_lt
  have HTM := Lib.hid (show (wy.toNat : Int) % (wl.length : Int) = (nn : Int) by rw [← hnn]; omega)
  obtain ⟨j, hj⟩ : ∃ k, min nn 8 = k := ⟨_, rfl⟩
  have hj8 : j ≤ 8 := by omega
  have hmin : ∀ (ts : Array TypeId) (t : TypeId) (W : World), (Builtin.min_ ts t #[.int .i64 (nn : Int), .int .i64 8]).run Tryd.prog W = .ok (.int .i64 (j : Int)) W := fun ts t W => by
    have e : (j : Int) = if (8 : Int) < (nn : Int) then 8 else (nn : Int) := by split <;> omega
    rw [e]
    simp [Builtin.min_, Builtin.min2]
  have htl : (wl.take j).length = j := by simp; omega
  have HJ := Lib.hid htl
  have HRJ0 := Lib.hid (readV_few (l := wl.take j) (by omega))
  obtain ⟨kk, hkk⟩ : ∃ k, codeV (wl.take j) = k := ⟨_, rfl⟩
  have HCJ := Lib.hid hkk
  have HK := Lib.hid (show (kk == 0) = false by rw [← hkk]; exact codeV_zero _)
  have hw4 : (wl.length : Int) - 4 = (k4 : Int) := by omega
  have HRJ := HRJ0
  have he0 : (((UInt8.ofNat r.length).toNat : Int) == (r.length : Int)) = true := by rw [beq_iff_eq, UInt8.toNat_ofNat']; omega
  have hk := (vldF_iff _ _ _ _).1 hok
  have ht3 : (wy.toNat : Int).tmod 3 = 1 := by rw [Int.tmod_eq_emod_of_nonneg (by omega)]; omega
  have ht3b : (wy.toNat : Int) % 3 = 1 := by omega
  have hbd : decide ((1 : Int) < (vv.toNat : Int)) = false := decide_eq_false (by omega)
  have HB := Lib.hid (show ((((UInt8.ofNat r.length).toNat : Int) == (r.length : Int)) && vldF (a.toNat : Int) (vv.toNat : Int) (d.toNat : Int) r.length) = true by rw [he0, Bool.true_and]; exact (vldF_iff _ _ _ _).2 ⟨hk.1, ⟨by omega, by omega⟩, hk.2.2⟩)
  obtain ⟨bl2, hbl2⟩ : ∃ t, bl.set 1 vv = t := ⟨_, rfl⟩
  have hbe : bl2 = a :: vv :: d :: UInt8.ofNat r.length :: r := by rw [← hbl2, ← hbl]; rfl
  have HBN2 := Lib.hid (show bl2.length = k4 by rw [← hbl2]; simp [hbn])
  have HPRE2 := Lib.hid (show wl.set 1 vv = bl2 ++ tr by rw [hwt, List.set_append_left _ _ (by omega), hbl2])
  obtain ⟨al5, hal⟩ : ∃ t, bl2 ++ Crc.trailer (Crc.sum bl2) = t := ⟨_, rfl⟩
  have HAPP := Lib.hid hal
  have hal5 : al5.length ≤ 400 := by rw [← hal, List.length_append, Crc.trailer_length, HBN2.out]; omega
  have HCV := Lib.hid (show codeV al5 = 170 by rw [← hal]; exact codeV_app _)
  have HRV := Lib.hid (show readV al5 = some (a, vv, d, r) by rw [← hal, readV_app, hbe]; exact parse_some HB.out)
  clear hal hbl2 hbe he0 hk cb htl htn
  clear htr hbl hwt hbn hk4 hmid hnn hj hkk hok hwl hwn ha hb' hd' hr c0
  have hB := Below.refl w.heap.size w
  go_enter Tryd.func10, Tryd.ntmps10
  go_wp2_with fail
  refine (awake_any _ (hd.later (al (Below.refl _ w) _))).mono ?_
  rintro e w1 ⟨rfl, hb⟩
  have hq := thru (al (Below.refl _ w) _) hb
  have g1_0 := later (a := ⟨w.heap.size, 0, none⟩) (v := .int .i64 v) hb (by go_simp)
  have g1_1 := later (a := ⟨w.heap.size, 1, none⟩) (v := .int .i64 n) hb (by go_simp)
  have g1_2 := later (a := ⟨w.heap.size, 2, none⟩) (v := .int .i64 s) hb (by go_simp)
  have g1_3 := later (a := ⟨w.heap.size, 3, none⟩) (v := .slice x l.length cx) hb (by go_simp)
  have z1_0 : w.heap.size < w1.heap.size := (by have := hb.size; first | omega | (simp at this; omega))
  replace hB := thru hB hq
  clear hb hq 
  go_wp2_with fail
  refine (near_any v n s x l cx _ (hx.later hB) hn (by omega) hcx hv hn' hs).mono ?_
  rw [HN.out]
  rintro e w2 ⟨x2, c2, rfl, ho, hb⟩
  have y2 := ho.bts
  have n2 := ho.none_cap
  clear ho
  have hq := thru (Below.refl _ w1) hb
  have g2_0 := later hq g1_0
  have g2_1 := later hq g1_1
  have g2_2 := later hq g1_2
  have g2_3 := later hq g1_3
  have z2_0 : w.heap.size < w2.heap.size := Nat.lt_of_lt_of_le z1_0 hq.size
  replace hB := thru hB hq
  clear hb hq g1_0 g1_1 g1_2 g1_3 z1_0
  go_wp2_with fail
  refine (bytes_all (a.toNat : Int) (b.toNat : Int) (d.toNat : Int) x2 r c2 _ y2 n2).mono ?_
  rw [HBY.out]
  rintro e w3 ⟨x3, c3, rfl, ho, hb⟩
  obtain ⟨g3, hx3⟩ := ho.some_of (by omega)
  subst hx3
  have cap3 := ho.le_cap
  have lo3 : w.heap.size < g3 := by have := ho.low g3 rfl; omega
  clear y2 n2
  have hq := thru (Below.refl _ w2) hb
  have g3_0 := later hq g2_0
  have g3_1 := later hq g2_1
  have g3_2 := later hq g2_2
  have g3_3 := later hq g2_3
  have z3_0 : w.heap.size < w3.heap.size := Nat.lt_of_lt_of_le z2_0 hq.size
  replace hB := thru hB hq
  clear hb hq g2_0 g2_1 g2_2 g2_3 z2_0
  have htm := HTM.out
  go_wp2_with fail
  clear htm
  refine (readf_at (some ⟨g3, 0, none⟩) (wl.take j) _ c3 _ HJ.out (ho.bts.take j) (by rw [HJ.out]; omega) ⟨by rw [HJ.out]; omega, cap3.2⟩).mono ?_
  rw [HRJ.out, HCJ.out]
  rintro e w4 ⟨rfl, hb⟩
  have hk0 := HK.out
  have hq := thru (Below.refl _ w3) hb
  have g4_0 := later hq g3_0
  have g4_1 := later hq g3_1
  have g4_2 := later hq g3_2
  have g4_3 := later hq g3_3
  have z4_0 : w.heap.size < w4.heap.size := Nat.lt_of_lt_of_le z3_0 hq.size
  replace hB := thru hB hq
  replace ho := ho.later hq
  clear hb hq g3_0 g3_1 g3_2 g3_3 z3_0
  have zg := (ho.low g3 rfl).2
  have fr := ho.free 1
  have q3 := ho.cell 1 (by omega)
  go_wp2_with fail
  have hoS := ho.set 1 vv
  refine (append_at (some ⟨g3, 0, none⟩) bl2 _ c3 _ (by rw [HBN2.out] <;> omega) (bts_pre HPRE2.out (hoS.later (al (Below.refl _ _) _)).bts) (by rw [HBN2.out]; omega)).mono ?_
  rintro e w5 ⟨x5, c5, rfl, ho5, hb⟩
  rw [HAPP.out] at ho5 ⊢
  have y5 := ho5.bts
  have cap5 := ho5.le_cap
  clear ho5 hoS
  replace hB := thru (al (hB.setCell (p := ⟨g3, 1, none⟩) (by simp <;> omega) _) _) hb
  clear hb ho fr q3
  go_wp2_with fail
  refine (readf_all x5 al5 c5 _ y5 (by omega) cap5).mono ?_
  rw [HRV.out]
  rintro e w6 ⟨⟨x6, c6, rfl, ho6⟩, hb⟩
  replace hB := thru hB hb
  clear hb
  go_wp2_with fail
  go_ret
  exact ⟨rfl, al hB _⟩

set_option maxHeartbeats 600000 in
theorem bad17_2t (v n s : Int) (x : Option Addr) (l : List UInt8) (cx : Nat) (wy vv : UInt8) (w : World) (hd : DbAt w) (hx : Bts w x l) (hn : x = none → cx = 0) (hcx : l.length ≤ cx ∧ cx ≤ 9223372036854775807) (hv : -9223372036854775808 ≤ v ∧ v ≤ 9223372036854775807) (hn' : -9223372036854775808 ≤ n ∧ n ≤ 9223372036854775807) (hs : -9223372036854775808 ≤ s ∧ s ≤ 9223372036854775807) (c0 : ¬ 300 < (l.length : Int)) (htn : wy.toNat % 3 = 2) (cb : vv.toNat ≠ (nearL l).length) :
    Calls Tryd.prog 10 #[.agg #[.int .i64 v, .int .i64 n, .int .i64 s, .slice x l.length cx], .int .u8 (wy.toNat : Int), .int .u8 (vv.toNat : Int)] w (YesOf w) := by
  have y0 : decide (300 < (l.length : Int)) = false := decide_eq_false c0
  have l3 : l.length ≤ 300 := by omega
  obtain ⟨a, ha⟩ : ∃ a, nearA v = a := ⟨_, rfl⟩
  obtain ⟨b, hb'⟩ : ∃ a, nearB n = a := ⟨_, rfl⟩
  obtain ⟨d, hd'⟩ : ∃ a, nearD s = a := ⟨_, rfl⟩
  obtain ⟨r, hr⟩ : ∃ a, nearL l = a := ⟨_, rfl⟩
  have hok := near_ok v n s l
  have hrl := near_len l
  rw [ha, hb', hd', hr] at hok
  rw [hr] at hrl
  obtain ⟨wl, hwl⟩ : ∃ z, wholeF a b d r = z := ⟨_, rfl⟩
  have hwn : wl.length = r.length + 8 := by rw [← hwl]; exact whole_length _ _ _ _
  have HN := Lib.hid (show NearOf (nearA v) (nearB n) (nearD s) (nearL l) = NearOf a b d r by rw [ha, hb', hd', hr])
  have HBY := Lib.hid (show bytesV (a.toNat : Int) (b.toNat : Int) (d.toNat : Int) r = some wl by rw [bytesV_ok hok, hwl])
  have HWN := Lib.hid hwn
  have hw72 : wl.length ≤ 72 := by omega
  have hw9 : 9 ≤ wl.length := by omega
  obtain ⟨tr, htr⟩ : ∃ t, Crc.trailer (Crc.sum (bodyF a b d r)) = t := ⟨_, rfl⟩
  obtain ⟨bl, hbl⟩ : ∃ t, bodyF a b d r = t := ⟨_, rfl⟩
  obtain ⟨k4, hk4⟩ : ∃ k, r.length + 4 = k := ⟨_, rfl⟩
  have hwt : wl = bl ++ tr := by rw [← hwl, ← hbl, ← htr]; rfl
  have hbn : bl.length = k4 := by rw [← hbl, ← hk4]; unfold bodyF; simp
  have hmid : wl = [a, b, d, UInt8.ofNat r.length] ++ (r ++ tr) := by rw [hwt, ← hbl]; unfold bodyF; simp
  have HW3 := Lib.hid (show wl.getD 3 0 = UInt8.ofNat r.length by rw [hmid]; rfl)
  obtain ⟨nn, hnn⟩ : ∃ k, wy.toNat % wl.length = k := ⟨_, rfl⟩
  have hwy := wy.toNat_lt
  have HTM := Lib.hid (show (wy.toNat : Int) % (wl.length : Int) = (nn : Int) by rw [← hnn]; omega)
  obtain ⟨j, hj⟩ : ∃ k, min nn 8 = k := ⟨_, rfl⟩
  have hj8 : j ≤ 8 := by omega
  have hmin : ∀ (ts : Array TypeId) (t : TypeId) (W : World), (Builtin.min_ ts t #[.int .i64 (nn : Int), .int .i64 8]).run Tryd.prog W = .ok (.int .i64 (j : Int)) W := fun ts t W => by
    have e : (j : Int) = if (8 : Int) < (nn : Int) then 8 else (nn : Int) := by split <;> omega
    rw [e]
    simp [Builtin.min_, Builtin.min2]
  have htl : (wl.take j).length = j := by simp; omega
  have HJ := Lib.hid htl
  have HRJ0 := Lib.hid (readV_few (l := wl.take j) (by omega))
  obtain ⟨kk, hkk⟩ : ∃ k, codeV (wl.take j) = k := ⟨_, rfl⟩
  have HCJ := Lib.hid hkk
  have HK := Lib.hid (show (kk == 0) = false by rw [← hkk]; exact codeV_zero _)
  have hw4 : (wl.length : Int) - 4 = (k4 : Int) := by omega
  have HRJ := HRJ0
  have he0 : (((UInt8.ofNat r.length).toNat : Int) == (r.length : Int)) = true := by rw [beq_iff_eq, UInt8.toNat_ofNat']; omega
  have hk := (vldF_iff _ _ _ _).1 hok
  rw [hr] at cb
  have ht3 : (wy.toNat : Int).tmod 3 = 2 := by rw [Int.tmod_eq_emod_of_nonneg (by omega)]; omega
  have ht3b : (wy.toNat : Int) % 3 = 2 := by omega
  have hbd : (((UInt8.ofNat r.length).toNat : Int) != (vv.toNat : Int)) = true := by rw [UInt8.toNat_ofNat']; simp; omega
  have hbd2 : ((r.length : Int) % 256 != (vv.toNat : Int)) = true := by simp; omega
  have HB := Lib.hid (show (((vv.toNat : Int) == (r.length : Int)) && vldF (a.toNat : Int) (b.toNat : Int) (d.toNat : Int) r.length) = false by rw [hok, Bool.and_true]; simp; omega)
  obtain ⟨bl2, hbl2⟩ : ∃ t, bl.set 3 vv = t := ⟨_, rfl⟩
  have hbe : bl2 = a :: b :: d :: vv :: r := by rw [← hbl2, ← hbl]; rfl
  have HBN2 := Lib.hid (show bl2.length = k4 by rw [← hbl2]; simp [hbn])
  have HPRE2 := Lib.hid (show wl.set 3 vv = bl2 ++ tr by rw [hwt, List.set_append_left _ _ (by omega), hbl2])
  obtain ⟨al5, hal⟩ : ∃ t, bl2 ++ Crc.trailer (Crc.sum bl2) = t := ⟨_, rfl⟩
  have HAPP := Lib.hid hal
  have hal5 : al5.length ≤ 400 := by rw [← hal, List.length_append, Crc.trailer_length, HBN2.out]; omega
  have HCV := Lib.hid (show codeV al5 = 170 by rw [← hal]; exact codeV_app _)
  have HRV := Lib.hid (show readV al5 = none by rw [← hal, readV_app, hbe]; exact parse_none HB.out)
  clear hal hbl2 hbe he0 hk cb htl htn
  clear htr hbl hwt hbn hk4 hmid hnn hj hkk hok hwl hwn ha hb' hd' hr c0
  have hB := Below.refl w.heap.size w
  go_enter Tryd.func10, Tryd.ntmps10
  go_wp2_with fail
  refine (awake_any _ (hd.later (al (Below.refl _ w) _))).mono ?_
  rintro e w1 ⟨rfl, hb⟩
  have hq := thru (al (Below.refl _ w) _) hb
  have g1_0 := later (a := ⟨w.heap.size, 0, none⟩) (v := .int .i64 v) hb (by go_simp)
  have g1_1 := later (a := ⟨w.heap.size, 1, none⟩) (v := .int .i64 n) hb (by go_simp)
  have g1_2 := later (a := ⟨w.heap.size, 2, none⟩) (v := .int .i64 s) hb (by go_simp)
  have g1_3 := later (a := ⟨w.heap.size, 3, none⟩) (v := .slice x l.length cx) hb (by go_simp)
  have z1_0 : w.heap.size < w1.heap.size := (by have := hb.size; first | omega | (simp at this; omega))
  replace hB := thru hB hq
  clear hb hq 
  go_wp2_with fail
  refine (near_any v n s x l cx _ (hx.later hB) hn (by omega) hcx hv hn' hs).mono ?_
  rw [HN.out]
  rintro e w2 ⟨x2, c2, rfl, ho, hb⟩
  have y2 := ho.bts
  have n2 := ho.none_cap
  clear ho
  have hq := thru (Below.refl _ w1) hb
  have g2_0 := later hq g1_0
  have g2_1 := later hq g1_1
  have g2_2 := later hq g1_2
  have g2_3 := later hq g1_3
  have z2_0 : w.heap.size < w2.heap.size := Nat.lt_of_lt_of_le z1_0 hq.size
  replace hB := thru hB hq
  clear hb hq g1_0 g1_1 g1_2 g1_3 z1_0
  go_wp2_with fail
  refine (bytes_all (a.toNat : Int) (b.toNat : Int) (d.toNat : Int) x2 r c2 _ y2 n2).mono ?_
  rw [HBY.out]
  rintro e w3 ⟨x3, c3, rfl, ho, hb⟩
  obtain ⟨g3, hx3⟩ := ho.some_of (by omega)
  subst hx3
  have cap3 := ho.le_cap
  have lo3 : w.heap.size < g3 := by have := ho.low g3 rfl; omega
  clear y2 n2
  have hq := thru (Below.refl _ w2) hb
  have g3_0 := later hq g2_0
  have g3_1 := later hq g2_1
  have g3_2 := later hq g2_2
  have g3_3 := later hq g2_3
  have z3_0 : w.heap.size < w3.heap.size := Nat.lt_of_lt_of_le z2_0 hq.size
  replace hB := thru hB hq
  clear hb hq g2_0 g2_1 g2_2 g2_3 z2_0
  have htm := HTM.out
  go_wp2_with fail
  clear htm
  refine (readf_at (some ⟨g3, 0, none⟩) (wl.take j) _ c3 _ HJ.out (ho.bts.take j) (by rw [HJ.out]; omega) ⟨by rw [HJ.out]; omega, cap3.2⟩).mono ?_
  rw [HRJ.out, HCJ.out]
  rintro e w4 ⟨rfl, hb⟩
  have hk0 := HK.out
  have hq := thru (Below.refl _ w3) hb
  have g4_0 := later hq g3_0
  have g4_1 := later hq g3_1
  have g4_2 := later hq g3_2
  have g4_3 := later hq g3_3
  have z4_0 : w.heap.size < w4.heap.size := Nat.lt_of_lt_of_le z3_0 hq.size
  replace hB := thru hB hq
  replace ho := ho.later hq
  clear hb hq g3_0 g3_1 g3_2 g3_3 z3_0
  have zg := (ho.low g3 rfl).2
  have fr := ho.free 3
  have q3 := ho.cell 3 (by omega)
  rw [HW3.out] at q3
  go_wp2_with fail
  have hoS := ho.set 3 vv
  refine (append_at (some ⟨g3, 0, none⟩) bl2 _ c3 _ (by rw [HBN2.out] <;> omega) (bts_pre HPRE2.out (hoS.later (al (Below.refl _ _) _)).bts) (by rw [HBN2.out]; omega)).mono ?_
  rintro e w5 ⟨x5, c5, rfl, ho5, hb⟩
  rw [HAPP.out] at ho5 ⊢
  have y5 := ho5.bts
  have cap5 := ho5.le_cap
  clear ho5 hoS
  replace hB := thru (al (hB.setCell (p := ⟨g3, 3, none⟩) (by simp <;> omega) _) _) hb
  clear hb ho fr q3
  go_wp2_with fail
  refine (readf_all x5 al5 c5 _ y5 (by omega) cap5).mono ?_
  rw [HRV.out, HCV.out]
  rintro e w6 ⟨rfl, hb⟩
  replace hB := thru hB hb
  clear hb
  go_wp2_with fail
  go_ret
  exact ⟨rfl, al hB _⟩

set_option maxHeartbeats 600000 in
theorem bad17_2f (v n s : Int) (x : Option Addr) (l : List UInt8) (cx : Nat) (wy vv : UInt8) (w : World) (hd : DbAt w) (hx : Bts w x l) (hn : x = none → cx = 0) (hcx : l.length ≤ cx ∧ cx ≤ 9223372036854775807) (hv : -9223372036854775808 ≤ v ∧ v ≤ 9223372036854775807) (hn' : -9223372036854775808 ≤ n ∧ n ≤ 9223372036854775807) (hs : -9223372036854775808 ≤ s ∧ s ≤ 9223372036854775807) (c0 : ¬ 300 < (l.length : Int)) (htn : wy.toNat % 3 = 2) (cb : ¬ (vv.toNat ≠ (nearL l).length)) :
    Calls Tryd.prog 10 #[.agg #[.int .i64 v, .int .i64 n, .int .i64 s, .slice x l.length cx], .int .u8 (wy.toNat : Int), .int .u8 (vv.toNat : Int)] w (YesOf w) := by
  have y0 : decide (300 < (l.length : Int)) = false := decide_eq_false c0
  have l3 : l.length ≤ 300 := by omega
  obtain ⟨a, ha⟩ : ∃ a, nearA v = a := ⟨_, rfl⟩
  obtain ⟨b, hb'⟩ : ∃ a, nearB n = a := ⟨_, rfl⟩
  obtain ⟨d, hd'⟩ : ∃ a, nearD s = a := ⟨_, rfl⟩
  obtain ⟨r, hr⟩ : ∃ a, nearL l = a := ⟨_, rfl⟩
  have hok := near_ok v n s l
  have hrl := near_len l
  rw [ha, hb', hd', hr] at hok
  rw [hr] at hrl
  obtain ⟨wl, hwl⟩ : ∃ z, wholeF a b d r = z := ⟨_, rfl⟩
  have hwn : wl.length = r.length + 8 := by rw [← hwl]; exact whole_length _ _ _ _
  have HN := Lib.hid (show NearOf (nearA v) (nearB n) (nearD s) (nearL l) = NearOf a b d r by rw [ha, hb', hd', hr])
  have HBY := Lib.hid (show bytesV (a.toNat : Int) (b.toNat : Int) (d.toNat : Int) r = some wl by rw [bytesV_ok hok, hwl])
  have HWN := Lib.hid hwn
  have hw72 : wl.length ≤ 72 := by omega
  have hw9 : 9 ≤ wl.length := by omega
  obtain ⟨tr, htr⟩ : ∃ t, Crc.trailer (Crc.sum (bodyF a b d r)) = t := ⟨_, rfl⟩
  obtain ⟨bl, hbl⟩ : ∃ t, bodyF a b d r = t := ⟨_, rfl⟩
  obtain ⟨k4, hk4⟩ : ∃ k, r.length + 4 = k := ⟨_, rfl⟩
  have hwt : wl = bl ++ tr := by rw [← hwl, ← hbl, ← htr]; rfl
  have hbn : bl.length = k4 := by rw [← hbl, ← hk4]; unfold bodyF; simp
  have hmid : wl = [a, b, d, UInt8.ofNat r.length] ++ (r ++ tr) := by rw [hwt, ← hbl]; unfold bodyF; simp
  have HW3 := Lib.hid (show wl.getD 3 0 = UInt8.ofNat r.length by rw [hmid]; rfl)
  obtain ⟨nn, hnn⟩ : ∃ k, wy.toNat % wl.length = k := ⟨_, rfl⟩
  have hwy := wy.toNat_lt
  have HTM := Lib.hid (show (wy.toNat : Int) % (wl.length : Int) = (nn : Int) by rw [← hnn]; omega)
  obtain ⟨j, hj⟩ : ∃ k, min nn 8 = k := ⟨_, rfl⟩
  have hj8 : j ≤ 8 := by omega
  have hmin : ∀ (ts : Array TypeId) (t : TypeId) (W : World), (Builtin.min_ ts t #[.int .i64 (nn : Int), .int .i64 8]).run Tryd.prog W = .ok (.int .i64 (j : Int)) W := fun ts t W => by
    have e : (j : Int) = if (8 : Int) < (nn : Int) then 8 else (nn : Int) := by split <;> omega
    rw [e]
    simp [Builtin.min_, Builtin.min2]
  have htl : (wl.take j).length = j := by simp; omega
  have HJ := Lib.hid htl
  have HRJ0 := Lib.hid (readV_few (l := wl.take j) (by omega))
  obtain ⟨kk, hkk⟩ : ∃ k, codeV (wl.take j) = k := ⟨_, rfl⟩
  have HCJ := Lib.hid hkk
  have HK := Lib.hid (show (kk == 0) = false by rw [← hkk]; exact codeV_zero _)
  have hw4 : (wl.length : Int) - 4 = (k4 : Int) := by omega
  have HRJ := HRJ0
  have he0 : (((UInt8.ofNat r.length).toNat : Int) == (r.length : Int)) = true := by rw [beq_iff_eq, UInt8.toNat_ofNat']; omega
  have hk := (vldF_iff _ _ _ _).1 hok
  rw [hr] at cb
  have ht3 : (wy.toNat : Int).tmod 3 = 2 := by rw [Int.tmod_eq_emod_of_nonneg (by omega)]; omega
  have ht3b : (wy.toNat : Int) % 3 = 2 := by omega
  have hbd : (((UInt8.ofNat r.length).toNat : Int) != (vv.toNat : Int)) = false := by rw [UInt8.toNat_ofNat']; simp; omega
  have hbd2 : ((r.length : Int) % 256 != (vv.toNat : Int)) = false := by simp; omega
  have HB := Lib.hid (show (((vv.toNat : Int) == (r.length : Int)) && vldF (a.toNat : Int) (b.toNat : Int) (d.toNat : Int) r.length) = true by rw [hok, Bool.and_true]; simp; omega)
  obtain ⟨bl2, hbl2⟩ : ∃ t, bl.set 3 vv = t := ⟨_, rfl⟩
  have hbe : bl2 = a :: b :: d :: vv :: r := by rw [← hbl2, ← hbl]; rfl
  have HBN2 := Lib.hid (show bl2.length = k4 by rw [← hbl2]; simp [hbn])
  have HPRE2 := Lib.hid (show wl.set 3 vv = bl2 ++ tr by rw [hwt, List.set_append_left _ _ (by omega), hbl2])
  obtain ⟨al5, hal⟩ : ∃ t, bl2 ++ Crc.trailer (Crc.sum bl2) = t := ⟨_, rfl⟩
  have HAPP := Lib.hid hal
  have hal5 : al5.length ≤ 400 := by rw [← hal, List.length_append, Crc.trailer_length, HBN2.out]; omega
  have HCV := Lib.hid (show codeV al5 = 170 by rw [← hal]; exact codeV_app _)
  have HRV := Lib.hid (show readV al5 = some (a, b, d, r) by rw [← hal, readV_app, hbe]; exact parse_some HB.out)
  clear hal hbl2 hbe he0 hk cb htl htn
  clear htr hbl hwt hbn hk4 hmid hnn hj hkk hok hwl hwn ha hb' hd' hr c0
  have hB := Below.refl w.heap.size w
  go_enter Tryd.func10, Tryd.ntmps10
  go_wp2_with fail
  refine (awake_any _ (hd.later (al (Below.refl _ w) _))).mono ?_
  rintro e w1 ⟨rfl, hb⟩
  have hq := thru (al (Below.refl _ w) _) hb
  have g1_0 := later (a := ⟨w.heap.size, 0, none⟩) (v := .int .i64 v) hb (by go_simp)
  have g1_1 := later (a := ⟨w.heap.size, 1, none⟩) (v := .int .i64 n) hb (by go_simp)
  have g1_2 := later (a := ⟨w.heap.size, 2, none⟩) (v := .int .i64 s) hb (by go_simp)
  have g1_3 := later (a := ⟨w.heap.size, 3, none⟩) (v := .slice x l.length cx) hb (by go_simp)
  have z1_0 : w.heap.size < w1.heap.size := (by have := hb.size; first | omega | (simp at this; omega))
  replace hB := thru hB hq
  clear hb hq 
  go_wp2_with fail
  refine (near_any v n s x l cx _ (hx.later hB) hn (by omega) hcx hv hn' hs).mono ?_
  rw [HN.out]
  rintro e w2 ⟨x2, c2, rfl, ho, hb⟩
  have y2 := ho.bts
  have n2 := ho.none_cap
  clear ho
  have hq := thru (Below.refl _ w1) hb
  have g2_0 := later hq g1_0
  have g2_1 := later hq g1_1
  have g2_2 := later hq g1_2
  have g2_3 := later hq g1_3
  have z2_0 : w.heap.size < w2.heap.size := Nat.lt_of_lt_of_le z1_0 hq.size
  replace hB := thru hB hq
  clear hb hq g1_0 g1_1 g1_2 g1_3 z1_0
  go_wp2_with fail
  refine (bytes_all (a.toNat : Int) (b.toNat : Int) (d.toNat : Int) x2 r c2 _ y2 n2).mono ?_
  rw [HBY.out]
  rintro e w3 ⟨x3, c3, rfl, ho, hb⟩
  obtain ⟨g3, hx3⟩ := ho.some_of (by omega)
  subst hx3
  have cap3 := ho.le_cap
  have lo3 : w.heap.size < g3 := by have := ho.low g3 rfl; omega
  clear y2 n2
  have hq := thru (Below.refl _ w2) hb
  have g3_0 := later hq g2_0
  have g3_1 := later hq g2_1
  have g3_2 := later hq g2_2
  have g3_3 := later hq g2_3
  have z3_0 : w.heap.size < w3.heap.size := Nat.lt_of_lt_of_le z2_0 hq.size
  replace hB := thru hB hq
  clear hb hq g2_0 g2_1 g2_2 g2_3 z2_0
  have htm := HTM.out
  go_wp2_with fail
  clear htm
  refine (readf_at (some ⟨g3, 0, none⟩) (wl.take j) _ c3 _ HJ.out (ho.bts.take j) (by rw [HJ.out]; omega) ⟨by rw [HJ.out]; omega, cap3.2⟩).mono ?_
  rw [HRJ.out, HCJ.out]
  rintro e w4 ⟨rfl, hb⟩
  have hk0 := HK.out
  have hq := thru (Below.refl _ w3) hb
  have g4_0 := later hq g3_0
  have g4_1 := later hq g3_1
  have g4_2 := later hq g3_2
  have g4_3 := later hq g3_3
  have z4_0 : w.heap.size < w4.heap.size := Nat.lt_of_lt_of_le z3_0 hq.size
  replace hB := thru hB hq
  replace ho := ho.later hq
  clear hb hq g3_0 g3_1 g3_2 g3_3 z3_0
  have zg := (ho.low g3 rfl).2
  have fr := ho.free 3
  have q3 := ho.cell 3 (by omega)
  rw [HW3.out] at q3
  go_wp2_with fail
  have hoS := ho.set 3 vv
  refine (append_at (some ⟨g3, 0, none⟩) bl2 _ c3 _ (by rw [HBN2.out] <;> omega) (bts_pre HPRE2.out (hoS.later (al (Below.refl _ _) _)).bts) (by rw [HBN2.out]; omega)).mono ?_
  rintro e w5 ⟨x5, c5, rfl, ho5, hb⟩
  rw [HAPP.out] at ho5 ⊢
  have y5 := ho5.bts
  have cap5 := ho5.le_cap
  clear ho5 hoS
  replace hB := thru (al (hB.setCell (p := ⟨g3, 3, none⟩) (by simp <;> omega) _) _) hb
  clear hb ho fr q3
  go_wp2_with fail
  refine (readf_all x5 al5 c5 _ y5 (by omega) cap5).mono ?_
  rw [HRV.out]
  rintro e w6 ⟨⟨x6, c6, rfl, ho6⟩, hb⟩
  replace hB := thru hB hb
  clear hb
  go_wp2_with fail
  go_ret
  exact ⟨rfl, al hB _⟩

set_option maxHeartbeats 1000000 in
theorem bad17_law (v n s : Int) (x : Option Addr) (l : List UInt8) (cx : Nat) (wy vv : UInt8) (w : World) (hd : DbAt w) (hx : Bts w x l) (hn : x = none → cx = 0) (hcx : l.length ≤ cx ∧ cx ≤ 9223372036854775807) (hv : -9223372036854775808 ≤ v ∧ v ≤ 9223372036854775807) (hn' : -9223372036854775808 ≤ n ∧ n ≤ 9223372036854775807) (hs : -9223372036854775808 ≤ s ∧ s ≤ 9223372036854775807) :
    Calls Tryd.prog 10 #[.agg #[.int .i64 v, .int .i64 n, .int .i64 s, .slice x l.length cx], .int .u8 (wy.toNat : Int), .int .u8 (vv.toNat : Int)] w (YesOf w) := by
  by_cases c0 : 300 < (l.length : Int)
  · have y0 : decide (300 < (l.length : Int)) = true := decide_eq_true c0
    have hB := Below.refl w.heap.size w
    go_enter Tryd.func10, Tryd.ntmps10
    go_wp2_with fail
    refine (awake_any _ (hd.later (al (Below.refl _ w) _))).mono ?_
    rintro e w1 ⟨rfl, hb⟩
    have hq := thru (al (Below.refl _ w) _) hb
    have g1_0 := later (a := ⟨w.heap.size, 0, none⟩) (v := .int .i64 v) hb (by go_simp)
    have g1_1 := later (a := ⟨w.heap.size, 1, none⟩) (v := .int .i64 n) hb (by go_simp)
    have g1_2 := later (a := ⟨w.heap.size, 2, none⟩) (v := .int .i64 s) hb (by go_simp)
    have g1_3 := later (a := ⟨w.heap.size, 3, none⟩) (v := .slice x l.length cx) hb (by go_simp)
    have z1_0 : w.heap.size < w1.heap.size := (by have := hb.size; first | omega | (simp at this; omega))
    replace hB := thru hB hq
    clear hb hq 
    go_wp2_with fail
    go_ret
    exact ⟨rfl, hB⟩
  · rcases (show wy.toNat % 3 = 0 ∨ wy.toNat % 3 = 1 ∨ wy.toNat % 3 = 2 by omega) with htn | htn | htn
    · by_cases cb : 15 < vv.toNat
      · exact bad17_0t v n s x l cx wy vv w hd hx hn hcx hv hn' hs c0 htn cb
      · exact bad17_0f v n s x l cx wy vv w hd hx hn hcx hv hn' hs c0 htn cb
    · by_cases cb : 1 < vv.toNat
      · exact bad17_1t v n s x l cx wy vv w hd hx hn hcx hv hn' hs c0 htn cb
      · exact bad17_1f v n s x l cx wy vv w hd hx hn hcx hv hn' hs c0 htn cb
    · by_cases cb : vv.toNat ≠ (nearL l).length
      · exact bad17_2t v n s x l cx wy vv w hd hx hn hcx hv hn' hs c0 htn cb
      · exact bad17_2f v n s x l cx wy vv w hd hx hn hcx hv hn' hs c0 htn cb

end Go.Proofs.YtjnjjnkanbnliaaDoor
