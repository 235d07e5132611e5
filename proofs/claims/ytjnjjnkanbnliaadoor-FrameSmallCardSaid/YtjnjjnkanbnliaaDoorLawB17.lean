/- WALKS of the laws of the frame layer: FrameBurst. -/
import Derived.Test.YtjnjjnkanbnliaaDoorLawA17
namespace Go.Proofs.YtjnjjnkanbnliaaDoor
open Go.RowKit

theorem splitC_whole (a b d : UInt8) (l : List UInt8) : splitC (wholeF a b d l) = some (bodyF a b d l) := splitC_of _
theorem parse_body {a b d : UInt8} {l : List UInt8} (hv : vldF (a.toNat : Int) (b.toNat : Int) (d.toNat : Int) l.length = true) : parseM (bodyF a b d l) = some (a, b, d, l) := by
  have h64 := ((vldF_iff _ _ _ _).1 hv).2.2.2.2
  show (if ((((UInt8.ofNat l.length).toNat : Int) == (l.length : Int)) && vldF (a.toNat : Int) (b.toNat : Int) (d.toNat : Int) l.length) = true then some (a, b, d, l) else none) = _
  have e : (((UInt8.ofNat l.length).toNat : Int) == (l.length : Int)) = true := by rw [beq_iff_eq, UInt8.toNat_ofNat']; omega
  rw [e, hv, Bool.and_self, if_pos rfl]
theorem readV_whole {a b d : UInt8} {l : List UInt8} (hv : vldF (a.toNat : Int) (b.toNat : Int) (d.toNat : Int) l.length = true) : readV (wholeF a b d l) = some (a, b, d, l) := by
  unfold readV; rw [splitC_whole, Option.bind_some, parse_body hv]
theorem parse_inv {m : List UInt8} {a b d : UInt8} {r : List UInt8} (h : parseM m = some (a, b, d, r)) : m = bodyF a b d r ∧ vldF (a.toNat : Int) (b.toNat : Int) (d.toNat : Int) r.length = true := by
  match m, h with
  | [], h => cases h
  | [_], h => cases h
  | [_, _], h => cases h
  | [_, _, _], h => cases h
  | a' :: b' :: d' :: e' :: r', h =>
    have h' : (if (((e'.toNat : Int) == (r'.length : Int)) && vldF (a'.toNat : Int) (b'.toNat : Int) (d'.toNat : Int) r'.length) = true then some (a', b', d', r') else none) = some (a, b, d, r) := h
    split at h'
    · rename_i hc
      cases h'
      simp only [Bool.and_eq_true, beq_iff_eq] at hc
      refine ⟨?_, hc.2⟩
      have : e' = UInt8.ofNat r.length := by
        apply UInt8.toNat_inj.1
        have h64 := ((vldF_iff _ _ _ _).1 hc.2).2.2.2.2
        rw [UInt8.toNat_ofNat']; omega
      rw [this]; rfl
    · cases h'
theorem readV_inv {l : List UInt8} {a b d : UInt8} {r : List UInt8} (h : readV l = some (a, b, d, r)) : l = wholeF a b d r ∧ vldF (a.toNat : Int) (b.toNat : Int) (d.toNat : Int) r.length = true := by
  unfold readV at h
  cases hs : splitC l with
  | none => rw [hs] at h; cases h
  | some m =>
    rw [hs, Option.bind_some] at h
    obtain ⟨h1, h2⟩ := parse_inv h
    exact ⟨by rw [splitC_some hs, h1]; rfl, h2⟩
theorem splitC_bu {m : W32} {c : Int} {a b d : UInt8} {l : List UInt8} (h : Crc.burst m c (wholeF a b d l) ≠ wholeF a b d l) : splitC (Crc.burst m c (wholeF a b d l)) = none := by
  cases hs : splitC (Crc.burst m c (wholeF a b d l)) with
  | none => rfl
  | some k =>
    have h1 := splitC_some hs
    have h2 := Crc.sum_bu m c _ h
    rw [h1, Crc.sum_whole] at h2
    exact absurd (by unfold wholeF; rw [Crc.sum_whole]) h2
theorem readV_bu {m : W32} {c : Int} {a b d : UInt8} {l : List UInt8} (h : Crc.burst m c (wholeF a b d l) ≠ wholeF a b d l) : readV (Crc.burst m c (wholeF a b d l)) = none ∧ codeV (Crc.burst m c (wholeF a b d l)) = 40 := by
  have := splitC_bu h
  unfold readV codeV
  rw [this]; exact ⟨rfl, rfl⟩
theorem bytesV_ok {a b d : UInt8} {l : List UInt8} (hv : vldF (a.toNat : Int) (b.toNat : Int) (d.toNat : Int) l.length = true) : bytesV (a.toNat : Int) (b.toNat : Int) (d.toNat : Int) l = some (wholeF a b d l) := by
  have e : ∀ u : UInt8, u8i (u.toNat : Int) = u := fun u => by unfold u8i; rw [Int.toNat_natCast]; simp
  unfold bytesV; rw [if_pos hv, e, e, e]

set_option maxHeartbeats 4000000 in
theorem burst17_law (v n s : Int) (x : Option Addr) (l : List UInt8) (cx : Nat) (at_ : Int) (m : W32) (w : World) (hd : DbAt w) (hx : Bts w x l) (hn : x = none → cx = 0) (hcx : l.length ≤ cx ∧ cx ≤ 9223372036854775807) (hv : -9223372036854775808 ≤ v ∧ v ≤ 9223372036854775807) (hn' : -9223372036854775808 ≤ n ∧ n ≤ 9223372036854775807) (hs : -9223372036854775808 ≤ s ∧ s ≤ 9223372036854775807) (hat : -9223372036854775808 ≤ at_ ∧ at_ ≤ 9223372036854775807) :
    Calls Tryd.prog 6 #[.agg #[.int .i64 v, .int .i64 n, .int .i64 s, .slice x l.length cx], .int .i64 at_, .int .u32 (n32 m)] w (YesOf w) := by
  by_cases c0 : 300 < (l.length : Int)
  · have y0 : decide (300 < (l.length : Int)) = true := decide_eq_true c0
    have hB := Below.refl w.heap.size w
    go_enter Tryd.func6, Tryd.ntmps6
    go_wp2_with fail
    refine (awake_any _ (hd.later (al (Below.refl _ w) _))).mono ?_
    rintro e w1 ⟨rfl, hb⟩
    have hq := thru (al (Below.refl _ w) _) hb
    have g1_0 := later (a := ⟨w.heap.size, 0, none⟩) (v := .int .i64 v) hb (by go_simp)
    have g1_1 := later (a := ⟨w.heap.size, 1, none⟩) (v := .int .i64 n) hb (by go_simp)
    have g1_2 := later (a := ⟨w.heap.size, 2, none⟩) (v := .int .i64 s) hb (by go_simp)
    have g1_3 := later (a := ⟨w.heap.size, 3, none⟩) (v := .slice x l.length cx) hb (by go_simp)
    have z1_0 : w.heap.size < w1.heap.size := (by have := hb.size; first | omega | (simp at this; omega))
    replace hB := thru hB hq
    clear hb hq 
    go_wp2_with fail
    go_ret
    exact ⟨rfl, hB⟩
  · have y0 : decide (300 < (l.length : Int)) = false := decide_eq_false c0
    have l3 : l.length ≤ 300 := by omega
    obtain ⟨a, ha⟩ : ∃ a, nearA v = a := ⟨_, rfl⟩
    obtain ⟨b, hb'⟩ : ∃ a, nearB n = a := ⟨_, rfl⟩
    obtain ⟨d, hd'⟩ : ∃ a, nearD s = a := ⟨_, rfl⟩
    obtain ⟨r, hr⟩ : ∃ a, nearL l = a := ⟨_, rfl⟩
    have hok := near_ok v n s l
    have hrl := near_len l
    rw [ha, hb', hd', hr] at hok
    rw [hr] at hrl
    obtain ⟨wl, hwl⟩ : ∃ z, wholeF a b d r = z := ⟨_, rfl⟩
    have hwn : wl.length = r.length + 8 := by rw [← hwl]; exact whole_length _ _ _ _
    have HN := Lib.hid (show NearOf (nearA v) (nearB n) (nearD s) (nearL l) = NearOf a b d r by rw [ha, hb', hd', hr])
    have HBY := Lib.hid (show bytesV (a.toNat : Int) (b.toNat : Int) (d.toNat : Int) r = some wl by rw [bytesV_ok hok, hwl])
    have HWN := Lib.hid hwn
    have hw72 : wl.length ≤ 72 := by omega
    have hw9 : 9 ≤ wl.length := by omega
    obtain ⟨p, hp⟩ : ∃ p, at_ % ((8 * wl.length + 40 : Nat) : Int) = p := ⟨_, rfl⟩
    have hp0 : 0 ≤ p := by rw [← hp]; exact Int.emod_nonneg _ (by omega)
    have hp1 : p < ((8 * wl.length + 40 : Nat) : Int) := by rw [← hp]; exact Int.emod_lt_of_pos _ (by omega)
    have NA := Lib.hid (show 8 * (wl.length : Int) + 40 = ((8 * wl.length + 40 : Nat) : Int) by push_cast; rfl)
    have HP := Lib.hid hp
    obtain ⟨cl, hcl⟩ : ∃ z, Crc.burst m (p - 40) wl = z := ⟨_, rfl⟩
    have hcn : cl.length = wl.length := by rw [← hcl]; exact Crc.burst_length _ _ _
    have HC := Lib.hid hcl
    have HCB := Lib.hid (show Crc.burst m (p - 40) cl = wl by rw [← hcl]; exact Crc.burst_back _ _ _)
    have HSW := Lib.hid (show (wl == wl) = true by simp)
    have HSF := Lib.hid (show sameF (a.toNat : Int) (b.toNat : Int) (d.toNat : Int) r (a.toNat : Int) (b.toNat : Int) (d.toNat : Int) r = true by unfold sameF; simp)
    have HLE := Lib.hid (show ((cl.length : Int) != (wl.length : Int)) = false by simp; omega)
    have hc80 : cl.length ≤ 80 := by omega
    by_cases hsame : cl = wl
    · have HRV := Lib.hid (show readV cl = some (a, b, d, r) by rw [hsame, ← hwl]; exact readV_whole hok)
      have HWC := Lib.hid (show (wl == cl) = true by simp [hsame])
      clear hcl hcn hp ha hb' hd' hr hwl hwn hok hsame c0
      have hB := Below.refl w.heap.size w
      go_enter Tryd.func6, Tryd.ntmps6
      go_wp2_with fail
      refine (awake_any _ (hd.later (al (Below.refl _ w) _))).mono ?_
      rintro e w1 ⟨rfl, hb⟩
      have hq := thru (al (Below.refl _ w) _) hb
      have g1_0 := later (a := ⟨w.heap.size, 0, none⟩) (v := .int .i64 v) hb (by go_simp)
      have g1_1 := later (a := ⟨w.heap.size, 1, none⟩) (v := .int .i64 n) hb (by go_simp)
      have g1_2 := later (a := ⟨w.heap.size, 2, none⟩) (v := .int .i64 s) hb (by go_simp)
      have g1_3 := later (a := ⟨w.heap.size, 3, none⟩) (v := .slice x l.length cx) hb (by go_simp)
      have z1_0 : w.heap.size < w1.heap.size := (by have := hb.size; first | omega | (simp at this; omega))
      replace hB := thru hB hq
      clear hb hq 
      go_wp2_with fail
      refine (near_any v n s x l cx _ (hx.later hB) hn (by omega) hcx hv hn' hs).mono ?_
      rw [HN.out]
      rintro e w2 ⟨x2, c2, rfl, ho, hb⟩
      have y2 := ho.bts
      have n2 := ho.none_cap
      clear ho
      have hq := thru (Below.refl _ w1) hb
      have g2_0 := later hq g1_0
      have g2_1 := later hq g1_1
      have g2_2 := later hq g1_2
      have g2_3 := later hq g1_3
      have z2_0 : w.heap.size < w2.heap.size := Nat.lt_of_lt_of_le z1_0 hq.size
      replace hB := thru hB hq
      clear hb hq g1_0 g1_1 g1_2 g1_3 z1_0
      go_wp2_with fail
      refine (bytes_all (a.toNat : Int) (b.toNat : Int) (d.toNat : Int) x2 r c2 _ y2 n2).mono ?_
      rw [HBY.out]
      rintro e w3 ⟨x3, c3, rfl, ho, hb⟩
      have y3 := ho.bts
      have cap3 := ho.le_cap
      have n3 := ho.none_cap
      clear ho y2 n2
      have hq := thru (Below.refl _ w2) hb
      have g3_0 := later hq g2_0
      have g3_1 := later hq g2_1
      have g3_2 := later hq g2_2
      have g3_3 := later hq g2_3
      have z3_0 : w.heap.size < w3.heap.size := Nat.lt_of_lt_of_le z2_0 hq.size
      replace hB := thru hB hq
      clear hb hq g2_0 g2_1 g2_2 g2_3 z2_0
      go_wp2_with fail
      rw [NA.out]
      refine (toB (pick_any at_ (8 * wl.length + 40) _ (by omega) (by omega) hat)).mono ?_
      rintro e w4 ⟨rfl, hb⟩
      rw [HP.out]
      have hq := thru (Below.refl _ w3) hb
      have g4_0 := later hq g3_0
      have g4_1 := later hq g3_1
      have g4_2 := later hq g3_2
      have g4_3 := later hq g3_3
      have z4_0 : w.heap.size < w4.heap.size := Nat.lt_of_lt_of_le z3_0 hq.size
      replace hB := thru hB hq
      replace y3 := y3.later hq
      clear hb hq g3_0 g3_1 g3_2 g3_3 z3_0
      go_wp2_with fail
      refine (burst_any x3 wl c3 (p - 40) m _ y3 n3 (by omega) (by omega) (hd.later hB)).mono ?_
      rintro e w5 ⟨x5, c5, rfl, ho, hb⟩
      rw [HC.out] at ho ⊢
      have y5 := ho.bts
      have n5 := ho.none_cap
      have cap5 := ho.le_cap
      clear ho
      have hq := thru (Below.refl _ w4) hb
      have g5_0 := later hq g4_0
      have g5_1 := later hq g4_1
      have g5_2 := later hq g4_2
      have g5_3 := later hq g4_3
      have z5_0 : w.heap.size < w5.heap.size := Nat.lt_of_lt_of_le z4_0 hq.size
      replace hB := thru hB hq
      replace y3 := y3.later hq
      clear hb hq g4_0 g4_1 g4_2 g4_3 z4_0
      go_wp2_with fail
      refine (burst_any x5 cl c5 (p - 40) m _ y5 n5 (by omega) (by omega) (hd.later hB)).mono ?_
      rintro e w6 ⟨x6, c6, rfl, ho, hb⟩
      rw [HCB.out] at ho ⊢
      have y6 := ho.bts
      clear ho
      have hq := thru (Below.refl _ w5) hb
      have g6_0 := later hq g5_0
      have g6_1 := later hq g5_1
      have g6_2 := later hq g5_2
      have g6_3 := later hq g5_3
      have z6_0 : w.heap.size < w6.heap.size := Nat.lt_of_lt_of_le z5_0 hq.size
      replace hB := thru hB hq
      replace y3 := y3.later hq
      replace y5 := y5.later hq
      clear hb hq g5_0 g5_1 g5_2 g5_3 z5_0
      go_wp2_with fail
      refine (sameb_any x6 wl c6 x3 wl c3 _ y6 y3 (by omega) (by omega)).mono ?_
      rintro e w7 ⟨rfl, hb⟩
      rw [HSW.out]
      clear y6
      have hle := HLE.out
      have hq := thru (Below.refl _ w6) hb
      have g7_0 := later hq g6_0
      have g7_1 := later hq g6_1
      have g7_2 := later hq g6_2
      have g7_3 := later hq g6_3
      have z7_0 : w.heap.size < w7.heap.size := Nat.lt_of_lt_of_le z6_0 hq.size
      replace hB := thru hB hq
      replace y3 := y3.later hq
      replace y5 := y5.later hq
      clear hb hq g6_0 g6_1 g6_2 g6_3 z6_0
      go_wp2_with fail
      clear hle
      refine (readf_all x5 cl c5 _ y5 (by omega) cap5).mono ?_
      rw [HRV.out]
      rintro e w8 ⟨⟨x8, c8, rfl, ho⟩, hb⟩
      have y8 := ho.bts
      clear ho
      have hq := thru (Below.refl _ w7) hb
      have g8_0 := later hq g7_0
      have g8_1 := later hq g7_1
      have g8_2 := later hq g7_2
      have g8_3 := later hq g7_3
      have z8_0 : w.heap.size < w8.heap.size := Nat.lt_of_lt_of_le z7_0 hq.size
      replace hB := thru hB hq
      replace y3 := y3.later hq
      replace y5 := y5.later hq
      clear hb hq g7_0 g7_1 g7_2 g7_3 z7_0
      go_wp2_with fail
      refine (sameb_any x3 wl c3 x5 cl c5 _ (y3.later (al (Below.refl _ _) _)) (y5.later (al (Below.refl _ _) _)) (by omega) (by omega)).mono ?_
      rintro e w9 ⟨rfl, hb⟩
      rw [HWC.out]
      have hq := thru (al (Below.refl _ w8) _) hb
      have g9_0 := later hq g8_0
      have g9_1 := later hq g8_1
      have g9_2 := later hq g8_2
      have g9_3 := later hq g8_3
      have g9_4 := later (a := ⟨w8.heap.size, 0, none⟩) (v := .int .i64 (a.toNat : Int)) hb (by go_simp)
      have g9_5 := later (a := ⟨w8.heap.size, 1, none⟩) (v := .int .i64 (b.toNat : Int)) hb (by go_simp)
      have g9_6 := later (a := ⟨w8.heap.size, 2, none⟩) (v := .int .i64 (d.toNat : Int)) hb (by go_simp)
      have g9_7 := later (a := ⟨w8.heap.size, 3, none⟩) (v := .slice x8 r.length c8) hb (by go_simp)
      have z9_0 : w.heap.size < w9.heap.size := Nat.lt_of_lt_of_le z8_0 hq.size
      have z9_1 : w8.heap.size < w9.heap.size := (by have := hb.size; first | omega | (simp at this; omega))
      replace hB := thru hB hq
      replace y3 := y3.later hq
      replace y5 := y5.later hq
      replace y8 := y8.later hq
      clear hb hq g8_0 g8_1 g8_2 g8_3 z8_0
      go_wp2_with fail
      refine wp_region_sched (fun W => W.cell? ⟨w.heap.size, 0, none⟩ = some (.int .i64 v) ∧ W.cell? ⟨w.heap.size, 1, none⟩ = some (.int .i64 n) ∧ W.cell? ⟨w.heap.size, 2, none⟩ = some (.int .i64 s) ∧ W.cell? ⟨w.heap.size, 3, none⟩ = some (.slice x l.length cx) ∧ W.cell? ⟨w8.heap.size, 0, none⟩ = some (.int .i64 (a.toNat : Int)) ∧ W.cell? ⟨w8.heap.size, 1, none⟩ = some (.int .i64 (b.toNat : Int)) ∧ W.cell? ⟨w8.heap.size, 2, none⟩ = some (.int .i64 (d.toNat : Int)) ∧ W.cell? ⟨w8.heap.size, 3, none⟩ = some (.slice x8 r.length c8) ∧ w.heap.size < W.heap.size ∧ w8.heap.size < W.heap.size ∧ Bts W x3 wl ∧ Bts W x5 cl ∧ Bts W x8 r ∧ Below w.heap.size w W) (.one [0, 1, 2, 3, 4] 5 (.one [] 6 (.done [7, 8]))) (by kernel_rfl) (by kernel_rfl) (fun _ _ _ _ _ h => h) ⟨(by go_simp), (by go_simp), (by go_simp), (by go_simp), (by go_simp), (by go_simp), (by go_simp), (by go_simp), (by simp <;> omega), (by simp <;> omega), y3, y5, y8, hB.drew⟩ ?_
      clear hB g9_0 g9_1 g9_2 g9_3 g9_4 g9_5 g9_6 g9_7 z9_0 z9_1 y3 y5 y8
      rintro Q ⟨g10_0, g10_1, g10_2, g10_3, g10_4, g10_5, g10_6, g10_7, z10_0, z10_1, y3, y5, y8, hB⟩
      rw [wpSched]
      simp only [pick, List.map_cons, List.map_nil, Array.getD_eq_getD_getElem?, List.getElem?_toArray, List.getElem?_cons_succ, List.getElem?_cons_zero, Option.getD_some]
      have kg10_4 := plusW_cell g10_4
      have kg10_5 := plusW_cell g10_5
      have kg10_6 := plusW_cell g10_6
      have kg10_7 := plusW_cell g10_7
      have kg10_0 := plusW_cell g10_0
      have kg10_1 := plusW_cell g10_1
      have kg10_2 := plusW_cell g10_2
      have kg10_3 := plusW_cell g10_3
      repeat (first | go_big_quiet_step (fail) | quiet_step (fail))
      refine wpQuiet_nil ?_
      clear kg10_4 kg10_5 kg10_6 kg10_7 kg10_0 kg10_1 kg10_2 kg10_3
      refine heavy_want (by rfl) (fun K' hK' => ?_)
      go_simp
      refine (near_any v n s x l cx _ (hx.later hB) hn (by omega) hcx hv hn' hs).mono ?_
      rw [HN.out]
      rintro e Q1 ⟨xq, cq, rfl, ho, hb⟩
      refine hK' _ _ hb ?_
      clear hK' K'
      have yq := ho.bts
      clear ho
      have hq := thru (Below.refl _ Q) hb
      clear hb
      have g11_0 := later hq g10_0
      have g11_1 := later hq g10_1
      have g11_2 := later hq g10_2
      have g11_3 := later hq g10_3
      have g11_4 := later hq g10_4
      have g11_5 := later hq g10_5
      have g11_6 := later hq g10_6
      have g11_7 := later hq g10_7
      have z11_0 : w.heap.size < Q1.heap.size := Nat.lt_of_lt_of_le z10_0 hq.size
      have z11_1 : w8.heap.size < Q1.heap.size := Nat.lt_of_lt_of_le z10_1 hq.size
      replace hB := thru hB hq
      replace y3 := y3.later hq
      replace y5 := y5.later hq
      replace y8 := y8.later hq
      clear hq g10_0 g10_1 g10_2 g10_3 g10_4 g10_5 g10_6 g10_7 z10_0 z10_1
      try simp only [Act.put, List.setIfInBounds_toArray, List.set_cons_zero, List.set_cons_succ]
      rw [wpSched]
      simp only [pick, List.map_nil, Array.getD_eq_getD_getElem?, List.getElem?_toArray, List.getElem?_cons_succ, List.getElem?_cons_zero, Option.getD_some]
      refine wpQuiet_nil ?_
      refine heavy_want (by rfl) (fun K' hK' => ?_)
      go_simp
      refine (same17_any _ _ _ x8 r c8 _ _ _ xq r cq _ y8 yq).mono ?_
      rintro e Q2 ⟨rfl, hb⟩
      refine hK' _ _ hb ?_
      clear hK' K'
      rw [HSF.out]
      have hq := thru (Below.refl _ Q1) hb
      clear hb
      have g12_0 := later hq g11_0
      have g12_1 := later hq g11_1
      have g12_2 := later hq g11_2
      have g12_3 := later hq g11_3
      have g12_4 := later hq g11_4
      have g12_5 := later hq g11_5
      have g12_6 := later hq g11_6
      have g12_7 := later hq g11_7
      have z12_0 : w.heap.size < Q2.heap.size := Nat.lt_of_lt_of_le z11_0 hq.size
      have z12_1 : w8.heap.size < Q2.heap.size := Nat.lt_of_lt_of_le z11_1 hq.size
      replace hB := thru hB hq
      replace y3 := y3.later hq
      replace y5 := y5.later hq
      replace y8 := y8.later hq
      replace yq := yq.later hq
      clear hq g11_0 g11_1 g11_2 g11_3 g11_4 g11_5 g11_6 g11_7 z11_0 z11_1
      try simp only [Act.put, List.setIfInBounds_toArray, List.set_cons_zero, List.set_cons_succ]
      rw [wpSched]
      simp only [pick, List.map_cons, List.map_nil, Array.getD_eq_getD_getElem?, List.getElem?_toArray, List.getElem?_cons_succ, List.getElem?_cons_zero, Option.getD_some]
      repeat (first | go_big_quiet_step (fail) | quiet_step (fail))
      refine wpQuiet_nil ?_
      go_wp2_with fail
      go_ret
      exact ⟨rfl, hB⟩
    · have hbu : Crc.burst m (p - 40) (wholeF a b d r) ≠ wholeF a b d r := by rw [hwl, hcl]; exact hsame
      have hrv := readV_bu hbu
      rw [hwl, hcl] at hrv
      have HRV := Lib.hid hrv.1
      have HCV := Lib.hid hrv.2
      have HWC := Lib.hid (show (wl == cl) = false by simp; exact fun h => hsame h.symm)
      clear hcl hcn hp ha hb' hd' hr hwl hwn hok hsame hrv hbu c0
      have hB := Below.refl w.heap.size w
      go_enter Tryd.func6, Tryd.ntmps6
      go_wp2_with fail
      refine (awake_any _ (hd.later (al (Below.refl _ w) _))).mono ?_
      rintro e w1 ⟨rfl, hb⟩
      have hq := thru (al (Below.refl _ w) _) hb
      have g1_0 := later (a := ⟨w.heap.size, 0, none⟩) (v := .int .i64 v) hb (by go_simp)
      have g1_1 := later (a := ⟨w.heap.size, 1, none⟩) (v := .int .i64 n) hb (by go_simp)
      have g1_2 := later (a := ⟨w.heap.size, 2, none⟩) (v := .int .i64 s) hb (by go_simp)
      have g1_3 := later (a := ⟨w.heap.size, 3, none⟩) (v := .slice x l.length cx) hb (by go_simp)
      have z1_0 : w.heap.size < w1.heap.size := (by have := hb.size; first | omega | (simp at this; omega))
      replace hB := thru hB hq
      clear hb hq 
      go_wp2_with fail
      refine (near_any v n s x l cx _ (hx.later hB) hn (by omega) hcx hv hn' hs).mono ?_
      rw [HN.out]
      rintro e w2 ⟨x2, c2, rfl, ho, hb⟩
      have y2 := ho.bts
      have n2 := ho.none_cap
      clear ho
      have hq := thru (Below.refl _ w1) hb
      have g2_0 := later hq g1_0
      have g2_1 := later hq g1_1
      have g2_2 := later hq g1_2
      have g2_3 := later hq g1_3
      have z2_0 : w.heap.size < w2.heap.size := Nat.lt_of_lt_of_le z1_0 hq.size
      replace hB := thru hB hq
      clear hb hq g1_0 g1_1 g1_2 g1_3 z1_0
      go_wp2_with fail
      refine (bytes_all (a.toNat : Int) (b.toNat : Int) (d.toNat : Int) x2 r c2 _ y2 n2).mono ?_
      rw [HBY.out]
      rintro e w3 ⟨x3, c3, rfl, ho, hb⟩
      have y3 := ho.bts
      have cap3 := ho.le_cap
      have n3 := ho.none_cap
      clear ho y2 n2
      have hq := thru (Below.refl _ w2) hb
      have g3_0 := later hq g2_0
      have g3_1 := later hq g2_1
      have g3_2 := later hq g2_2
      have g3_3 := later hq g2_3
      have z3_0 : w.heap.size < w3.heap.size := Nat.lt_of_lt_of_le z2_0 hq.size
      replace hB := thru hB hq
      clear hb hq g2_0 g2_1 g2_2 g2_3 z2_0
      go_wp2_with fail
      rw [NA.out]
      refine (toB (pick_any at_ (8 * wl.length + 40) _ (by omega) (by omega) hat)).mono ?_
      rintro e w4 ⟨rfl, hb⟩
      rw [HP.out]
      have hq := thru (Below.refl _ w3) hb
      have g4_0 := later hq g3_0
      have g4_1 := later hq g3_1
      have g4_2 := later hq g3_2
      have g4_3 := later hq g3_3
      have z4_0 : w.heap.size < w4.heap.size := Nat.lt_of_lt_of_le z3_0 hq.size
      replace hB := thru hB hq
      replace y3 := y3.later hq
      clear hb hq g3_0 g3_1 g3_2 g3_3 z3_0
      go_wp2_with fail
      refine (burst_any x3 wl c3 (p - 40) m _ y3 n3 (by omega) (by omega) (hd.later hB)).mono ?_
      rintro e w5 ⟨x5, c5, rfl, ho, hb⟩
      rw [HC.out] at ho ⊢
      have y5 := ho.bts
      have n5 := ho.none_cap
      have cap5 := ho.le_cap
      clear ho
      have hq := thru (Below.refl _ w4) hb
      have g5_0 := later hq g4_0
      have g5_1 := later hq g4_1
      have g5_2 := later hq g4_2
      have g5_3 := later hq g4_3
      have z5_0 : w.heap.size < w5.heap.size := Nat.lt_of_lt_of_le z4_0 hq.size
      replace hB := thru hB hq
      replace y3 := y3.later hq
      clear hb hq g4_0 g4_1 g4_2 g4_3 z4_0
      go_wp2_with fail
      refine (burst_any x5 cl c5 (p - 40) m _ y5 n5 (by omega) (by omega) (hd.later hB)).mono ?_
      rintro e w6 ⟨x6, c6, rfl, ho, hb⟩
      rw [HCB.out] at ho ⊢
      have y6 := ho.bts
      clear ho
      have hq := thru (Below.refl _ w5) hb
      have g6_0 := later hq g5_0
      have g6_1 := later hq g5_1
      have g6_2 := later hq g5_2
      have g6_3 := later hq g5_3
      have z6_0 : w.heap.size < w6.heap.size := Nat.lt_of_lt_of_le z5_0 hq.size
      replace hB := thru hB hq
      replace y3 := y3.later hq
      replace y5 := y5.later hq
      clear hb hq g5_0 g5_1 g5_2 g5_3 z5_0
      go_wp2_with fail
      refine (sameb_any x6 wl c6 x3 wl c3 _ y6 y3 (by omega) (by omega)).mono ?_
      rintro e w7 ⟨rfl, hb⟩
      rw [HSW.out]
      clear y6
      have hle := HLE.out
      have hq := thru (Below.refl _ w6) hb
      have g7_0 := later hq g6_0
      have g7_1 := later hq g6_1
      have g7_2 := later hq g6_2
      have g7_3 := later hq g6_3
      have z7_0 : w.heap.size < w7.heap.size := Nat.lt_of_lt_of_le z6_0 hq.size
      replace hB := thru hB hq
      replace y3 := y3.later hq
      replace y5 := y5.later hq
      clear hb hq g6_0 g6_1 g6_2 g6_3 z6_0
      go_wp2_with fail
      clear hle
      refine (readf_all x5 cl c5 _ y5 (by omega) cap5).mono ?_
      rw [HRV.out, HCV.out]
      rintro e w8 ⟨rfl, hb⟩
      have hq := thru (Below.refl _ w7) hb
      have g8_0 := later hq g7_0
      have g8_1 := later hq g7_1
      have g8_2 := later hq g7_2
      have g8_3 := later hq g7_3
      have z8_0 : w.heap.size < w8.heap.size := Nat.lt_of_lt_of_le z7_0 hq.size
      replace hB := thru hB hq
      replace y3 := y3.later hq
      replace y5 := y5.later hq
      clear hb hq g7_0 g7_1 g7_2 g7_3 z7_0
      go_wp2_with fail
      refine (sameb_any x3 wl c3 x5 cl c5 _ (y3.later (al (Below.refl _ _) _)) (y5.later (al (Below.refl _ _) _)) (by omega) (by omega)).mono ?_
      rintro e w9 ⟨rfl, hb⟩
      rw [HWC.out]
      have hq := thru (al (Below.refl _ w8) _) hb
      have g9_0 := later hq g8_0
      have g9_1 := later hq g8_1
      have g9_2 := later hq g8_2
      have g9_3 := later hq g8_3
      have g9_4 := later (a := ⟨w8.heap.size, 0, none⟩) (v := .int .i64 0) hb (by go_simp)
      have g9_5 := later (a := ⟨w8.heap.size, 1, none⟩) (v := .int .i64 0) hb (by go_simp)
      have g9_6 := later (a := ⟨w8.heap.size, 2, none⟩) (v := .int .i64 0) hb (by go_simp)
      have g9_7 := later (a := ⟨w8.heap.size, 3, none⟩) (v := .slice none 0 0) hb (by go_simp)
      have z9_0 : w.heap.size < w9.heap.size := Nat.lt_of_lt_of_le z8_0 hq.size
      have z9_1 : w8.heap.size < w9.heap.size := (by have := hb.size; first | omega | (simp at this; omega))
      replace hB := thru hB hq
      replace y3 := y3.later hq
      replace y5 := y5.later hq
      clear hb hq g8_0 g8_1 g8_2 g8_3 z8_0
      go_wp2_with fail
      go_ret
      exact ⟨rfl, hB⟩

end Go.Proofs.YtjnjjnkanbnliaaDoor
