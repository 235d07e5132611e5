/- WALKS of the laws of the frame layer: FrameMasks. -/
import Derived.Test.YtjnjjnkanbnliaaDoorLawA17
import Derived.Test.YtjnjjnkanbnliaaDoorPureMask17
namespace Go.Proofs.YtjnjjnkanbnliaaDoor
open Go.RowKit

def MaskRel (x : Option Addr) (l : List UInt8) (x7 : Option Addr) (l1 : List UInt8) (w : World) (u11 u50 : Value) (wr : World) : Prop :=
  ∃ i : Nat, i ≤ l.length ∧ u50 = .int .i64 (i : Int) ∧ u11 = .int .i64 ((Crc.difN l l1 i : Nat) : Int) ∧ Bts wr x l ∧ Bts wr x7 l1 ∧ Below w.heap.size w wr
theorem and8n (m : Nat) (h : m < 256) : bits .and .u8 (m : Int) 1 = ((m % 2 : Nat) : Int) := by
  show IntKind.u8.wrap ((BitVec.ofInt 8 (m : Int) &&& BitVec.ofInt 8 1).toNat : Int) = _
  have e1 : (BitVec.ofInt 8 (m : Int)).toNat = m := by rw [BitVec.toNat_ofInt]; omega
  rw [BitVec.toNat_and, e1, show (BitVec.ofInt 8 1).toNat = 1 from rfl, Nat.and_one_is_mod]
  simp [IntKind.wrap, IntKind.bits, IntKind.signed]
  omega
theorem and32n (m : Nat) (h : m < 4294967296) : bits .and .u32 (m : Int) 1 = ((m % 2 : Nat) : Int) := by
  show IntKind.u32.wrap ((BitVec.ofInt 32 (m : Int) &&& BitVec.ofInt 32 1).toNat : Int) = _
  have e1 : (BitVec.ofInt 32 (m : Int)).toNat = m := by rw [BitVec.toNat_ofInt]; omega
  rw [BitVec.toNat_and, e1, show (BitVec.ofInt 32 1).toNat = 1 from rfl, Nat.and_one_is_mod]
  simp [IntKind.wrap, IntKind.bits, IntKind.signed]
  omega

set_option maxRecDepth 100000 in
set_option maxHeartbeats 2000000 in
theorem masks17_law (x : Option Addr) (l : List UInt8) (cx : Nat) (at_ : Int) (mx my : W32) (w : World) (hd : DbAt w) (hx : Bts w x l) (hn : x = none → cx = 0) (hat : -9223372036854775808 ≤ at_ ∧ at_ ≤ 9223372036854775807) :
    Calls Tryd.prog 9 #[.slice x l.length cx, .int .i64 at_, .int .u32 (n32 mx), .int .u32 (n32 my)] w (YesOf w) := by
  by_cases c0 : 300 < (l.length : Int)
  · have y0 : decide (300 < (l.length : Int)) = true := decide_eq_true c0
    have hB := Below.refl w.heap.size w
    go_enter Tryd.func9, Tryd.ntmps9
    go_wp2_with fail
    refine (awake_any _ (hd.later (Below.refl _ w))).mono ?_
    rintro e w1 ⟨rfl, hb⟩
    have hq := thru (Below.refl _ w) hb
    replace hB := thru hB hq
    clear hb hq 
    go_wp2_with fail
    go_ret
    exact ⟨rfl, hB⟩
  · have y0 : decide (300 < (l.length : Int)) = false := decide_eq_false c0
    have l3 : l.length ≤ 300 := by omega
    obtain ⟨p, hp⟩ : ∃ p, at_ % ((8 * l.length + 40 : Nat) : Int) = p := ⟨_, rfl⟩
    have hp0 : 0 ≤ p := by rw [← hp]; exact Int.emod_nonneg _ (by omega)
    have hp1 : p < ((8 * l.length + 40 : Nat) : Int) := by rw [← hp]; exact Int.emod_lt_of_pos _ (by omega)
    have NA := Lib.hid (show 8 * (l.length : Int) + 40 = ((8 * l.length + 40 : Nat) : Int) by push_cast; rfl)
    have HP := Lib.hid hp
    obtain ⟨l1, hl1⟩ : ∃ z, Crc.burst mx (p - 36) l = z := ⟨_, rfl⟩
    obtain ⟨l2, hl2⟩ : ∃ z, Crc.burst my (p - 36) l1 = z := ⟨_, rfl⟩
    have h1n : l1.length = l.length := by rw [← hl1]; exact Crc.burst_length _ _ _
    have h2n : l2.length ≤ 300 := by rw [← hl2, Crc.burst_length]; omega
    have l13 : l1.length ≤ 300 := by omega
    have HX := Lib.hid hl1
    have HXY := Lib.hid hl2
    have HZ := Lib.hid (show Crc.burst (mx ^^^ my) (p - 36) l = l2 by rw [← hl2, ← hl1, Crc.burst_two])
    have HSW := Lib.hid (show (l2 == l2) = true by simp)
    have H1N := Lib.hid h1n
    obtain ⟨D, hD⟩ : ∃ D, Crc.difN l l1 l.length = D := ⟨_, rfl⟩
    obtain ⟨M, hM⟩ : ∃ M, Crc.popN mx.toNat 32 = M := ⟨_, rfl⟩
    have hle : D ≤ M := by rw [← hD, ← hM, ← hl1]; exact Crc.masks_le _ _ _
    have hM32 : M ≤ 32 := by rw [← hM]; exact Crc.popN_le _ _
    have heq : 0 ≤ p - 36 → p - 36 + 32 ≤ 8 * (l.length : Int) → D = M := fun h1 h2 => by rw [← hD, ← hM, ← hl1]; exact Crc.masks_eq _ _ _ h1 h2
    have HM := Lib.hid hM
    clear hl1 hl2 h1n hM
    have hB := Below.refl w.heap.size w
    go_enter Tryd.func9, Tryd.ntmps9
    go_wp2_with fail
    refine (awake_any _ (hd.later (Below.refl _ w))).mono ?_
    rintro e w1 ⟨rfl, hb⟩
    have hq := thru (Below.refl _ w) hb
    replace hB := thru hB hq
    clear hb hq 
    go_wp2_with fail
    rw [NA.out]
    refine (toB (pick_any at_ (8 * l.length + 40) _ (by omega) (by omega) hat)).mono ?_
    rintro e w2 ⟨rfl, hb⟩
    rw [HP.out]
    have hq := thru (Below.refl _ w1) hb
    replace hB := thru hB hq
    clear hb hq 
    go_wp2_with fail
    refine (burst_any x l cx (p - 36) (mx) _ (hx.later hB) hn (by omega) (by omega) (hd.later hB)).mono ?_
    rintro e w3 ⟨x3, c3, rfl, ho, hb⟩
    rw [HX.out] at ho ⊢
    have y3 := ho.bts
    have n3 := ho.none_cap
    clear ho
    have hq := thru (Below.refl _ w2) hb
    replace hB := thru hB hq
    clear hb hq 
    go_wp2_with fail
    refine (burst_any x3 l1 c3 (p - 36) (my) _ y3 n3 (by omega) (by omega) (hd.later hB)).mono ?_
    rintro e w4 ⟨x4, c4, rfl, ho, hb⟩
    rw [HXY.out] at ho ⊢
    have y4 := ho.bts
    clear ho
    have hq := thru (Below.refl _ w3) hb
    replace hB := thru hB hq
    replace y3 := y3.later hq
    clear hb hq 
    go_wp2_with fail
    refine (burst_any x l cx (p - 36) (mx ^^^ my) _ (hx.later hB) hn (by omega) (by omega) (hd.later hB)).mono ?_
    rintro e w5 ⟨x5, c5, rfl, ho, hb⟩
    rw [HZ.out] at ho ⊢
    have y5 := ho.bts
    clear ho
    have hq := thru (Below.refl _ w4) hb
    replace hB := thru hB hq
    replace y3 := y3.later hq
    replace y4 := y4.later hq
    clear hb hq 
    go_wp2_with fail
    refine (sameb_any x4 l2 c4 x5 l2 c5 _ y4 y5 (by omega) (by omega)).mono ?_
    rintro e w6 ⟨rfl, hb⟩
    rw [HSW.out]
    have hq := thru (Below.refl _ w5) hb
    replace hB := thru hB hq
    replace y3 := y3.later hq
    replace y4 := y4.later hq
    replace y5 := y5.later hq
    clear hb hq 
    clear y3 n3 y4 y5
    go_wp2_with fail
    refine (burst_any x l cx (p - 36) (mx) _ (hx.later hB) hn (by omega) (by omega) (hd.later hB)).mono ?_
    rintro e w7 ⟨x7, c7, rfl, ho, hb⟩
    rw [HX.out] at ho ⊢
    have y7 := ho.bts
    clear ho
    have hq := thru (Below.refl _ w6) hb
    replace hB := thru hB hq
    clear hb hq 
    go_wp2_with fail
    clear hd hn
    have HDL := Lib.hid hD
    have hx7 := hx.later hB
    clear hx hD hp
    go_loopw [11, 50] (fun u11 u50 wr => MaskRel x l x7 l1 w u11 u50 wr) (fun _ u50 _ => l.length - (intOf u50).toNat)
    case atStart => exact ⟨0, by omega, rfl, rfl, hx7, y7, hB⟩
    case round =>
      clear hx7 y7 hB
      obtain ⟨i, hi, rfl, rfl, hx7, y7, hB⟩ := hrel
      by_cases hlt : i < l.length
      · have hkb : decide ((i : Int) < (l.length : Int)) = true := by simp; omega
        have hkb2 : decide ((i : Int) < (l1.length : Int)) = true := by have := H1N.out; simp; omega
        have hilt1 : i < l1.length := by have := H1N.out; omega
        obtain ⟨g, o, rfl, hcl⟩ := hx7.resolve_left (by intro e; subst e; simp at hlt)
        have ci := hcl i hlt
        obtain ⟨g7, o7, rfl, hcl7⟩ := y7.resolve_left (by intro e; subst e; simp at hilt1)
        have cj := hcl7 i hilt1
        unfold encB at ci cj
        obtain ⟨u, hu⟩ : ∃ u, l.getD i 0 = u := ⟨_, rfl⟩
        obtain ⟨v, hv⟩ : ∃ u, l1.getD i 0 = u := ⟨_, rfl⟩
        rw [hu] at ci
        rw [hv] at cj
        obtain ⟨z, hz⟩ : ∃ q, u ^^^ v = q := ⟨_, rfl⟩
        have hxz : bits .xor .u8 (u.toNat : Int) (v.toNat : Int) = (z.toNat : Int) := by rw [u8_xor, hz]
        obtain ⟨d0, hd0⟩ : ∃ d, Crc.difN l l1 i = d := ⟨_, rfl⟩
        have hd8 : d0 ≤ 3000 := by have := Crc.difN_le l l1 i; omega
        have HD1 : Hid (Crc.difN l l1 (i + 1) = d0 + Crc.popN z.toNat 8) := by show Crc.difN l l1 i + Crc.popN (l.getD i 0 ^^^ l1.getD i 0).toNat 8 = _; rw [hu, hv, hz, hd0]
        have hzl := z.toNat_lt
        have h0b : z.toNat / 2 ^ 8 = 0 := by omega
        have H0B := Lib.hid h0b
        rw [hd0]
        clear hcl hcl7 hu hv hz hd0 h0b
        go_wp2_with fail
        refine wp_region_sched (fun W => W.cell? ⟨g, o + i, none⟩ = some (.int .u8 (u.toNat : Int)) ∧ W.cell? ⟨g7, o7 + i, none⟩ = some (.int .u8 (v.toNat : Int)) ∧ Bts W (some ⟨g, o, none⟩) l ∧ Bts W (some ⟨g7, o7, none⟩) l1 ∧ Below w.heap.size w W) (.done [0, 1, 2, 3, 4, 5, 6, 7, 8, 9]) (by kernel_rfl) (by kernel_rfl) (fun _ _ _ _ _ h => h) ⟨(by go_simp), (by go_simp), hx7, y7, hB.drew⟩ ?_
        clear hB ci cj hx7 y7
        rintro Q ⟨g1_0, g1_1, hx7, y7, hB⟩
        rw [wpSched]
        simp only [pick, List.map_cons, List.map_nil, Array.getD_eq_getD_getElem?, List.getElem?_toArray, List.getElem?_cons_succ, List.getElem?_cons_zero, Option.getD_some]
        have kg1_0 := plusW_cell g1_0
        have kg1_1 := plusW_cell g1_1
        repeat (first | go_big_quiet_step (fail) | quiet_step (fail))
        refine wpQuiet_nil ?_
        clear kg1_0 kg1_1
        go_wp2_with fail
        go_loop [11, 14] (fun u11 u14 => ∃ k : Nat, k ≤ 8 ∧ u14 = .int .u8 ((z.toNat / 2 ^ k : Nat) : Int) ∧ u11 = .int .i64 ((d0 + Crc.popN z.toNat k : Nat) : Int)) (fun _ u14 => (intOf u14).toNat)
        case atStart => exact ⟨0, by omega, by rw [Nat.pow_zero, Nat.div_one], by rfl⟩
        case round =>
          obtain ⟨k, hk, rfl, rfl⟩ := hrel
          obtain ⟨e, he⟩ : ∃ e, z.toNat / 2 ^ k = e := ⟨_, rfl⟩
          obtain ⟨t, ht⟩ : ∃ t, d0 + Crc.popN z.toNat k = t := ⟨_, rfl⟩
          have he8 : e ≤ 255 := by rw [← he]; exact Nat.le_trans (Nat.div_le_self _ _) (by omega)
          have ht8 : t ≤ 3008 := by have := Crc.popN_le z.toNat k; omega
          rw [he, ht]
          by_cases hz0 : e = 0
          · have HT : Hid (Crc.difN l l1 (i + 1) = t) := by show _ = _; rw [HD1.out, Crc.popN_end _ _ _ (he.trans hz0) hk, ht]
            subst hz0
            clear he ht H0B HD1
            go_wp2_with fail
            exact ⟨⟨i + 1, by omega, by go_num, by rw [HT.out], hx7, y7, hB⟩, by simp [intOf]; omega⟩
          · have hk8 : k < 8 := by
              rcases Nat.lt_or_ge k 8 with h | h
              · exact h
              · obtain rfl : k = 8 := by omega
                exact absurd (he.symm.trans H0B.out) hz0
            have hne : ((e : Int) != 0) = true := by simp; omega
            have hand := and8n e (by omega)
            obtain ⟨e2, he2⟩ : ∃ x, e / 2 = x := ⟨_, rfl⟩
            obtain ⟨b, hb⟩ : ∃ x, e % 2 = x := ⟨_, rfl⟩
            have hsh : (e : Int) / 2 = (e2 : Int) := by omega
            have hb1 : b ≤ 1 := by omega
            rw [hb] at hand
            have HN : Hid (z.toNat / 2 ^ (k + 1) = e2) := by show _ = _; rw [Nat.pow_succ, ← Nat.div_div_eq_div_mul, he, he2]
            have HT : Hid (d0 + Crc.popN z.toNat (k + 1) = t + b) := by show d0 + (Crc.popN z.toNat k + z.toNat / 2 ^ k % 2) = _; rw [he, hb]; omega
            have HM : Hid (e2 < e) := by show _ < _; omega
            clear he ht hb he2 H0B HD1
            go_wp2_with fail
            go_round
            case rel => exact ⟨k + 1, by omega, by rw [HN.out], by rw [HT.out]; push_cast; rfl⟩
            case measure => have := HM.out; simp [intOf]; omega
      · obtain rfl : i = l.length := by omega
        rw [HDL.out]
        have hkb : decide ((l.length : Int) < (l.length : Int)) = false := by simp
        clear hlt
        go_wp2_with fail
        go_loop [12, 15] (fun u12 u15 => ∃ k : Nat, k ≤ 32 ∧ u15 = .int .u32 ((mx.toNat / 2 ^ k : Nat) : Int) ∧ u12 = .int .i64 ((Crc.popN mx.toNat k : Nat) : Int)) (fun _ u15 => (intOf u15).toNat)
        case atStart => exact ⟨0, by omega, by rw [Nat.pow_zero, Nat.div_one]; rfl, by rfl⟩
        case round =>
          obtain ⟨k, hk, rfl, rfl⟩ := hrel
          obtain ⟨e, he⟩ : ∃ e, mx.toNat / 2 ^ k = e := ⟨_, rfl⟩
          obtain ⟨t, ht⟩ : ∃ t, Crc.popN mx.toNat k = t := ⟨_, rfl⟩
          have hml := mx.isLt
          have he8 : e < 4294967296 := by rw [← he]; exact Nat.lt_of_le_of_lt (Nat.div_le_self _ _) (by omega)
          have ht8 : t ≤ 32 := by have := Crc.popN_le mx.toNat k; omega
          rw [he, ht]
          by_cases hz0 : e = 0
          · obtain rfl : t = M := by rw [← HM.out, ← ht]; exact (Crc.popN_end _ _ _ (he.trans hz0) hk).symm
            subst hz0
            clear he ht hml HM
            have c3 : decide ((D : Int) ≤ (t : Int)) = true := by simp; omega
            by_cases c1 : p - 36 < 0
            · have d1 : decide (p - 36 < 0) = true := decide_eq_true c1
              go_wp2_with fail
              go_ret
              exact ⟨rfl, hB⟩
            · have d1 : decide (p - 36 < 0) = false := decide_eq_false c1
              by_cases c2 : 8 * (l.length : Int) < p - 36 + 32
              · have d2 : decide (8 * (l.length : Int) < p - 36 + 32) = true := decide_eq_true c2
                go_wp2_with fail
                go_ret
                exact ⟨rfl, hB⟩
              · have d2 : decide (8 * (l.length : Int) < p - 36 + 32) = false := decide_eq_false c2
                obtain rfl : D = t := heq (by omega) (by omega)
                go_wp2_with fail
                go_ret
                exact ⟨rfl, hB⟩
          · have hk8 : k < 32 := by
              rcases Nat.lt_or_ge k 32 with h | h
              · exact h
              · obtain rfl : k = 32 := by omega
                exact absurd (he.symm.trans (Nat.div_eq_of_lt hml)) hz0
            have hne : ((e : Int) != 0) = true := by simp; omega
            have hand := and32n e he8
            obtain ⟨e2, he2⟩ : ∃ x, e / 2 = x := ⟨_, rfl⟩
            obtain ⟨b, hb⟩ : ∃ x, e % 2 = x := ⟨_, rfl⟩
            have hsh : (e : Int) / 2 = (e2 : Int) := by omega
            have hb1 : b ≤ 1 := by omega
            rw [hb] at hand
            have HN : Hid (mx.toNat / 2 ^ (k + 1) = e2) := by show _ = _; rw [Nat.pow_succ, ← Nat.div_div_eq_div_mul, he, he2]
            have HT : Hid (Crc.popN mx.toNat (k + 1) = t + b) := by show Crc.popN mx.toNat k + mx.toNat / 2 ^ k % 2 = _; rw [he, hb]; omega
            have HME : Hid (e2 < e) := by show _ < _; omega
            clear he ht hb he2 hml
            go_wp2_with fail
            go_round
            case rel => exact ⟨k + 1, by omega, by rw [HN.out], by rw [HT.out]; push_cast; rfl⟩
            case measure => have := HME.out; simp [intOf]; omega

end Go.Proofs.YtjnjjnkanbnliaaDoor
