/- LAW BlockBurst. -/
import Derived.Test.YtgibfagnfhgelaaPureRn
import Derived.Test.YtgibfagnfhgelaaBlkQ
import Derived.Test.YtgibfagnfhgelaaPureBurst
namespace Go.Proofs.Ytgibfagnfhgelaa
open Go.RowKit

/-- The first 53 bytes of a block. -/
def enc53 (d : List UInt8) : List UInt8 := base49 d ++ Crc.trailer (Crc.sum (base49 d))
theorem enc53_len (d : List UInt8) (h : d.length ≤ 48) : (enc53 d).length = 53 := by unfold enc53; rw [List.length_append, base49_len d h, Crc.trailer_length]
theorem enc_53 (d : List UInt8) : encL d = enc53 d ++ [0] := rfl
/-- A burst within the first 53 bytes is found. -/
theorem readE_burst (d : List UInt8) (q : W32) (c : Nat) (h : d.length ≤ 48) (hc : c < 424) (hq : q.getLsbD 0 = true) : readE (Crc.flipN q c (enc53 d) 32 ++ [0]) = 371 := by
  have hl : (Crc.flipN q c (enc53 d) 32).length = 53 := by rw [Crc.flipN_length, enc53_len d h]
  have h53 : (Crc.flipN q c (enc53 d) 32 ++ [0]).getD 53 0 = 0 := by
    rw [List.getD_eq_getElem?_getD, List.getElem?_append_right (by omega), hl]; rfl
  unfold readE
  rw [if_neg (fun e => by rw [e, erasedL_at 53 (by omega)] at h53; exact absurd h53 (by decide)), h53, if_neg (by simp)]
  by_cases h48 : 48 < ((Crc.flipN q c (enc53 d) 32 ++ [0]).getD 0 0).toNat
  · rw [if_pos h48]
  · rw [if_neg h48, if_neg]
    intro e
    obtain ⟨dd, hdd⟩ : ∃ dd, readD (Crc.flipN q c (enc53 d) 32 ++ [0]) = dd := ⟨_, rfl⟩
    rw [hdd, enc_53] at e
    have e2 : Crc.flipN q c (base49 d ++ Crc.trailer (Crc.sum (base49 d))) 32 = base49 dd ++ Crc.trailer (Crc.sum (base49 dd)) := List.append_cancel_right e
    exact Crc.flip_whole q c (base49 d) (base49 dd) _ (by rw [base49_len d h]; omega) hq e2 rfl
theorem readE_mark (d : List UInt8) (v : UInt8) (h : d.length ≤ 48) (hv : v ≠ 0) : readE ((encL d).set 53 v) = 370 := by
  have h53 : ((encL d).set 53 v).getD 53 0 = v := by
    rw [List.getD_eq_getElem?_getD, List.getElem?_set, if_pos rfl, if_pos (by rw [encL_len d h]; omega)]; rfl
  have h0 : ((encL d).set 53 v).getD 0 0 = UInt8.ofNat d.length := by
    rw [← encL_at0, List.getD_eq_getElem?_getD, List.getElem?_set, if_neg (by omega), ← List.getD_eq_getElem?_getD]
  unfold readE
  rw [if_neg (fun e => by
    rw [e, erasedL_at 0 (by omega)] at h0
    have := congrArg UInt8.toNat h0
    rw [UInt8.toNat_ofNat', Nat.mod_eq_of_lt (by omega)] at this
    have h255 : (255 : UInt8).toNat = 255 := rfl
    omega), h53, if_pos hv]
theorem set53_self (d : List UInt8) (h : d.length ≤ 48) : (encL d).set 53 0 = encL d := by
  have := encL_at53 d h
  conv => lhs; rw [← this, List.getD_eq_getElem?_getD, List.getElem?_eq_getElem (by rw [encL_len d h]; omega)]
  exact List.set_getElem_self ..
def BuRel (q : W32) (c : Nat) (d : List UInt8) (x1 : Option Addr) (c1 B : Nat) (w : World) (u40 : Value) (wr : World) : Prop :=
  ∃ k : Nat, k ≤ 32 ∧ u40 = .int .i64 (k : Int) ∧ OwnsB B wr x1 c1 (Crc.flipN q c (enc53 d) k ++ [0]) ∧ Below B w wr
theorem set_left (m : List UInt8) (e : Nat) (v z : UInt8) (h : e < m.length) : (m ++ [z]).set e v = m.set e v ++ [z] := by rw [List.set_append_left _ _ h]
theorem getD_left (m : List UInt8) (e : Nat) (z : UInt8) (h : e < m.length) : (m ++ [z]).getD e 0 = m.getD e 0 := by
  rw [List.getD_eq_getElem?_getD, List.getElem?_append_left h, ← List.getD_eq_getElem?_getD]

set_option maxRecDepth 20000 in
set_option maxHeartbeats 4000000 in
theorem blockburst_law (x : Option Addr) (d : List UInt8) (c : Nat) (a : Int) (p : W32) (ch : UInt8) (w : World) (hx : Bts w x d) (hxn : x = none → c = 0) (hd63 : d.length ≤ 9223372036854775807) (ha : 0 ≤ a ∧ a ≤ 65535) :
    Calls Try.prog 5 #[.slice x d.length c, .int .u16 a, .int .u32 (n32 p), .int .u8 (ch.toNat : Int)] w (YesOf w) := by
  have hB := Below.refl w.heap.size w
  by_cases hd : 48 < d.length
  · go_enter Try.func5, Try.ntmps5
    go_wp2_with fail
    refine (encode_no x d.length c _ hd).mono ?_
    rintro e w1 ⟨rfl, hw⟩
    obtain rfl : w = w1 := hw.symm
    go_wp2_with fail
    refine (awake_any _).mono ?_
    rintro e w' ⟨rfl, hb⟩
    go_wp2_with fail
    go_ret
    exact ⟨rfl, hb⟩
  · have hd48 : d.length ≤ 48 := by omega
    have hp : bits .or .u32 (n32 p) 1 = n32 (p ||| 1#32) := by rw [← u32_or]; congr 1
    have hq0 : (p ||| 1#32).getLsbD 0 = true := by simp
    obtain ⟨q, hq⟩ : ∃ q, p ||| 1#32 = q := ⟨_, rfl⟩
    rw [hq] at hp hq0
    obtain ⟨fc, hfc⟩ : ∃ n : Nat, a.tmod 424 = (n : Int) := ⟨(a.tmod 424).toNat, by rw [Int.tmod_eq_emod_of_nonneg ha.1]; omega⟩
    have hfc4 : fc < 424 := by rw [Int.tmod_eq_emod_of_nonneg ha.1] at hfc; omega
    have hfc2 : a % 424 = (fc : Int) := by rw [← Int.tmod_eq_emod_of_nonneg ha.1]; exact hfc
    have hw16 : IntKind.i64.wrap a = a := wrap64_of _ (by omega)
    have HBU := Lib.hid (readE_burst d q fc hd48 hfc4 hq0)
    have HL := Lib.hid (encL_len d hd48)
    have HL53 := Lib.hid (enc53_len d hd48)
    have L0 := Lib.hid (show [] ++ encL d = encL d from rfl)
    clear hq hq0 hd
    go_enter Try.func5, Try.ntmps5
    go_wp2_with fail
    refine (encode_yes x d c _ hx hxn hd48).mono ?_
    rintro e w1 ⟨xb, cb, rfl, hob, hb⟩
    have hB1 := thru hB hb
    have hx1 := hx.later hb
    have hbb := hob.bts
    have hbcap := hob.le_cap
    have hbn := hob.none_cap
    clear hb hob
    go_wp2_with (at_builtin; (refine wpList_app rfl _ _ rfl (l := []) (B := w1.heap.size) (OwnsB.made' _ (w1.heap.size) _ (Nat.le_refl _) rfl) rfl (m := encL d) (by rw [HL.out]; rfl) (hbb.later (al (Below.refl _ w1) _)) hbn (by have := HL.out; simp; omega) L0.out (by simp) ?_); intro x1 c1 w2 ho1 hb _; refine Hid.out ?_)
    unfold Hid
    rw [HL.out]
    have hBa := (al (Below.refl _ w1) (.cells #[] 5)).trans (hb.mono (by simp))
    have hB2 := hB1.trans (hBa.mono hB1.size)
    have hz12 : w1.heap.size ≤ w2.heap.size := hBa.size
    have O1 : Hid (OwnsB w1.heap.size w2 x1 c1 (Crc.flipN q fc (enc53 d) 0 ++ [0])) := ho1
    clear ho1 hb hx
    go_wp2_with fail
    go_loopw [40] (fun u40 wr => BuRel q fc d x1 c1 w1.heap.size w2 u40 wr) (fun u40 _ => 32 - (intOf u40).toNat)
    case atStart => exact ⟨0, by omega, rfl, O1.out, Below.refl _ _⟩
    case round =>
      clear O1
      obtain ⟨k, hk, rfl, ho, hBr⟩ := hrel
      obtain ⟨m, hm⟩ : ∃ m, Crc.flipN q fc (enc53 d) k = m := ⟨_, rfl⟩
      have hml : m.length = 53 := by rw [← hm, Crc.flipN_length, HL53.out]
      rw [hm] at ho
      have HO := Lib.hid ho
      have HM := Lib.hid hm
      clear hm ho
      by_cases hlt : k < 32
      · have hkb : decide ((k : Int) < 32) = true := by simp; omega
        have hsh : n32 q / 2 ^ k = n32 (q >>> k) := by rw [← shr32]; simp
        have hbit := bitsh q k
        by_cases hb : q.getLsbD k = true
        · rw [hb] at hbit
          by_cases hi : fc + k < 424
          · have hdi : decide ((fc : Int) + (k : Int) < 424) = true := by simp; omega
            obtain ⟨g, rfl⟩ := HO.out.some_of (by simp)
            obtain ⟨dd, hdd⟩ : ∃ d, fc + k = d := ⟨_, rfl⟩
            obtain ⟨e, he⟩ : ∃ e, dd / 8 = e := ⟨_, rfl⟩
            obtain ⟨j, hj⟩ : ∃ j, dd % 8 = j := ⟨_, rfl⟩
            have hel : e < 53 := by omega
            have eB : (e : Int) < 54 := by omega
            have HN : Hid (Crc.flipN q fc (enc53 d) (k + 1) = m.set e (m.getD e 0 ^^^ Crc.mask8 j)) := by
              show _ = _
              rw [Crc.flipN, Crc.flipS, HM.out, if_pos ⟨hb, by rw [hml]; exact hi⟩, hdd, Crc.flipB, he, hj]
            obtain ⟨v, hv⟩ : ∃ v, m.getD e 0 = v := ⟨_, rfl⟩
            obtain ⟨t, ht⟩ : ∃ t, v ^^^ Crc.mask8 j = t := ⟨_, rfl⟩
            rw [hv, ht] at HN
            have hxo : bits .xor .u8 (v.toNat : Int) ((Crc.mask8 j).toNat : Int) = (t.toNat : Int) := by rw [u8_xor, ht]
            have hmk := shl8 j
            have hc8 : (fc : Int) + (k : Int) = (dd : Int) := by omega
            have hd8 : (dd : Int) / 8 = (e : Int) := by omega
            have hm8 : (dd : Int) % 8 = (j : Int) := by omega
            rw [hc8] at hdi
            have HLEN := Lib.hid hml
            have HV := Lib.hid hv
            clear hdd he hj hv ht hb hml
            go_wp2_with fail
            refine wp_tail 10 (fun W => OwnsB w1.heap.size W (some ⟨g, 0, none⟩) c1 (m ++ [0]) ∧ Below w1.heap.size w2 W) (by kernel_rfl) (by kernel_rfl) ⟨HO.out.turn ((Turns.refl (fun _ => False) wr).drew) (fun _ _ h => h), hBr.drew⟩ ?_
            clear HO hBr
            rintro W ⟨ho, hBr⟩
            have hce := ho.cell e (by have := HLEN.out; simp; omega)
            rw [getD_left m e 0 (by have := HLEN.out; omega), HV.out] at hce
            have hfe := ho.free e
            have HO := Lib.hid ho
            clear ho
            have hwe : IntKind.i64.wrap (e : Int) = (e : Int) := by simp [IntKind.wrap, IntKind.bits, IntKind.signed]; omega
            have hmt : (dd : Int).tmod 8 = (j : Int) := by rw [Int.tmod_eq_emod_of_nonneg (by omega)]; exact hm8
            have hwj : IntKind.i64.wrap (j : Int) = (j : Int) := by simp [IntKind.wrap, IntKind.bits, IntKind.signed]; omega
            simp only [List.take_succ_cons, List.take_zero, List.drop_succ_cons, List.drop_zero]
            repeat still_step
            refine wpStill_nil ?_
            go_wp2_with fail
            exact ⟨⟨k + 1, by omega, by go_num, by rw [HN.out, ← set_left m e t 0 (by have := HLEN.out; omega)]; exact HO.out.set e t, hBr.setCell (p := ⟨g, e, none⟩) (HO.out.low g rfl).1 _⟩, by simp [intOf]; omega⟩
          · have hdi : decide ((fc : Int) + (k : Int) < 424) = false := by simp; omega
            have HN : Hid (Crc.flipN q fc (enc53 d) (k + 1) = m) := by
              show _ = _
              rw [Crc.flipN, Crc.flipS, HM.out, if_neg (fun h => hi (by have := h.2; rw [hml] at this; omega))]
            clear hb hml
            go_wp2_with fail
            exact ⟨⟨k + 1, by omega, by go_num, by rw [HN.out]; exact HO.out, hBr⟩, by simp [intOf]; omega⟩
        · have hb := eq_false_of_ne_true hb
          rw [hb] at hbit
          have HN : Hid (Crc.flipN q fc (enc53 d) (k + 1) = m) := by
            show _ = _
            rw [Crc.flipN, Crc.flipS, HM.out, if_neg (fun h => by rw [hb] at h; cases h.1)]
          clear hb hml
          go_wp2_with fail
          exact ⟨⟨k + 1, by omega, by go_num, by rw [HN.out]; exact HO.out, hBr⟩, by simp [intOf]; omega⟩
      · obtain rfl : k = 32 := by omega
        have hE : Hid (readE (m ++ [0]) = 371) := by show _ = _; rw [← HM.out]; exact HBU.out
        have hB3 := hB2.trans (hBr.mono hB1.size)
        have hB1r := hBa.trans hBr
        have hbr := hbb.later hB1r
        have hxr := hx1.later hB1r
        have hml2 : (m ++ [0]).length = 54 := by rw [List.length_append, hml]; rfl
        have HML := Lib.hid hml2
        have hz1r : w1.heap.size ≤ wr.heap.size := hB1r.size
        clear HM HBU hbb hx1 hBr hBa hB2 hml hml2 hB1
        go_wp2_with (at_builtin; (refine wpList_app rfl _ _ rfl (l := []) (B := wr.heap.size) (OwnsB.made' _ (wr.heap.size) _ (Nat.le_refl _) rfl) rfl (m := encL d) (by rw [HL.out]; rfl) (hbr.later (al (Below.refl _ wr) _)) hbn (by have := HL.out; simp; omega) L0.out (by simp) ?_); intro x2 c2 v1 ho2 hb _; refine Hid.out ?_)
        unfold Hid
        rw [HL.out]
        have hBv := (al (Below.refl _ wr) (.cells #[] 5)).trans (hb.mono (by simp))
        have hbv := hbr.later hBv
        have hxv := hxr.later hBv
        have h1v := HO.out.bts.later hBv
        have h1c := HO.out.le_cap
        have h1n := HO.out.none_cap
        have hB4 := thru hB3 hBv
        obtain ⟨g2, rfl⟩ := ho2.some_of (by rw [HL.out]; omega)
        have hg2 := (ho2.low g2 rfl).1
        have c53 := ho2.cell 53 (by rw [HL.out]; omega)
        rw [encL_at53 d hd48] at c53
        have c53' : v1.cell? ⟨g2, 53, none⟩ = some (.int .u8 0) := c53
        have f53 := ho2.free 53
        have hxo : bits .xor .u8 0 (ch.toNat : Int) = (ch.toNat : Int) := by
          have := u8_xor 0 ch
          rw [UInt8.zero_xor] at this
          exact this
        have hoS := ho2.set 53 ch
        have hBS := hBv.setCell (p := ⟨g2, 53, none⟩) hg2 (.int .u8 (ch.toNat : Int))
        have hbS := hbr.later hBS
        have hxS := hxr.later hBS
        have h1S := HO.out.bts.later hBS
        have hBwS := thru hB3 hBS
        have h2S := hoS.bts
        have h2c := hoS.le_cap
        clear ho2 hb hbr hxr hbv hxv h1v hBv hB4 hB3 c53 hoS hBS HO
        go_wp2_with fail
        obtain ⟨V, hV⟩ : ∃ V, v1.setCell ⟨g2, 53, none⟩ (.int .u8 (ch.toNat : Int)) = V := ⟨_, rfl⟩
        have hVs : V.heap.size = v1.heap.size := by rw [← hV]; simp
        rw [hV] at hbS hxS h1S hBwS h2S ⊢
        rw [← hVs]
        clear hV hVs c53' f53
        obtain ⟨D, hD⟩ : ∃ D, (encL d).set 53 ch = D := ⟨_, rfl⟩
        have hDl : D.length = 54 := by rw [← hD, List.length_set]; exact HL.out
        rw [hD] at h2S h2c
        rw [HL.out] at hbcap
        rw [HML.out] at h1c
        rw [hDl] at h2c
        obtain ⟨rs, hrs⟩ : ∃ rs : List Rw, [⟨xb, cb, encL d⟩, ⟨x1, c1, m ++ [0]⟩, ⟨some ⟨g2, 0, none⟩, c2, D⟩] = rs := ⟨_, rfl⟩
        have hmap : rs.map (·.l) = [encL d, m ++ [0], D] := by rw [← hrs]; rfl
        have hrl : rs.length = 3 := by rw [← hrs]; rfl
        have hws : ∀ W, Below V.heap.size V W → (∀ i, i < 3 → W.cell? ⟨V.heap.size, i, none⟩ = (#[Value.slice xb 54 cb, Value.slice x1 54 c1, Value.slice (some ⟨g2, 0, none⟩) 54 c2] : Array Value)[i]?) → Rws W (some ⟨V.heap.size, 0, none⟩) rs := fun W hb hc => by
          refine ⟨.inr ⟨V.heap.size, 0, rfl, fun i hi => ?_⟩, fun r hr => ?_⟩
          · rw [hrl] at hi
            rw [Nat.zero_add, hc i hi, ← hrs]
            match i, hi with
            | 0, _ => show some _ = some (encR _); unfold encR; rw [show ([⟨xb, cb, encL d⟩, ⟨x1, c1, m ++ [0]⟩, ⟨some ⟨g2, 0, none⟩, c2, D⟩] : List Rw).getD 0 rw0 = ⟨xb, cb, encL d⟩ from rfl, HL.out]; rfl
            | 1, _ => show some _ = some (encR _); unfold encR; rw [show ([⟨xb, cb, encL d⟩, ⟨x1, c1, m ++ [0]⟩, ⟨some ⟨g2, 0, none⟩, c2, D⟩] : List Rw).getD 1 rw0 = ⟨x1, c1, m ++ [0]⟩ from rfl, HML.out]; rfl
            | 2, _ => show some _ = some (encR _); unfold encR; rw [show ([⟨xb, cb, encL d⟩, ⟨x1, c1, m ++ [0]⟩, ⟨some ⟨g2, 0, none⟩, c2, D⟩] : List Rw).getD 2 rw0 = ⟨some ⟨g2, 0, none⟩, c2, D⟩ from rfl, hDl]; rfl
            | i + 3, hi => exact absurd hi (by omega)
          · rw [← hrs] at hr
            rcases List.mem_cons.1 hr with rfl | hr
            · exact ⟨hbS.later hb, hbn, by rw [HL.out]; exact hbcap.1, hbcap.2⟩
            · rcases List.mem_cons.1 hr with rfl | hr
              · exact ⟨h1S.later hb, h1n, by rw [HML.out]; exact h1c.1, h1c.2⟩
              · obtain rfl : r = ⟨some ⟨g2, 0, none⟩, c2, D⟩ := by simpa using hr
                exact ⟨h2S.later hb, (fun h => by cases h), by rw [hDl]; exact h2c.1, h2c.2⟩
        have hvl : vldS [encL d, m ++ [0], D] = true := by
          rw [vldS_iff]
          refine ⟨by simp, fun l hl => ?_⟩
          rcases List.mem_cons.1 hl with rfl | hl
          · exact HL.out
          · rcases List.mem_cons.1 hl with rfl | hl
            · exact HML.out
            · obtain rfl : l = D := by simpa using hl
              exact hDl
        have r0 : rdC [encL d, m ++ [0], D] 0 = 0 := by
          have := rdC_in [encL d, m ++ [0], D] 0 hvl (by simp)
          rw [show ((0 : Nat) : Int) = 0 from rfl] at this
          rw [this]; exact readE_encL d hd48
        have r0m : rdM [encL d, m ++ [0], D] 0 = d := by unfold rdM; rw [r0, if_pos rfl]; exact readD_encL d hd48
        have r1 : rdC [encL d, m ++ [0], D] 1 = 371 := by
          have := rdC_in [encL d, m ++ [0], D] 1 hvl (by simp)
          rw [show ((1 : Nat) : Int) = 1 from rfl] at this
          rw [this]; exact hE.out
        have r1m : rdM [encL d, m ++ [0], D] 1 = [] := by unfold rdM; rw [r1]; rfl
        have r2 : rdC [encL d, m ++ [0], D] 2 = if ch = 0 then 0 else 370 := by
          have := rdC_in [encL d, m ++ [0], D] 2 hvl (by simp)
          rw [show ((2 : Nat) : Int) = 2 from rfl] at this
          rw [this]
          show readE D = _
          rw [← hD]
          by_cases h0 : ch = 0
          · rw [if_pos h0, h0, set53_self d hd48]; exact readE_encL d hd48
          · rw [if_neg h0]; exact readE_mark d ch hd48 h0
        have hRD : ∀ i W, Rws W (some ⟨V.heap.size, 0, none⟩) rs → Calls Try.prog 13 #[.agg #[.slice (some ⟨V.heap.size, 0, none⟩) 3 3], .int .i64 i] W (ReadOf [encL d, m ++ [0], D] i W) := fun i W h => by
          have := read_any (some ⟨V.heap.size, 0, none⟩) rs 3 i W h (by omega)
          rwa [hrl, hmap] at this
        have HRD := Lib.hid hRD
        have HWS := Lib.hid hws
        have R0 := Lib.hid r0
        have R0M := Lib.hid r0m
        have R1 := Lib.hid r1
        have R1M := Lib.hid r1m
        have R2 := Lib.hid r2
        clear hRD hws r0 r0m r1 r1m r2 hvl hmap hrl hrs hDl hD hbS h1S h2S hbcap h1c h2c hE hbn h1n
        have hse : ((⟨d.toArray⟩ : ByteArray) == ⟨d.toArray⟩) = true := by rw [str_eq]; exact beq_self_eq_true d
        have hrw := HWS.out ((V.alloc (.cells #[.slice xb 54 cb, .slice x1 54 c1, .slice (some ⟨g2, 0, none⟩) 54 c2] 25)).alloc (.cells #[.slice (some ⟨V.heap.size, 0, none⟩) 3 3] 24)) (al (al (Below.refl _ V) _) _) (fun i hi => by
          refine ((al (Below.refl _ _) _ : Below _ _ _).cell (p := ⟨V.heap.size, i, none⟩) (by simp)).trans ?_
          exact cell_new V _ _ _ i)
        refine (HRD.out 0 _ hrw).mono ?_
        rintro e v2 ⟨y1, cy1, rfl, ho1, hb⟩
        rw [R0M.out] at ho1
        rw [R0M.out, R0.out]
        have hB5 := thru (al (al hBwS _) _) hb
        have hx5 := (hxS.later (al (al (Below.refl _ V) _) _)).later hb
        have n1 := later (a := ⟨V.heap.size + 1, 0, none⟩) (v := .slice (some ⟨V.heap.size, 0, none⟩) 3 3) hb (by go_simp)
        replace hrw := hrw.later hb
        have hy1 := ho1.bts
        clear hb ho1 hxS hBwS HWS
        go_wp2_with fail
        refine (HRD.out 1 _ hrw).mono ?_
        rintro e v3 ⟨y2, cy2, rfl, ho2, hb⟩
        rw [R1M.out, R1.out]
        have hB6 := thru hB5 hb
        replace hx5 := hx5.later hb
        replace n1 := later hb n1
        replace hrw := hrw.later hb
        replace hy1 := hy1.later hb
        clear hb ho2 hB5
        go_wp2_with fail
        refine (HRD.out 2 _ hrw).mono ?_
        rintro e v4 ⟨y3, cy3, rfl, ho3, hb⟩
        rw [R2.out]
        have hB7 := thru hB6 hb
        replace hx5 := hx5.later hb
        replace hy1 := hy1.later hb
        clear hb ho3 hB6 n1 hrw HRD
        have e1 := run_conv (P := Try.prog) (src := 25) (e := 5) (dst := 9) Try.underlying25 Try.underlying5 Try.underlying9 hy1 cy1
        have e2 := run_conv (P := Try.prog) (src := 25) (e := 5) (dst := 9) Try.underlying25 Try.underlying5 Try.underlying9 hx5 c
        by_cases h0 : ch = 0
        · subst h0
          rw [if_pos rfl]
          go_wp2_with fail
          refine (awake_any _).mono ?_
          rintro e w' ⟨rfl, hb⟩
          go_wp2_with fail
          go_ret
          exact ⟨rfl, thru hB7 hb⟩
        · rw [if_neg h0]
          have z1 : ((ch.toNat : Int) == 0) = false := by
            rw [beq_eq_false_iff_ne]
            intro h
            exact h0 (by rw [← UInt8.toNat_inj]; show ch.toNat = 0; omega)
          clear h0
          go_wp2_with fail
          refine (awake_any _).mono ?_
          rintro e w' ⟨rfl, hb⟩
          go_wp2_with fail
          go_ret
          exact ⟨rfl, thru hB7 hb⟩

end Go.Proofs.Ytgibfagnfhgelaa
