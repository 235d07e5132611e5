/- WALKS of the laws of the crc layer: CrcTrailer. -/
import Derived.Test.YtcdmmhbmpkdagaaCrcI
namespace Go.Proofs.Ytcdmmhbmpkdagaa
open Go.RowKit

set_option maxHeartbeats 4000000 in
theorem trailer_law (xa : Option Addr) (la : List UInt8) (ca : Nat) (o : W32) (w : World) (ya : Bts w xa la) (oa : xa = none → ca = 0) (h63 : la.length ≤ 9223372036854775807) :
    Calls Try.prog 6 #[.slice xa la.length ca, .int .u32 (n32 o)] w (YesOf w) := by
  by_cases c0 : 300 < (la.length : Int)
  · have y0_0 : decide (300 < (la.length : Int)) = true := decide_eq_true c0
    go_enter Try.func6, Try.ntmps6
    go_wp2_with fail
    refine (awake_any _).mono ?_
    rintro e w' ⟨rfl, hb⟩
    go_wp2_with fail
    go_ret
    exact ⟨rfl, hb⟩
  · have y0_0 : decide (300 < (la.length : Int)) = false := decide_eq_false c0
    have la3 : la.length ≤ 300 := by omega
    obtain ⟨wl, hwl⟩ : ∃ l, la ++ Crc.trailer (Crc.sum la) = l := ⟨_, rfl⟩
    obtain ⟨zl, hzl⟩ : ∃ l, [] ++ Crc.trailer (Crc.sum []) = l := ⟨_, rfl⟩
    obtain ⟨l4, hl4⟩ : ∃ l, la ++ [low8 o, low8 (o >>> 8), low8 (o >>> 16), low8 (o >>> 24)] = l := ⟨_, rfl⟩
    have nwl : wl.length = la.length + 4 := by rw [← hwl, List.length_append, Crc.trailer_length]
    have nl4 : l4.length = la.length + 4 := by rw [← hl4]; simp
    have nw1 : la.length + 4 ≤ wl.length := by omega
    have nw2 : wl.length ≤ la.length + 4 := by omega
    have n41 : la.length + 4 ≤ l4.length := by omega
    have n42 : l4.length ≤ la.length + 4 := by omega
    obtain ⟨K, hK⟩ : ∃ k, ~~~ Crc.bitN 32 (BitVec.allOnes 32) = k := ⟨_, rfl⟩
    have s1 : Crc.sum wl = K := by rw [← hwl, Crc.sum_whole, hK]
    have s2 : Crc.sum zl = K := by rw [← hzl, Crc.sum_whole, hK]
    have n3 : zl.length ≤ 10000000 := by rw [← hzl]; simp [Crc.trailer]
    have ho4 : Crc.trailer o = [low8 o, low8 (o >>> 8), low8 (o >>> 16), low8 (o >>> 24)] := rfl
    have hn4 := num4_of ho4
    obtain ⟨q, hq⟩ : ∃ q, (l4 == wl) = q := ⟨_, rfl⟩
    have hq2 : (o == Crc.sum la) = q := by
      rw [← hq, Bool.eq_iff_iff]; simp only [beq_iff_eq]
      refine ⟨fun h => by rw [← hl4, ← hwl, ← ho4, h], fun h => ?_⟩
      rw [← hl4, ← hwl, ← ho4] at h
      exact Crc.sum_four_inj (by rw [List.append_cancel_left h])
    have N1 := Lib.hid (show ((wl.length : Int) != (la.length : Int) + 4) = false by simp; omega)
    have F1 := Lib.hid hwl
    have F3 := Lib.hid hzl
    have F2 := Lib.hid s1
    have F4 := Lib.hid s2
    have L0 := Lib.hid (show [] ++ la = la from rfl)
    have L1 := Lib.hid hl4
    have N3 := Lib.hid n3
    have S1 := Lib.hid (show (la == la) = true by simp)
    have S2 := Lib.hid hq
    clear hwl hzl hl4 nwl nl4 hK s1 s2 n3 ho4 hq c0
    have hB := Below.refl w.heap.size w
    go_enter Try.func6, Try.ntmps6
    go_wp2_with fail
    refine (append_any xa la ca _ ya (by omega)).mono ?_
    rintro e w1 ⟨x1, c1, rfl, ho, hb⟩
    rw [F1.out] at ho ⊢
    obtain ⟨g1, rfl⟩ := ho.some_of (by omega)
    have cw := ho.le_cap
    have yw := ho.bts
    have hd := N1.out
    clear ho
    have hq := thru (Below.refl _ w) hb
    replace hB := thru hB hq
    replace ya := ya.later hq
    clear hb hq 
    go_wp2_with fail
    have yl := yw
    rw [← F1.out] at yl
    replace yl := yl.left
    clear hd
    refine (toB (same_any (some ⟨g1, 0, none⟩) la _ xa la ca _ yl ya)).mono ?_
    rintro e w2 ⟨rfl, hb⟩
    rw [S1.out]
    clear yl
    have hq := thru (Below.refl _ w1) hb
    replace hB := thru hB hq
    replace ya := ya.later hq
    replace yw := yw.later hq
    clear hb hq 
    have hC := Below.refl w2.heap.size w2
    have hS := hB.size
    go_wp2_with (at_builtin; (refine wpList_app rfl _ _ rfl (l := []) (B := w2.heap.size) (OwnsB.made' _ (w2.heap.size) _ (Nat.le_refl _) rfl) rfl (m := la) rfl (ya.later (al hC _)) (oa) (by simp; omega) L0.out (by simp) ?_); intro x3 c3 w3 ho hb _; refine Hid.out ?_)
    unfold Hid
    replace hB := (al hB _).trans (hb.mono (by have := hB.size; first | omega | (simp <;> omega)))
    replace hC := (al (hC) _).trans (hb.mono (by have := hC.size; first | omega | (simp <;> omega)))
    have O1 := Lib.hid ho
    have HZ := hb.size
    simp at HZ
    clear ho
    clear hb 
    go_wp2_with (at_builtin; (refine wpList_app rfl _ _ rfl (l := la) (B := w2.heap.size) (O1.out.turn ((Turns.refl (fun _ => False) _).alloc _) (fun _ _ h => h)) rfl (m := [low8 o, low8 (o >>> 8), low8 (o >>> 16), low8 (o >>> 24)]) rfl (bts_new _ [low8 o, low8 (o >>> 8), low8 (o >>> 16), low8 (o >>> 24)] _ _) (fun h => by cases h) (by simp; omega) L1.out (by simp; omega) ?_); intro x4 c4 w4 ho hb _; refine Hid.out ?_)
    unfold Hid
    replace hB := (al hB _).trans (hb.mono (by have := hB.size; first | omega | (simp <;> omega)))
    replace hC := (al (hC) _).trans (hb.mono (by have := hC.size; first | omega | (simp <;> omega)))
    have O2 := Lib.hid ho
    clear ho O1 HZ
    clear hb 
    obtain ⟨g4, rfl⟩ := O2.out.some_of (by omega)
    have c4w := O2.out.le_cap
    have y4 := O2.out.bts
    clear O2
    replace ya := ya.later hC
    replace yw := yw.later hC
    clear hC
    go_wp2_with fail
    cases q
    · have N4 : Hid ((num4 (low8 o) (low8 (o >>> 8)) (low8 (o >>> 16)) (low8 (o >>> 24)) != Crc.sum la) = true) := by show _ = _; rw [hn4]; unfold bne; rw [hq2]; rfl
      clear hn4 hq2
      refine (check_no' g4 0 l4 la _ _ _ _ L1.out.symm c4 _ y4 (by omega) c4w N4.out).mono ?_
      rintro e w5 ⟨rfl, hb⟩
      have hq := thru (Below.refl _ w4) hb
      replace hB := thru hB hq
      replace ya := ya.later hq
      replace yw := yw.later hq
      replace y4 := y4.later hq
      clear hb hq 
      go_wp2_with fail
      refine (toB (same_any (some ⟨g4, 0, none⟩) l4 c4 (some ⟨g1, 0, none⟩) wl c1 _ y4 yw)).mono ?_
      rintro e w6 ⟨rfl, hb⟩
      rw [S2.out]
      have hq := thru (Below.refl _ w5) hb
      replace hB := thru hB hq
      replace ya := ya.later hq
      replace yw := yw.later hq
      replace y4 := y4.later hq
      clear hb hq 
      go_wp2_with fail
      refine (sum_any (some ⟨g1, 0, none⟩) wl c1 _ yw (by omega)).mono ?_
      rintro e w7 ⟨rfl, hb⟩
      rw [F2.out]
      have hq := thru (Below.refl _ w6) hb
      replace hB := thru hB hq
      replace ya := ya.later hq
      replace yw := yw.later hq
      replace y4 := y4.later hq
      clear hb hq 
      go_wp2_with fail
      refine (append_any none [] 0 _ (Bts.nil _ _) (by decide)).mono ?_
      rintro e w8 ⟨x8, c8, rfl, ho, hb⟩
      rw [F3.out] at ho ⊢
      have yz := ho.bts
      clear ho
      have hq := thru (Below.refl _ w7) hb
      replace hB := thru hB hq
      replace ya := ya.later hq
      replace yw := yw.later hq
      replace y4 := y4.later hq
      clear hb hq 
      go_wp2_with fail
      refine (sum_any x8 zl c8 _ yz N3.out).mono ?_
      rintro e w9 ⟨rfl, hb⟩
      rw [F4.out]
      have hq := thru (Below.refl _ w8) hb
      replace hB := thru hB hq
      replace ya := ya.later hq
      replace yw := yw.later hq
      replace y4 := y4.later hq
      replace yz := yz.later hq
      clear hb hq 
      go_wp2_with fail
      refine (awake_any _).mono ?_
      rintro e w10 ⟨rfl, hb⟩
      have hq := thru (Below.refl _ w9) hb
      replace hB := thru hB hq
      replace ya := ya.later hq
      replace yw := yw.later hq
      replace y4 := y4.later hq
      replace yz := yz.later hq
      clear hb hq 
      go_wp2_with fail
      go_ret
      exact ⟨rfl, hB⟩
    · have N4 : Hid (num4 (low8 o) (low8 (o >>> 8)) (low8 (o >>> 16)) (low8 (o >>> 24)) = Crc.sum la) := by show _ = _; rw [hn4]; exact eq_of_beq hq2
      clear hn4 hq2
      refine (check_yes' g4 0 l4 la _ _ _ _ L1.out.symm c4 _ y4 (by omega) c4w N4.out).mono ?_
      rintro e w5 ⟨x5, c5, rfl, ho, hb⟩
      clear ho
      have hq := thru (Below.refl _ w4) hb
      replace hB := thru hB hq
      replace ya := ya.later hq
      replace yw := yw.later hq
      replace y4 := y4.later hq
      clear hb hq 
      go_wp2_with fail
      refine (toB (same_any (some ⟨g4, 0, none⟩) l4 c4 (some ⟨g1, 0, none⟩) wl c1 _ y4 yw)).mono ?_
      rintro e w6 ⟨rfl, hb⟩
      rw [S2.out]
      have hq := thru (Below.refl _ w5) hb
      replace hB := thru hB hq
      replace ya := ya.later hq
      replace yw := yw.later hq
      replace y4 := y4.later hq
      clear hb hq 
      go_wp2_with fail
      refine (sum_any (some ⟨g1, 0, none⟩) wl c1 _ yw (by omega)).mono ?_
      rintro e w7 ⟨rfl, hb⟩
      rw [F2.out]
      have hq := thru (Below.refl _ w6) hb
      replace hB := thru hB hq
      replace ya := ya.later hq
      replace yw := yw.later hq
      replace y4 := y4.later hq
      clear hb hq 
      go_wp2_with fail
      refine (append_any none [] 0 _ (Bts.nil _ _) (by decide)).mono ?_
      rintro e w8 ⟨x8, c8, rfl, ho, hb⟩
      rw [F3.out] at ho ⊢
      have yz := ho.bts
      clear ho
      have hq := thru (Below.refl _ w7) hb
      replace hB := thru hB hq
      replace ya := ya.later hq
      replace yw := yw.later hq
      replace y4 := y4.later hq
      clear hb hq 
      go_wp2_with fail
      refine (sum_any x8 zl c8 _ yz N3.out).mono ?_
      rintro e w9 ⟨rfl, hb⟩
      rw [F4.out]
      have hq := thru (Below.refl _ w8) hb
      replace hB := thru hB hq
      replace ya := ya.later hq
      replace yw := yw.later hq
      replace y4 := y4.later hq
      replace yz := yz.later hq
      clear hb hq 
      go_wp2_with fail
      refine (awake_any _).mono ?_
      rintro e w10 ⟨rfl, hb⟩
      have hq := thru (Below.refl _ w9) hb
      replace hB := thru hB hq
      replace ya := ya.later hq
      replace yw := yw.later hq
      replace y4 := y4.later hq
      replace yz := yz.later hq
      clear hb hq 
      go_wp2_with fail
      go_ret
      exact ⟨rfl, hB⟩

end Go.Proofs.Ytcdmmhbmpkdagaa
