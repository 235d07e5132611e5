/- WALKS of the laws of the crc layer: CrcBurst. -/
import Derived.Test.YtcdmmhbmpkdagaaCrcI
namespace Go.Proofs.Ytcdmmhbmpkdagaa
open Go.RowKit

set_option maxHeartbeats 4000000 in
theorem burst_law (xa : Option Addr) (la : List UInt8) (ca : Nat) (at_ : Int) (p : W32) (w : World) (ya : Bts w xa la) (h63 : la.length ≤ 9223372036854775807) (hat : -9223372036854775808 ≤ at_ ∧ at_ ≤ 9223372036854775807) :
    Calls Try.prog 3 #[.slice xa la.length ca, .int .i64 at_, .int .u32 (n32 p)] w (YesOf w) := by
  by_cases c0 : 300 < (la.length : Int)
  · have y0_0 : decide (300 < (la.length : Int)) = true := decide_eq_true c0
    go_enter Try.func3, Try.ntmps3
    go_wp2_with fail
    refine (awake_any _).mono ?_
    rintro e w' ⟨rfl, hb⟩
    go_wp2_with fail
    go_ret
    exact ⟨rfl, hb⟩
  · have y0_0 : decide (300 < (la.length : Int)) = false := decide_eq_false c0
    by_cases c1 : at_ < 0
    · have y1_0 : decide (at_ < 0) = true := decide_eq_true c1
      go_enter Try.func3, Try.ntmps3
      go_wp2_with fail
      refine (awake_any _).mono ?_
      rintro e w' ⟨rfl, hb⟩
      go_wp2_with fail
      go_ret
      exact ⟨rfl, hb⟩
    · have y1_0 : decide (at_ < 0) = false := decide_eq_false c1
      by_cases c2 : 8 * ((la.length : Int) + 4) ≤ at_
      · have y2_0 : decide (8 * ((la.length : Int) + 4) ≤ at_) = true := decide_eq_true c2
        go_enter Try.func3, Try.ntmps3
        go_wp2_with fail
        refine (awake_any _).mono ?_
        rintro e w' ⟨rfl, hb⟩
        go_wp2_with fail
        go_ret
        exact ⟨rfl, hb⟩
      · have y2_0 : decide (8 * ((la.length : Int) + 4) ≤ at_) = false := decide_eq_false c2
        have la3 : la.length ≤ 300 := by omega
        obtain ⟨c, rfl⟩ : ∃ c : Nat, at_ = (c : Int) := ⟨at_.toNat, by omega⟩
        have hc8 : c < 8 * (la.length + 4) := by omega
        have hcc : c ≤ 100000 := by omega
        obtain ⟨wl, hwl⟩ : ∃ l, la ++ Crc.trailer (Crc.sum la) = l := ⟨_, rfl⟩
        have nwl : wl.length = la.length + 4 := by rw [← hwl, List.length_append, Crc.trailer_length]
        have nw1 : la.length + 4 ≤ wl.length := by omega
        have nw2 : wl.length ≤ la.length + 4 := by omega
        have hn4 := num4_of (show Crc.trailer (Crc.sum la) = [low8 (Crc.sum la), low8 (Crc.sum la >>> 8), low8 (Crc.sum la >>> 16), low8 (Crc.sum la >>> 24)] from rfl)
        obtain ⟨fl, hfl⟩ : ∃ l, Crc.flipN (p ||| 1#32) c wl 32 = l := ⟨_, rfl⟩
        have nfl : fl.length = wl.length := by rw [← hfl]; exact Crc.flipN_length _ _ _ _
        have nf1 : wl.length ≤ fl.length := by omega
        obtain ⟨fm, p0, p1, p2, p3, hfm, nfm⟩ := Crc.split4 fl la.length (by omega)
        have nfm2 : fm.length ≤ la.length := by omega
        have hb0 : (p ||| 1#32).getLsbD 0 = true := by simp
        have hn5 : (num4 p0 p1 p2 p3 != Crc.sum fm) = true := by
          simp only [bne_iff_ne, ne_eq]
          refine Crc.flip_whole (p ||| 1#32) c la fm _ hc8 hb0 ?_
          rw [hwl, hfl, hfm, trailer_num4]
        have F1 := Lib.hid hwl
        have F2 := Lib.hid hfl
        have L1 := Lib.hid (show wl = la ++ [low8 (Crc.sum la), low8 (Crc.sum la >>> 8), low8 (Crc.sum la >>> 16), low8 (Crc.sum la >>> 24)] from hwl.symm)
        have L2 := Lib.hid hfm
        have N4 := Lib.hid hn4
        have N5 := Lib.hid hn5
        have S1 := Lib.hid (show (la == la) = true by simp)
        clear hwl hfl hfm nwl nfl nfm hn4 hn5 hb0 hc8 c0 c1 c2
        have hB := Below.refl w.heap.size w
        go_enter Try.func3, Try.ntmps3
        go_wp2_with fail
        refine (append_any xa la ca _ ya (by omega)).mono ?_
        rintro e w1 ⟨x1, c1, rfl, ho, hb⟩
        rw [F1.out] at ho ⊢
        obtain ⟨g1, rfl⟩ := ho.some_of (by omega)
        have cw := ho.le_cap
        have yw := ho.bts
        clear ho
        have hq := thru (Below.refl _ w) hb
        replace hB := thru hB hq
        replace ya := ya.later hq
        clear hb hq 
        go_wp2_with fail
        refine (check_yes' g1 0 wl la _ _ _ _ L1.out c1 _ yw (by omega) cw N4.out).mono ?_
        rintro e w2 ⟨x2, c2, rfl, ho, hb⟩
        have y2 := ho.bts
        clear ho
        have hq := thru (Below.refl _ w1) hb
        replace hB := thru hB hq
        replace ya := ya.later hq
        replace yw := yw.later hq
        clear hb hq 
        go_wp2_with fail
        refine (flipped_any (some ⟨g1, 0, none⟩) wl c1 c p _ yw (fun h => by cases h) (by omega) (by omega)).mono ?_
        rintro e w3 ⟨x3, c3, rfl, ho, hb⟩
        rw [F2.out] at ho ⊢
        obtain ⟨g3, rfl⟩ := ho.some_of (by omega)
        have c3w := ho.le_cap
        have y3 := ho.bts
        clear ho
        have hq := thru (Below.refl _ w2) hb
        replace hB := thru hB hq
        replace ya := ya.later hq
        replace yw := yw.later hq
        replace y2 := y2.later hq
        clear hb hq 
        go_wp2_with fail
        refine (check_no' g3 0 fl fm _ _ _ _ L2.out c3 _ y3 (by omega) c3w N5.out).mono ?_
        rintro e w4 ⟨rfl, hb⟩
        have hq := thru (Below.refl _ w3) hb
        replace hB := thru hB hq
        replace ya := ya.later hq
        replace yw := yw.later hq
        replace y2 := y2.later hq
        replace y3 := y3.later hq
        clear hb hq 
        go_wp2_with fail
        refine (toB (same_any x2 la c2 xa la ca _ y2 ya)).mono ?_
        rintro e w5 ⟨rfl, hb⟩
        rw [S1.out]
        have hq := thru (Below.refl _ w4) hb
        replace hB := thru hB hq
        replace ya := ya.later hq
        replace yw := yw.later hq
        replace y2 := y2.later hq
        replace y3 := y3.later hq
        clear hb hq 
        go_wp2_with fail
        refine (awake_any _).mono ?_
        rintro e w6 ⟨rfl, hb⟩
        have hq := thru (Below.refl _ w5) hb
        replace hB := thru hB hq
        replace ya := ya.later hq
        replace yw := yw.later hq
        replace y2 := y2.later hq
        replace y3 := y3.later hq
        clear hb hq 
        go_wp2_with fail
        go_ret
        exact ⟨rfl, hB⟩

end Go.Proofs.Ytcdmmhbmpkdagaa
