/- WALKS of the laws of the crc layer: CrcParts. -/
import Derived.Test.YtcdmmhbmpkdagaaCrcG
namespace Go.Proofs.Ytcdmmhbmpkdagaa
open Go.RowKit

theorem own_none {B : Nat} {w : World} {x : Option Addr} {cap : Nat} {l : List UInt8} (h : OwnsB B w x cap l) : x = none → cap = 0 := by
  rintro rfl
  rcases h.2 with ⟨hv, _⟩ | ⟨g, c, cur, hv, _⟩
  · simp only [Value.slice.injEq] at hv; exact hv.2.2
  · simp at hv

set_option maxHeartbeats 4000000 in
theorem parts_law (xa : Option Addr) (la : List UInt8) (ca : Nat) (xb : Option Addr) (lb : List UInt8) (cb : Nat) (xc : Option Addr) (lc : List UInt8) (cc : Nat) (w : World)
    (ya : Bts w xa la) (yb : Bts w xb lb) (yc : Bts w xc lc) (oa : xa = none → ca = 0) (ob : xb = none → cb = 0) (oc : xc = none → cc = 0)
    (h63 : la.length ≤ 9223372036854775807 ∧ lb.length ≤ 9223372036854775807 ∧ lc.length ≤ 9223372036854775807) :
    Calls Try.prog 4 #[.slice xa la.length ca, .slice xb lb.length cb, .slice xc lc.length cc] w (YesOf w) := by
  obtain ⟨h63a, h63b, h63c⟩ := h63
  by_cases c0 : 300 < (la.length : Int)
  · have y0_0 : decide (300 < (la.length : Int)) = true := decide_eq_true c0
    go_enter Try.func4, Try.ntmps4
    go_wp2_with fail
    refine (awake_any _).mono ?_
    rintro e w' ⟨rfl, hb⟩
    go_wp2_with fail
    go_ret
    exact ⟨rfl, hb⟩
  · have y0_0 : decide (300 < (la.length : Int)) = false := decide_eq_false c0
    by_cases c1 : 300 < (lb.length : Int)
    · have y1_0 : decide (300 < (lb.length : Int)) = true := decide_eq_true c1
      go_enter Try.func4, Try.ntmps4
      go_wp2_with fail
      refine (awake_any _).mono ?_
      rintro e w' ⟨rfl, hb⟩
      go_wp2_with fail
      go_ret
      exact ⟨rfl, hb⟩
    · have y1_0 : decide (300 < (lb.length : Int)) = false := decide_eq_false c1
      by_cases c2 : 300 < (lc.length : Int)
      · have y2_0 : decide (300 < (lc.length : Int)) = true := decide_eq_true c2
        go_enter Try.func4, Try.ntmps4
        go_wp2_with fail
        refine (awake_any _).mono ?_
        rintro e w' ⟨rfl, hb⟩
        go_wp2_with fail
        go_ret
        exact ⟨rfl, hb⟩
      · have y2_0 : decide (300 < (lc.length : Int)) = false := decide_eq_false c2
        have la3 : la.length ≤ 300 := by omega
        have lb3 : lb.length ≤ 300 := by omega
        have lc3 : lc.length ≤ 300 := by omega
        obtain ⟨lab, hlab⟩ : ∃ l, la ++ lb = l := ⟨_, rfl⟩
        obtain ⟨wl, hwl⟩ : ∃ l, lab ++ lc = l := ⟨_, rfl⟩
        have lab6 : lab.length = la.length + lb.length := by rw [← hlab]; simp
        have lwl9 : wl.length = lab.length + lc.length := by rw [← hwl]; simp
        have l6 : lab.length ≤ 600 := by omega
        have l9 : wl.length ≤ 900 := by omega
        obtain ⟨x, hx⟩ : ∃ s, Crc.sum la = s := ⟨_, rfl⟩
        obtain ⟨y, hy⟩ : ∃ s, Crc.sum lb = s := ⟨_, rfl⟩
        obtain ⟨z, hz⟩ : ∃ s, Crc.sum lc = s := ⟨_, rfl⟩
        obtain ⟨ab, hab⟩ : ∃ s, Crc.combine x y lb.length = s := ⟨_, rfl⟩
        obtain ⟨bc, hbc⟩ : ∃ s, Crc.combine y z lc.length = s := ⟨_, rfl⟩
        obtain ⟨s, hs⟩ : ∃ s, Crc.combine ab z lc.length = s := ⟨_, rfl⟩
        have hs2 : Crc.combine x bc (lb.length + lc.length) = s := by rw [← hs, ← hbc, ← hab]; exact Crc.combine_assoc _ _ _ _ _
        have u1 : Crc.sumFrom x lb = ab := by rw [← hab, ← hx, ← hy]; unfold Crc.sum; rw [← Crc.sumFrom_append]; exact Crc.sum_append _ _ _
        have u3 : Crc.sumFrom 0#32 lab = ab := by rw [← u1, ← hx, ← hlab]; unfold Crc.sum; rw [Crc.sumFrom_append]
        have u2 : Crc.sumFrom ab lc = s := by
          have := Crc.sum_append lab lc 0#32
          rw [Crc.sumFrom_append, u3] at this
          rw [this, ← hs, ← hz]
        have u4 : Crc.sum wl = s := by unfold Crc.sum; rw [← hwl, Crc.sumFrom_append, u3, u2]
        have u5 : Crc.combine x 0#32 0 = x := by unfold Crc.combine Crc.shiftBytes; simp [Crc.bitN]
        have u6 : Crc.combine 0#32 y lb.length = y := by unfold Crc.combine; rw [Crc.shiftBytes_zero]; simp
        have L0 := Lib.hid (show [] ++ la = la from rfl)
        have L4 := Lib.hid (show [] ++ lab = lab from rfl)
        have L1 := Lib.hid hlab
        have L2 := Lib.hid hwl
        have FX := Lib.hid hx
        have FY := Lib.hid hy
        have FZ := Lib.hid hz
        have F1 := Lib.hid hab
        have F2 := Lib.hid hs
        have F3 := Lib.hid hbc
        have F4 := Lib.hid hs2
        have F5 := Lib.hid u1
        have F6 := Lib.hid u2
        have F7 := Lib.hid u4
        have F8 := Lib.hid u3
        have F9 := Lib.hid u5
        have F10 := Lib.hid u6
        have NA := Lib.hid (show ((lb.length : Int) + (lc.length : Int)) = ((lb.length + lc.length : Nat) : Int) by push_cast; rfl)
        have HZ0 := Lib.hid (show (0 : Int) = n32 0#32 by decide)
        clear hlab hwl lab6 lwl9 hx hy hz hab hbc hs hs2 u1 u2 u3 u4 u5 u6 c0 c1 c2
        have hB := Below.refl w.heap.size w
        go_enter Try.func4, Try.ntmps4
        go_wp2_with (at_builtin; (refine wpList_app rfl _ _ rfl (l := []) (B := w.heap.size) (OwnsB.made' _ (w.heap.size) _ (Nat.le_refl _) rfl) rfl (m := la) rfl (ya.later (al hB _)) (oa) (by simp; omega) L0.out (by simp) ?_); intro x1 c1 w1 ho hb _; refine Hid.out ?_)
        unfold Hid
        replace hB := (al hB _).trans (hb.mono (by have := hB.size; first | omega | (simp <;> omega)))
        have O1 := Lib.hid ho
        clear ho
        clear hb 
        go_wp2_with (at_builtin; (refine wpList_app rfl _ _ rfl (l := la) (B := w.heap.size) (O1.out) rfl (m := lb) rfl (yb.later hB) (ob) (by omega) L1.out (hB.size) ?_); intro x2 c2 w2 ho hb _; refine Hid.out ?_)
        unfold Hid
        replace hB := (hB).trans (hb.mono (by have := hB.size; first | omega | (simp <;> omega)))
        have O2 := Lib.hid ho
        clear ho O1
        clear hb 
        have yab := O2.out.bts
        have oab : x2 = none → c2 = 0 := own_none O2.out
        clear O2
        have hC := Below.refl w2.heap.size w2
        have hS := hB.size
        go_wp2_with (at_builtin; (refine wpList_app rfl _ _ rfl (l := []) (B := w2.heap.size) (OwnsB.made' _ (w2.heap.size) _ (Nat.le_refl _) rfl) rfl (m := lab) rfl (yab.later (al hC _)) (oab) (by simp; omega) L4.out (by simp) ?_); intro x3 c3 w3 ho hb _; refine Hid.out ?_)
        unfold Hid
        replace hB := (al hB _).trans (hb.mono (by have := hB.size; first | omega | (simp <;> omega)))
        replace hC := (al (hC) _).trans (hb.mono (by have := hC.size; first | omega | (simp <;> omega)))
        have O1 := Lib.hid ho
        have HZ := hb.size
        simp at HZ
        clear ho
        clear hb 
        go_wp2_with (at_builtin; (refine wpList_app rfl _ _ rfl (l := lab) (B := w2.heap.size) (O1.out) rfl (m := lc) rfl (yc.later hB) (oc) (by omega) L2.out (hC.size) ?_); intro x4 c4 w4 ho hb _; refine Hid.out ?_)
        unfold Hid
        replace hB := (hB).trans (hb.mono (by have := hB.size; first | omega | (simp <;> omega)))
        replace hC := (hC).trans (hb.mono (by have := hC.size; first | omega | (simp <;> omega)))
        have O2 := Lib.hid ho
        clear ho O1 HZ
        clear hb 
        have yw := O2.out.bts
        clear O2
        replace ya := ya.later hB
        replace yb := yb.later hB
        replace yc := yc.later hB
        replace yab := yab.later hC
        clear hC
        go_wp2_with fail
        refine (sum_any xa la ca _ ya (by omega)).mono ?_
        rintro e w5 ⟨rfl, hb⟩
        rw [FX.out]
        have hq := thru (Below.refl _ w4) hb
        replace hB := thru hB hq
        replace ya := ya.later hq
        replace yb := yb.later hq
        replace yc := yc.later hq
        replace yab := yab.later hq
        replace yw := yw.later hq
        clear hb hq 
        go_wp2_with fail
        refine (sum_any xb lb cb _ yb (by omega)).mono ?_
        rintro e w6 ⟨rfl, hb⟩
        rw [FY.out]
        have hq := thru (Below.refl _ w5) hb
        replace hB := thru hB hq
        replace ya := ya.later hq
        replace yb := yb.later hq
        replace yc := yc.later hq
        replace yab := yab.later hq
        replace yw := yw.later hq
        clear hb hq 
        go_wp2_with fail
        refine (sum_any xc lc cc _ yc (by omega)).mono ?_
        rintro e w7 ⟨rfl, hb⟩
        rw [FZ.out]
        have hq := thru (Below.refl _ w6) hb
        replace hB := thru hB hq
        replace ya := ya.later hq
        replace yb := yb.later hq
        replace yc := yc.later hq
        replace yab := yab.later hq
        replace yw := yw.later hq
        clear hb hq 
        go_wp2_with fail
        refine (combine_any x y lb.length _ (by omega)).mono ?_
        rintro e w8 ⟨rfl, hb⟩
        rw [F1.out]
        have hq := thru (Below.refl _ w7) hb
        replace hB := thru hB hq
        replace ya := ya.later hq
        replace yb := yb.later hq
        replace yc := yc.later hq
        replace yab := yab.later hq
        replace yw := yw.later hq
        clear hb hq 
        go_wp2_with fail
        refine (combine_any ab z lc.length _ (by omega)).mono ?_
        rintro e w9 ⟨rfl, hb⟩
        rw [F2.out]
        have hq := thru (Below.refl _ w8) hb
        replace hB := thru hB hq
        replace ya := ya.later hq
        replace yb := yb.later hq
        replace yc := yc.later hq
        replace yab := yab.later hq
        replace yw := yw.later hq
        clear hb hq 
        go_wp2_with fail
        refine (combine_any y z lc.length _ (by omega)).mono ?_
        rintro e w10 ⟨rfl, hb⟩
        rw [F3.out]
        have hq := thru (Below.refl _ w9) hb
        replace hB := thru hB hq
        replace ya := ya.later hq
        replace yb := yb.later hq
        replace yc := yc.later hq
        replace yab := yab.later hq
        replace yw := yw.later hq
        clear hb hq 
        go_wp2_with fail
        rw [NA.out]
        refine (combine_any x bc (lb.length + lc.length) _ (by omega)).mono ?_
        rintro e w11 ⟨rfl, hb⟩
        rw [F4.out]
        have hq := thru (Below.refl _ w10) hb
        replace hB := thru hB hq
        replace ya := ya.later hq
        replace yb := yb.later hq
        replace yc := yc.later hq
        replace yab := yab.later hq
        replace yw := yw.later hq
        clear hb hq 
        go_wp2_with fail
        refine (update_any x xb lb cb _ yb (by omega)).mono ?_
        rintro e w12 ⟨rfl, hb⟩
        rw [F5.out]
        have hq := thru (Below.refl _ w11) hb
        replace hB := thru hB hq
        replace ya := ya.later hq
        replace yb := yb.later hq
        replace yc := yc.later hq
        replace yab := yab.later hq
        replace yw := yw.later hq
        clear hb hq 
        go_wp2_with fail
        refine (update_any ab xc lc cc _ yc (by omega)).mono ?_
        rintro e w13 ⟨rfl, hb⟩
        rw [F6.out]
        have hq := thru (Below.refl _ w12) hb
        replace hB := thru hB hq
        replace ya := ya.later hq
        replace yb := yb.later hq
        replace yc := yc.later hq
        replace yab := yab.later hq
        replace yw := yw.later hq
        clear hb hq 
        go_wp2_with fail
        refine (sum_any x4 wl c4 _ yw (by omega)).mono ?_
        rintro e w14 ⟨rfl, hb⟩
        rw [F7.out]
        have hq := thru (Below.refl _ w13) hb
        replace hB := thru hB hq
        replace ya := ya.later hq
        replace yb := yb.later hq
        replace yc := yc.later hq
        replace yab := yab.later hq
        replace yw := yw.later hq
        clear hb hq 
        go_wp2_with fail
        rw [HZ0.out]
        refine (update_any 0#32 x2 lab c2 _ yab (by omega)).mono ?_
        rintro e w15 ⟨rfl, hb⟩
        rw [F8.out]
        have hq := thru (Below.refl _ w14) hb
        replace hB := thru hB hq
        replace ya := ya.later hq
        replace yb := yb.later hq
        replace yc := yc.later hq
        replace yab := yab.later hq
        replace yw := yw.later hq
        clear hb hq 
        go_wp2_with fail
        refine (combine_any x y lb.length _ (by omega)).mono ?_
        rintro e w16 ⟨rfl, hb⟩
        rw [F1.out]
        have hq := thru (Below.refl _ w15) hb
        replace hB := thru hB hq
        replace ya := ya.later hq
        replace yb := yb.later hq
        replace yc := yc.later hq
        replace yab := yab.later hq
        replace yw := yw.later hq
        clear hb hq 
        go_wp2_with fail
        refine (sum_any x4 wl c4 _ yw (by omega)).mono ?_
        rintro e w17 ⟨rfl, hb⟩
        rw [F7.out]
        have hq := thru (Below.refl _ w16) hb
        replace hB := thru hB hq
        replace ya := ya.later hq
        replace yb := yb.later hq
        replace yc := yc.later hq
        replace yab := yab.later hq
        replace yw := yw.later hq
        clear hb hq 
        go_wp2_with fail
        rw [HZ0.out]
        refine (combine_any x 0#32 0 _ (by omega)).mono ?_
        rintro e w18 ⟨rfl, hb⟩
        rw [F9.out]
        have hq := thru (Below.refl _ w17) hb
        replace hB := thru hB hq
        replace ya := ya.later hq
        replace yb := yb.later hq
        replace yc := yc.later hq
        replace yab := yab.later hq
        replace yw := yw.later hq
        clear hb hq 
        go_wp2_with fail
        rw [HZ0.out]
        refine (combine_any 0#32 y lb.length _ (by omega)).mono ?_
        rintro e w19 ⟨rfl, hb⟩
        rw [F10.out]
        have hq := thru (Below.refl _ w18) hb
        replace hB := thru hB hq
        replace ya := ya.later hq
        replace yb := yb.later hq
        replace yc := yc.later hq
        replace yab := yab.later hq
        replace yw := yw.later hq
        clear hb hq 
        go_wp2_with fail
        refine (awake_any _).mono ?_
        rintro e w20 ⟨rfl, hb⟩
        have hq := thru (Below.refl _ w19) hb
        replace hB := thru hB hq
        replace ya := ya.later hq
        replace yb := yb.later hq
        replace yc := yc.later hq
        replace yab := yab.later hq
        replace yw := yw.later hq
        clear hb hq 
        go_wp2_with fail
        go_ret
        exact ⟨rfl, hB⟩

end Go.Proofs.Ytcdmmhbmpkdagaa
