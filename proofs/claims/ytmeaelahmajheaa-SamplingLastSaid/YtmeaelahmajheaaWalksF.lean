/- WALKS of the laws: SamplingOverwrites, SamplingMoves. -/
import Derived.Test.YtmeaelahmajheaaWalksE
namespace Go.Proofs.Ytmeaelahmajheaa
open Go.RowKit

theorem al {w W : World} (h : Below w.heap.size w W) (o : Obj) : Below w.heap.size w (W.alloc o) := h.alloc h.size o
theorem thru {w W w' : World} (h : Below w.heap.size w W) (hb : Below W.heap.size W w') : Below w.heap.size w w' := h.trans (hb.mono h.size)

/-- A write with some outcome. -/
def writeS (kind size depth refresh : Int) (l : List UInt8) (at_ : Int) (has : Bool) (now : Int) (d : List UInt8) : List UInt8 × Int × Bool :=
  if writeCode kind size depth refresh l at_ has now d = 0 then (d, now, true) else (l, at_, has)

theorem write_one (nm : ByteArray) (kind : Int) (out : Bool) (size depth refresh : Int) (x : Option Addr) (l : List UInt8) (cap : Nat) (at_ : Int) (has : Bool) (now : Int) (y : Option Addr) (d : List UInt8) (capd : Nat) (w : World) (hx : Bts w x l) (hl : l.length ≤ 100000) (hy : Bts w y d) (hd : d.length ≤ 100000) {l' : List UInt8} {a' : Int} {h' : Bool} {k' : Int}
    (hs : writeS kind size depth refresh l at_ has now d = (l', a', h')) (hk : writeCode kind size depth refresh l at_ has now d = k') :
    Calls Try.prog 9 #[.agg #[.string nm, .int .u8 kind, .bool out, .int .i64 size, .int .i64 depth, .int .i64 refresh], .agg #[.slice x l.length cap, .int .i64 at_, .bool has], .int .i64 now, .slice y d.length capd] w (WroteOf l' a' h' k' w) := by
  subst hk
  have h := write_any nm kind out size depth refresh x l cap at_ has now y d capd w hx hl hy hd
  unfold writeS at hs
  split at hs
  · rename_i h0
    rw [if_pos h0] at h
    cases hs
    rw [h0]
    exact h
  · rename_i h0
    rw [if_neg h0] at h
    cases hs
    exact h


set_option maxHeartbeats 1000000 in
theorem over_long1 (nm : ByteArray) (kind : Int) (out : Bool) (size depth refresh : Int) (xS : Option Addr) (lS : List UInt8) (cS : Nat) (tS : Int) (hS : Bool) (xT : Option Addr) (lT : List UInt8) (cT : Nat) (tT : Int) (hT : Bool) (ya : Option Addr) (la : List UInt8) (ca : Nat) (yb : Option Addr) (lb : List UInt8) (cb : Nat) (now : Int) (w : World) (m1 : 200 < (lS.length : Int)) : Calls Try.prog 5 #[.agg #[.string nm, .int .u8 kind, .bool out, .int .i64 size, .int .i64 depth, .int .i64 refresh], .agg #[.slice xS lS.length cS, .int .i64 tS, .bool hS], .agg #[.slice xT lT.length cT, .int .i64 tT, .bool hT], .slice ya la.length ca, .slice yb lb.length cb, .int .i64 now] w fun e w' => e = .returned (.bool true) ∧ Below w.heap.size w w' := by
  have hB := Below.refl w.heap.size w
  go_enter Try.func5, Try.ntmps5
  go_wp2_with fail
  refine (awake_any _).mono ?_
  rintro e w1 ⟨rfl, hb⟩
  have hq := thru (al (al (al (Below.refl _ w) _) _) _) hb
  have g1_0 := later (a := ⟨w.heap.size, 0, none⟩) (v := .string nm) hb (by go_simp)
  have g1_1 := later (a := ⟨w.heap.size, 1, none⟩) (v := .int .u8 kind) hb (by go_simp)
  have g1_2 := later (a := ⟨w.heap.size, 2, none⟩) (v := .bool out) hb (by go_simp)
  have g1_3 := later (a := ⟨w.heap.size, 3, none⟩) (v := .int .i64 size) hb (by go_simp)
  have g1_4 := later (a := ⟨w.heap.size, 4, none⟩) (v := .int .i64 depth) hb (by go_simp)
  have g1_5 := later (a := ⟨w.heap.size, 5, none⟩) (v := .int .i64 refresh) hb (by go_simp)
  have g1_6 := later (a := ⟨w.heap.size + 1, 0, none⟩) (v := .slice xS lS.length cS) hb (by go_simp)
  have g1_7 := later (a := ⟨w.heap.size + 1, 1, none⟩) (v := .int .i64 tS) hb (by go_simp)
  have g1_8 := later (a := ⟨w.heap.size + 1, 2, none⟩) (v := .bool hS) hb (by go_simp)
  have g1_9 := later (a := ⟨w.heap.size + 2, 0, none⟩) (v := .slice xT lT.length cT) hb (by go_simp)
  have g1_10 := later (a := ⟨w.heap.size + 2, 1, none⟩) (v := .int .i64 tT) hb (by go_simp)
  have g1_11 := later (a := ⟨w.heap.size + 2, 2, none⟩) (v := .bool hT) hb (by go_simp)
  have z1_0 : w.heap.size < w1.heap.size := (by have := hb.size; simp at this; omega)
  have z1_1 : w.heap.size + 1 < w1.heap.size := (by have := hb.size; simp at this; omega)
  have z1_2 : w.heap.size + 2 < w1.heap.size := (by have := hb.size; simp at this; omega)
  replace hB := thru hB hq
  clear hb hq 
  go_wp2_with fail
  go_ret
  exact ⟨rfl, hB⟩


set_option maxHeartbeats 1000000 in
theorem over_long2 (nm : ByteArray) (kind : Int) (out : Bool) (size depth refresh : Int) (xS : Option Addr) (lS : List UInt8) (cS : Nat) (tS : Int) (hS : Bool) (xT : Option Addr) (lT : List UInt8) (cT : Nat) (tT : Int) (hT : Bool) (ya : Option Addr) (la : List UInt8) (ca : Nat) (yb : Option Addr) (lb : List UInt8) (cb : Nat) (now : Int) (w : World) (m1 : ¬ 200 < (lS.length : Int)) (m2 : 200 < (lT.length : Int)) : Calls Try.prog 5 #[.agg #[.string nm, .int .u8 kind, .bool out, .int .i64 size, .int .i64 depth, .int .i64 refresh], .agg #[.slice xS lS.length cS, .int .i64 tS, .bool hS], .agg #[.slice xT lT.length cT, .int .i64 tT, .bool hT], .slice ya la.length ca, .slice yb lb.length cb, .int .i64 now] w fun e w' => e = .returned (.bool true) ∧ Below w.heap.size w w' := by
  have hB := Below.refl w.heap.size w
  go_enter Try.func5, Try.ntmps5
  go_wp2_with fail
  refine (awake_any _).mono ?_
  rintro e w1 ⟨rfl, hb⟩
  have hq := thru (al (al (al (Below.refl _ w) _) _) _) hb
  have g1_0 := later (a := ⟨w.heap.size, 0, none⟩) (v := .string nm) hb (by go_simp)
  have g1_1 := later (a := ⟨w.heap.size, 1, none⟩) (v := .int .u8 kind) hb (by go_simp)
  have g1_2 := later (a := ⟨w.heap.size, 2, none⟩) (v := .bool out) hb (by go_simp)
  have g1_3 := later (a := ⟨w.heap.size, 3, none⟩) (v := .int .i64 size) hb (by go_simp)
  have g1_4 := later (a := ⟨w.heap.size, 4, none⟩) (v := .int .i64 depth) hb (by go_simp)
  have g1_5 := later (a := ⟨w.heap.size, 5, none⟩) (v := .int .i64 refresh) hb (by go_simp)
  have g1_6 := later (a := ⟨w.heap.size + 1, 0, none⟩) (v := .slice xS lS.length cS) hb (by go_simp)
  have g1_7 := later (a := ⟨w.heap.size + 1, 1, none⟩) (v := .int .i64 tS) hb (by go_simp)
  have g1_8 := later (a := ⟨w.heap.size + 1, 2, none⟩) (v := .bool hS) hb (by go_simp)
  have g1_9 := later (a := ⟨w.heap.size + 2, 0, none⟩) (v := .slice xT lT.length cT) hb (by go_simp)
  have g1_10 := later (a := ⟨w.heap.size + 2, 1, none⟩) (v := .int .i64 tT) hb (by go_simp)
  have g1_11 := later (a := ⟨w.heap.size + 2, 2, none⟩) (v := .bool hT) hb (by go_simp)
  have z1_0 : w.heap.size < w1.heap.size := (by have := hb.size; simp at this; omega)
  have z1_1 : w.heap.size + 1 < w1.heap.size := (by have := hb.size; simp at this; omega)
  have z1_2 : w.heap.size + 2 < w1.heap.size := (by have := hb.size; simp at this; omega)
  replace hB := thru hB hq
  clear hb hq 
  go_wp2_with fail
  go_ret
  exact ⟨rfl, hB⟩


set_option maxHeartbeats 1000000 in
theorem over_long3 (nm : ByteArray) (kind : Int) (out : Bool) (size depth refresh : Int) (xS : Option Addr) (lS : List UInt8) (cS : Nat) (tS : Int) (hS : Bool) (xT : Option Addr) (lT : List UInt8) (cT : Nat) (tT : Int) (hT : Bool) (ya : Option Addr) (la : List UInt8) (ca : Nat) (yb : Option Addr) (lb : List UInt8) (cb : Nat) (now : Int) (w : World) (m1 : ¬ 200 < (lS.length : Int)) (m2 : ¬ 200 < (lT.length : Int)) (m3 : 200 < (la.length : Int)) : Calls Try.prog 5 #[.agg #[.string nm, .int .u8 kind, .bool out, .int .i64 size, .int .i64 depth, .int .i64 refresh], .agg #[.slice xS lS.length cS, .int .i64 tS, .bool hS], .agg #[.slice xT lT.length cT, .int .i64 tT, .bool hT], .slice ya la.length ca, .slice yb lb.length cb, .int .i64 now] w fun e w' => e = .returned (.bool true) ∧ Below w.heap.size w w' := by
  have hB := Below.refl w.heap.size w
  go_enter Try.func5, Try.ntmps5
  go_wp2_with fail
  refine (awake_any _).mono ?_
  rintro e w1 ⟨rfl, hb⟩
  have hq := thru (al (al (al (Below.refl _ w) _) _) _) hb
  have g1_0 := later (a := ⟨w.heap.size, 0, none⟩) (v := .string nm) hb (by go_simp)
  have g1_1 := later (a := ⟨w.heap.size, 1, none⟩) (v := .int .u8 kind) hb (by go_simp)
  have g1_2 := later (a := ⟨w.heap.size, 2, none⟩) (v := .bool out) hb (by go_simp)
  have g1_3 := later (a := ⟨w.heap.size, 3, none⟩) (v := .int .i64 size) hb (by go_simp)
  have g1_4 := later (a := ⟨w.heap.size, 4, none⟩) (v := .int .i64 depth) hb (by go_simp)
  have g1_5 := later (a := ⟨w.heap.size, 5, none⟩) (v := .int .i64 refresh) hb (by go_simp)
  have g1_6 := later (a := ⟨w.heap.size + 1, 0, none⟩) (v := .slice xS lS.length cS) hb (by go_simp)
  have g1_7 := later (a := ⟨w.heap.size + 1, 1, none⟩) (v := .int .i64 tS) hb (by go_simp)
  have g1_8 := later (a := ⟨w.heap.size + 1, 2, none⟩) (v := .bool hS) hb (by go_simp)
  have g1_9 := later (a := ⟨w.heap.size + 2, 0, none⟩) (v := .slice xT lT.length cT) hb (by go_simp)
  have g1_10 := later (a := ⟨w.heap.size + 2, 1, none⟩) (v := .int .i64 tT) hb (by go_simp)
  have g1_11 := later (a := ⟨w.heap.size + 2, 2, none⟩) (v := .bool hT) hb (by go_simp)
  have z1_0 : w.heap.size < w1.heap.size := (by have := hb.size; simp at this; omega)
  have z1_1 : w.heap.size + 1 < w1.heap.size := (by have := hb.size; simp at this; omega)
  have z1_2 : w.heap.size + 2 < w1.heap.size := (by have := hb.size; simp at this; omega)
  replace hB := thru hB hq
  clear hb hq 
  go_wp2_with fail
  go_ret
  exact ⟨rfl, hB⟩


set_option maxHeartbeats 1000000 in
theorem over_long4 (nm : ByteArray) (kind : Int) (out : Bool) (size depth refresh : Int) (xS : Option Addr) (lS : List UInt8) (cS : Nat) (tS : Int) (hS : Bool) (xT : Option Addr) (lT : List UInt8) (cT : Nat) (tT : Int) (hT : Bool) (ya : Option Addr) (la : List UInt8) (ca : Nat) (yb : Option Addr) (lb : List UInt8) (cb : Nat) (now : Int) (w : World) (m1 : ¬ 200 < (lS.length : Int)) (m2 : ¬ 200 < (lT.length : Int)) (m3 : ¬ 200 < (la.length : Int)) (m4 : 200 < (lb.length : Int)) : Calls Try.prog 5 #[.agg #[.string nm, .int .u8 kind, .bool out, .int .i64 size, .int .i64 depth, .int .i64 refresh], .agg #[.slice xS lS.length cS, .int .i64 tS, .bool hS], .agg #[.slice xT lT.length cT, .int .i64 tT, .bool hT], .slice ya la.length ca, .slice yb lb.length cb, .int .i64 now] w fun e w' => e = .returned (.bool true) ∧ Below w.heap.size w w' := by
  have hB := Below.refl w.heap.size w
  go_enter Try.func5, Try.ntmps5
  go_wp2_with fail
  refine (awake_any _).mono ?_
  rintro e w1 ⟨rfl, hb⟩
  have hq := thru (al (al (al (Below.refl _ w) _) _) _) hb
  have g1_0 := later (a := ⟨w.heap.size, 0, none⟩) (v := .string nm) hb (by go_simp)
  have g1_1 := later (a := ⟨w.heap.size, 1, none⟩) (v := .int .u8 kind) hb (by go_simp)
  have g1_2 := later (a := ⟨w.heap.size, 2, none⟩) (v := .bool out) hb (by go_simp)
  have g1_3 := later (a := ⟨w.heap.size, 3, none⟩) (v := .int .i64 size) hb (by go_simp)
  have g1_4 := later (a := ⟨w.heap.size, 4, none⟩) (v := .int .i64 depth) hb (by go_simp)
  have g1_5 := later (a := ⟨w.heap.size, 5, none⟩) (v := .int .i64 refresh) hb (by go_simp)
  have g1_6 := later (a := ⟨w.heap.size + 1, 0, none⟩) (v := .slice xS lS.length cS) hb (by go_simp)
  have g1_7 := later (a := ⟨w.heap.size + 1, 1, none⟩) (v := .int .i64 tS) hb (by go_simp)
  have g1_8 := later (a := ⟨w.heap.size + 1, 2, none⟩) (v := .bool hS) hb (by go_simp)
  have g1_9 := later (a := ⟨w.heap.size + 2, 0, none⟩) (v := .slice xT lT.length cT) hb (by go_simp)
  have g1_10 := later (a := ⟨w.heap.size + 2, 1, none⟩) (v := .int .i64 tT) hb (by go_simp)
  have g1_11 := later (a := ⟨w.heap.size + 2, 2, none⟩) (v := .bool hT) hb (by go_simp)
  have z1_0 : w.heap.size < w1.heap.size := (by have := hb.size; simp at this; omega)
  have z1_1 : w.heap.size + 1 < w1.heap.size := (by have := hb.size; simp at this; omega)
  have z1_2 : w.heap.size + 2 < w1.heap.size := (by have := hb.size; simp at this; omega)
  replace hB := thru hB hq
  clear hb hq 
  go_wp2_with fail
  go_ret
  exact ⟨rfl, hB⟩


set_option maxHeartbeats 1000000 in
theorem over_no1 (nm : ByteArray) (kind : Int) (out : Bool) (size depth refresh : Int) (xS : Option Addr) (lS : List UInt8) (cS : Nat) (tS : Int) (hS : Bool) (xT : Option Addr) (lT : List UInt8) (cT : Nat) (tT : Int) (hT : Bool) (ya : Option Addr) (la : List UInt8) (ca : Nat) (yb : Option Addr) (lb : List UInt8) (cb : Nat) (now : Int) (w : World) (m1 : ¬ 200 < (lS.length : Int)) (m2 : ¬ 200 < (lT.length : Int)) (m3 : ¬ 200 < (la.length : Int)) (m4 : ¬ 200 < (lb.length : Int)) (yS : Bts w xS lS) (yT : Bts w xT lT) (ya' : Bts w ya la) (yb' : Bts w yb lb) {l1 : List UInt8} {t1 : Int} {h1 : Bool} {k1 : Int} {l2 : List UInt8} {t2 : Int} {h2 : Bool} {k2 : Int} {l3 : List UInt8} {t3 : Int} {h3 : Bool} {k3 : Int}
    (q1 : writeS kind size depth refresh lS tS hS now la = (l1, t1, h1)) (r1 : writeCode kind size depth refresh lS tS hS now la = k1) (q2 : writeS kind size depth refresh l1 t1 h1 now lb = (l2, t2, h2)) (r2 : writeCode kind size depth refresh l1 t1 h1 now lb = k2) (q3 : writeS kind size depth refresh lT tT hT now lb = (l3, t3, h3)) (r3 : writeCode kind size depth refresh lT tT hT now lb = k3) (z1 : l1.length ≤ 100000) (e1 : ¬ k1 = 0) :
    Calls Try.prog 5 #[.agg #[.string nm, .int .u8 kind, .bool out, .int .i64 size, .int .i64 depth, .int .i64 refresh], .agg #[.slice xS lS.length cS, .int .i64 tS, .bool hS], .agg #[.slice xT lT.length cT, .int .i64 tT, .bool hT], .slice ya la.length ca, .slice yb lb.length cb, .int .i64 now] w fun e w' => e = .returned (.bool true) ∧ Below w.heap.size w w' := by
  have hB := Below.refl w.heap.size w
  go_enter Try.func5, Try.ntmps5
  go_wp2_with fail
  refine (write_one _ _ _ _ _ _ _ _ _ _ _ _ _ _ _ _ (yS.later (al (al (al (Below.refl _ w) _) _) _)) (by omega) (ya'.later (al (al (al (Below.refl _ w) _) _) _)) (by omega) q1 r1).mono ?_
  rintro e w1 ⟨x1, c1, rfl, ho, hb⟩
  have yX := ho.bts
  clear ho
  have hq := thru (al (al (al (Below.refl _ w) _) _) _) hb
  have g1_0 := later (a := ⟨w.heap.size, 0, none⟩) (v := .string nm) hb (by go_simp)
  have g1_1 := later (a := ⟨w.heap.size, 1, none⟩) (v := .int .u8 kind) hb (by go_simp)
  have g1_2 := later (a := ⟨w.heap.size, 2, none⟩) (v := .bool out) hb (by go_simp)
  have g1_3 := later (a := ⟨w.heap.size, 3, none⟩) (v := .int .i64 size) hb (by go_simp)
  have g1_4 := later (a := ⟨w.heap.size, 4, none⟩) (v := .int .i64 depth) hb (by go_simp)
  have g1_5 := later (a := ⟨w.heap.size, 5, none⟩) (v := .int .i64 refresh) hb (by go_simp)
  have g1_6 := later (a := ⟨w.heap.size + 1, 0, none⟩) (v := .slice xS lS.length cS) hb (by go_simp)
  have g1_7 := later (a := ⟨w.heap.size + 1, 1, none⟩) (v := .int .i64 tS) hb (by go_simp)
  have g1_8 := later (a := ⟨w.heap.size + 1, 2, none⟩) (v := .bool hS) hb (by go_simp)
  have g1_9 := later (a := ⟨w.heap.size + 2, 0, none⟩) (v := .slice xT lT.length cT) hb (by go_simp)
  have g1_10 := later (a := ⟨w.heap.size + 2, 1, none⟩) (v := .int .i64 tT) hb (by go_simp)
  have g1_11 := later (a := ⟨w.heap.size + 2, 2, none⟩) (v := .bool hT) hb (by go_simp)
  have z1_0 : w.heap.size < w1.heap.size := (by have := hb.size; simp at this; omega)
  have z1_1 : w.heap.size + 1 < w1.heap.size := (by have := hb.size; simp at this; omega)
  have z1_2 : w.heap.size + 2 < w1.heap.size := (by have := hb.size; simp at this; omega)
  replace hB := thru hB hq
  replace yS := yS.later hq
  replace yT := yT.later hq
  replace ya' := ya'.later hq
  replace yb' := yb'.later hq
  clear hb hq 
  go_wp2_with fail
  refine (write_one _ _ _ _ _ _ _ _ _ _ _ _ _ _ _ _ (yX.later (al (Below.refl _ w1) _)) (by omega) (yb'.later (al (Below.refl _ w1) _)) (by omega) q2 r2).mono ?_
  rintro e w2 ⟨x2, c2, rfl, ho, hb⟩
  have yY := ho.bts
  clear ho
  have hq := thru (al (Below.refl _ w1) _) hb
  have g2_0 := later hq g1_0
  have g2_1 := later hq g1_1
  have g2_2 := later hq g1_2
  have g2_3 := later hq g1_3
  have g2_4 := later hq g1_4
  have g2_5 := later hq g1_5
  have g2_6 := later hq g1_6
  have g2_7 := later hq g1_7
  have g2_8 := later hq g1_8
  have g2_9 := later hq g1_9
  have g2_10 := later hq g1_10
  have g2_11 := later hq g1_11
  have g2_12 := later (a := ⟨w1.heap.size, 0, none⟩) (v := .slice x1 l1.length c1) hb (by go_simp)
  have g2_13 := later (a := ⟨w1.heap.size, 1, none⟩) (v := .int .i64 t1) hb (by go_simp)
  have g2_14 := later (a := ⟨w1.heap.size, 2, none⟩) (v := .bool h1) hb (by go_simp)
  have z2_0 : w.heap.size < w2.heap.size := Nat.lt_of_lt_of_le z1_0 hq.size
  have z2_1 : w.heap.size + 1 < w2.heap.size := Nat.lt_of_lt_of_le z1_1 hq.size
  have z2_2 : w.heap.size + 2 < w2.heap.size := Nat.lt_of_lt_of_le z1_2 hq.size
  have z2_3 : w1.heap.size < w2.heap.size := (by have := hb.size; simp at this; omega)
  replace hB := thru hB hq
  replace yS := yS.later hq
  replace yT := yT.later hq
  replace ya' := ya'.later hq
  replace yb' := yb'.later hq
  replace yX := yX.later hq
  clear hb hq g1_0 g1_1 g1_2 g1_3 g1_4 g1_5 g1_6 g1_7 g1_8 g1_9 g1_10 g1_11 z1_0 z1_1 z1_2
  go_wp2_with fail
  refine (write_one _ _ _ _ _ _ _ _ _ _ _ _ _ _ _ _ (yT.later (al (Below.refl _ w2) _)) (by omega) (yb'.later (al (Below.refl _ w2) _)) (by omega) q3 r3).mono ?_
  rintro e w3 ⟨x3, c3, rfl, ho, hb⟩
  have yZ := ho.bts
  clear ho
  have hq := thru (al (Below.refl _ w2) _) hb
  have g3_0 := later hq g2_0
  have g3_1 := later hq g2_1
  have g3_2 := later hq g2_2
  have g3_3 := later hq g2_3
  have g3_4 := later hq g2_4
  have g3_5 := later hq g2_5
  have g3_6 := later hq g2_6
  have g3_7 := later hq g2_7
  have g3_8 := later hq g2_8
  have g3_9 := later hq g2_9
  have g3_10 := later hq g2_10
  have g3_11 := later hq g2_11
  have g3_12 := later hq g2_12
  have g3_13 := later hq g2_13
  have g3_14 := later hq g2_14
  have g3_15 := later (a := ⟨w2.heap.size, 0, none⟩) (v := .slice x2 l2.length c2) hb (by go_simp)
  have g3_16 := later (a := ⟨w2.heap.size, 1, none⟩) (v := .int .i64 t2) hb (by go_simp)
  have g3_17 := later (a := ⟨w2.heap.size, 2, none⟩) (v := .bool h2) hb (by go_simp)
  have z3_0 : w.heap.size < w3.heap.size := Nat.lt_of_lt_of_le z2_0 hq.size
  have z3_1 : w.heap.size + 1 < w3.heap.size := Nat.lt_of_lt_of_le z2_1 hq.size
  have z3_2 : w.heap.size + 2 < w3.heap.size := Nat.lt_of_lt_of_le z2_2 hq.size
  have z3_3 : w1.heap.size < w3.heap.size := Nat.lt_of_lt_of_le z2_3 hq.size
  have z3_4 : w2.heap.size < w3.heap.size := (by have := hb.size; simp at this; omega)
  replace hB := thru hB hq
  replace yS := yS.later hq
  replace yT := yT.later hq
  replace ya' := ya'.later hq
  replace yb' := yb'.later hq
  replace yX := yX.later hq
  replace yY := yY.later hq
  clear hb hq g2_0 g2_1 g2_2 g2_3 g2_4 g2_5 g2_6 g2_7 g2_8 g2_9 g2_10 g2_11 g2_12 g2_13 g2_14 z2_0 z2_1 z2_2 z2_3
  go_wp2_with fail
  refine (awake_any _).mono ?_
  rintro e w4 ⟨rfl, hb⟩
  have hq := thru (al (Below.refl _ w3) _) hb
  have g4_0 := later hq g3_0
  have g4_1 := later hq g3_1
  have g4_2 := later hq g3_2
  have g4_3 := later hq g3_3
  have g4_4 := later hq g3_4
  have g4_5 := later hq g3_5
  have g4_6 := later hq g3_6
  have g4_7 := later hq g3_7
  have g4_8 := later hq g3_8
  have g4_9 := later hq g3_9
  have g4_10 := later hq g3_10
  have g4_11 := later hq g3_11
  have g4_12 := later hq g3_12
  have g4_13 := later hq g3_13
  have g4_14 := later hq g3_14
  have g4_15 := later hq g3_15
  have g4_16 := later hq g3_16
  have g4_17 := later hq g3_17
  have g4_18 := later (a := ⟨w3.heap.size, 0, none⟩) (v := .slice x3 l3.length c3) hb (by go_simp)
  have g4_19 := later (a := ⟨w3.heap.size, 1, none⟩) (v := .int .i64 t3) hb (by go_simp)
  have g4_20 := later (a := ⟨w3.heap.size, 2, none⟩) (v := .bool h3) hb (by go_simp)
  have z4_0 : w.heap.size < w4.heap.size := Nat.lt_of_lt_of_le z3_0 hq.size
  have z4_1 : w.heap.size + 1 < w4.heap.size := Nat.lt_of_lt_of_le z3_1 hq.size
  have z4_2 : w.heap.size + 2 < w4.heap.size := Nat.lt_of_lt_of_le z3_2 hq.size
  have z4_3 : w1.heap.size < w4.heap.size := Nat.lt_of_lt_of_le z3_3 hq.size
  have z4_4 : w2.heap.size < w4.heap.size := Nat.lt_of_lt_of_le z3_4 hq.size
  have z4_5 : w3.heap.size < w4.heap.size := (by have := hb.size; simp at this; omega)
  replace hB := thru hB hq
  replace yS := yS.later hq
  replace yT := yT.later hq
  replace ya' := ya'.later hq
  replace yb' := yb'.later hq
  replace yX := yX.later hq
  replace yY := yY.later hq
  replace yZ := yZ.later hq
  clear hb hq g3_0 g3_1 g3_2 g3_3 g3_4 g3_5 g3_6 g3_7 g3_8 g3_9 g3_10 g3_11 g3_12 g3_13 g3_14 g3_15 g3_16 g3_17 z3_0 z3_1 z3_2 z3_3 z3_4
  go_wp2_with fail
  go_ret
  exact ⟨rfl, hB⟩


set_option maxHeartbeats 1000000 in
theorem over_no2 (nm : ByteArray) (kind : Int) (out : Bool) (size depth refresh : Int) (xS : Option Addr) (lS : List UInt8) (cS : Nat) (tS : Int) (hS : Bool) (xT : Option Addr) (lT : List UInt8) (cT : Nat) (tT : Int) (hT : Bool) (ya : Option Addr) (la : List UInt8) (ca : Nat) (yb : Option Addr) (lb : List UInt8) (cb : Nat) (now : Int) (w : World) (m1 : ¬ 200 < (lS.length : Int)) (m2 : ¬ 200 < (lT.length : Int)) (m3 : ¬ 200 < (la.length : Int)) (m4 : ¬ 200 < (lb.length : Int)) (yS : Bts w xS lS) (yT : Bts w xT lT) (ya' : Bts w ya la) (yb' : Bts w yb lb) {l1 : List UInt8} {t1 : Int} {h1 : Bool} {k1 : Int} {l2 : List UInt8} {t2 : Int} {h2 : Bool} {k2 : Int} {l3 : List UInt8} {t3 : Int} {h3 : Bool} {k3 : Int}
    (q1 : writeS kind size depth refresh lS tS hS now la = (l1, t1, h1)) (r1 : writeCode kind size depth refresh lS tS hS now la = k1) (q2 : writeS kind size depth refresh l1 t1 h1 now lb = (l2, t2, h2)) (r2 : writeCode kind size depth refresh l1 t1 h1 now lb = k2) (q3 : writeS kind size depth refresh lT tT hT now lb = (l3, t3, h3)) (r3 : writeCode kind size depth refresh lT tT hT now lb = k3) (z1 : l1.length ≤ 100000) (e1 : k1 = 0) (e2 : ¬ k2 = 0) :
    Calls Try.prog 5 #[.agg #[.string nm, .int .u8 kind, .bool out, .int .i64 size, .int .i64 depth, .int .i64 refresh], .agg #[.slice xS lS.length cS, .int .i64 tS, .bool hS], .agg #[.slice xT lT.length cT, .int .i64 tT, .bool hT], .slice ya la.length ca, .slice yb lb.length cb, .int .i64 now] w fun e w' => e = .returned (.bool true) ∧ Below w.heap.size w w' := by
  have hB := Below.refl w.heap.size w
  go_enter Try.func5, Try.ntmps5
  go_wp2_with fail
  refine (write_one _ _ _ _ _ _ _ _ _ _ _ _ _ _ _ _ (yS.later (al (al (al (Below.refl _ w) _) _) _)) (by omega) (ya'.later (al (al (al (Below.refl _ w) _) _) _)) (by omega) q1 r1).mono ?_
  rintro e w1 ⟨x1, c1, rfl, ho, hb⟩
  have yX := ho.bts
  clear ho
  have hq := thru (al (al (al (Below.refl _ w) _) _) _) hb
  have g1_0 := later (a := ⟨w.heap.size, 0, none⟩) (v := .string nm) hb (by go_simp)
  have g1_1 := later (a := ⟨w.heap.size, 1, none⟩) (v := .int .u8 kind) hb (by go_simp)
  have g1_2 := later (a := ⟨w.heap.size, 2, none⟩) (v := .bool out) hb (by go_simp)
  have g1_3 := later (a := ⟨w.heap.size, 3, none⟩) (v := .int .i64 size) hb (by go_simp)
  have g1_4 := later (a := ⟨w.heap.size, 4, none⟩) (v := .int .i64 depth) hb (by go_simp)
  have g1_5 := later (a := ⟨w.heap.size, 5, none⟩) (v := .int .i64 refresh) hb (by go_simp)
  have g1_6 := later (a := ⟨w.heap.size + 1, 0, none⟩) (v := .slice xS lS.length cS) hb (by go_simp)
  have g1_7 := later (a := ⟨w.heap.size + 1, 1, none⟩) (v := .int .i64 tS) hb (by go_simp)
  have g1_8 := later (a := ⟨w.heap.size + 1, 2, none⟩) (v := .bool hS) hb (by go_simp)
  have g1_9 := later (a := ⟨w.heap.size + 2, 0, none⟩) (v := .slice xT lT.length cT) hb (by go_simp)
  have g1_10 := later (a := ⟨w.heap.size + 2, 1, none⟩) (v := .int .i64 tT) hb (by go_simp)
  have g1_11 := later (a := ⟨w.heap.size + 2, 2, none⟩) (v := .bool hT) hb (by go_simp)
  have z1_0 : w.heap.size < w1.heap.size := (by have := hb.size; simp at this; omega)
  have z1_1 : w.heap.size + 1 < w1.heap.size := (by have := hb.size; simp at this; omega)
  have z1_2 : w.heap.size + 2 < w1.heap.size := (by have := hb.size; simp at this; omega)
  replace hB := thru hB hq
  replace yS := yS.later hq
  replace yT := yT.later hq
  replace ya' := ya'.later hq
  replace yb' := yb'.later hq
  clear hb hq 
  go_wp2_with fail
  refine (write_one _ _ _ _ _ _ _ _ _ _ _ _ _ _ _ _ (yX.later (al (Below.refl _ w1) _)) (by omega) (yb'.later (al (Below.refl _ w1) _)) (by omega) q2 r2).mono ?_
  rintro e w2 ⟨x2, c2, rfl, ho, hb⟩
  have yY := ho.bts
  clear ho
  have hq := thru (al (Below.refl _ w1) _) hb
  have g2_0 := later hq g1_0
  have g2_1 := later hq g1_1
  have g2_2 := later hq g1_2
  have g2_3 := later hq g1_3
  have g2_4 := later hq g1_4
  have g2_5 := later hq g1_5
  have g2_6 := later hq g1_6
  have g2_7 := later hq g1_7
  have g2_8 := later hq g1_8
  have g2_9 := later hq g1_9
  have g2_10 := later hq g1_10
  have g2_11 := later hq g1_11
  have g2_12 := later (a := ⟨w1.heap.size, 0, none⟩) (v := .slice x1 l1.length c1) hb (by go_simp)
  have g2_13 := later (a := ⟨w1.heap.size, 1, none⟩) (v := .int .i64 t1) hb (by go_simp)
  have g2_14 := later (a := ⟨w1.heap.size, 2, none⟩) (v := .bool h1) hb (by go_simp)
  have z2_0 : w.heap.size < w2.heap.size := Nat.lt_of_lt_of_le z1_0 hq.size
  have z2_1 : w.heap.size + 1 < w2.heap.size := Nat.lt_of_lt_of_le z1_1 hq.size
  have z2_2 : w.heap.size + 2 < w2.heap.size := Nat.lt_of_lt_of_le z1_2 hq.size
  have z2_3 : w1.heap.size < w2.heap.size := (by have := hb.size; simp at this; omega)
  replace hB := thru hB hq
  replace yS := yS.later hq
  replace yT := yT.later hq
  replace ya' := ya'.later hq
  replace yb' := yb'.later hq
  replace yX := yX.later hq
  clear hb hq g1_0 g1_1 g1_2 g1_3 g1_4 g1_5 g1_6 g1_7 g1_8 g1_9 g1_10 g1_11 z1_0 z1_1 z1_2
  go_wp2_with fail
  refine (write_one _ _ _ _ _ _ _ _ _ _ _ _ _ _ _ _ (yT.later (al (Below.refl _ w2) _)) (by omega) (yb'.later (al (Below.refl _ w2) _)) (by omega) q3 r3).mono ?_
  rintro e w3 ⟨x3, c3, rfl, ho, hb⟩
  have yZ := ho.bts
  clear ho
  have hq := thru (al (Below.refl _ w2) _) hb
  have g3_0 := later hq g2_0
  have g3_1 := later hq g2_1
  have g3_2 := later hq g2_2
  have g3_3 := later hq g2_3
  have g3_4 := later hq g2_4
  have g3_5 := later hq g2_5
  have g3_6 := later hq g2_6
  have g3_7 := later hq g2_7
  have g3_8 := later hq g2_8
  have g3_9 := later hq g2_9
  have g3_10 := later hq g2_10
  have g3_11 := later hq g2_11
  have g3_12 := later hq g2_12
  have g3_13 := later hq g2_13
  have g3_14 := later hq g2_14
  have g3_15 := later (a := ⟨w2.heap.size, 0, none⟩) (v := .slice x2 l2.length c2) hb (by go_simp)
  have g3_16 := later (a := ⟨w2.heap.size, 1, none⟩) (v := .int .i64 t2) hb (by go_simp)
  have g3_17 := later (a := ⟨w2.heap.size, 2, none⟩) (v := .bool h2) hb (by go_simp)
  have z3_0 : w.heap.size < w3.heap.size := Nat.lt_of_lt_of_le z2_0 hq.size
  have z3_1 : w.heap.size + 1 < w3.heap.size := Nat.lt_of_lt_of_le z2_1 hq.size
  have z3_2 : w.heap.size + 2 < w3.heap.size := Nat.lt_of_lt_of_le z2_2 hq.size
  have z3_3 : w1.heap.size < w3.heap.size := Nat.lt_of_lt_of_le z2_3 hq.size
  have z3_4 : w2.heap.size < w3.heap.size := (by have := hb.size; simp at this; omega)
  replace hB := thru hB hq
  replace yS := yS.later hq
  replace yT := yT.later hq
  replace ya' := ya'.later hq
  replace yb' := yb'.later hq
  replace yX := yX.later hq
  replace yY := yY.later hq
  clear hb hq g2_0 g2_1 g2_2 g2_3 g2_4 g2_5 g2_6 g2_7 g2_8 g2_9 g2_10 g2_11 g2_12 g2_13 g2_14 z2_0 z2_1 z2_2 z2_3
  subst e1
  go_wp2_with fail
  refine (awake_any _).mono ?_
  rintro e w4 ⟨rfl, hb⟩
  have hq := thru (al (Below.refl _ w3) _) hb
  have g4_0 := later hq g3_0
  have g4_1 := later hq g3_1
  have g4_2 := later hq g3_2
  have g4_3 := later hq g3_3
  have g4_4 := later hq g3_4
  have g4_5 := later hq g3_5
  have g4_6 := later hq g3_6
  have g4_7 := later hq g3_7
  have g4_8 := later hq g3_8
  have g4_9 := later hq g3_9
  have g4_10 := later hq g3_10
  have g4_11 := later hq g3_11
  have g4_12 := later hq g3_12
  have g4_13 := later hq g3_13
  have g4_14 := later hq g3_14
  have g4_15 := later hq g3_15
  have g4_16 := later hq g3_16
  have g4_17 := later hq g3_17
  have g4_18 := later (a := ⟨w3.heap.size, 0, none⟩) (v := .slice x3 l3.length c3) hb (by go_simp)
  have g4_19 := later (a := ⟨w3.heap.size, 1, none⟩) (v := .int .i64 t3) hb (by go_simp)
  have g4_20 := later (a := ⟨w3.heap.size, 2, none⟩) (v := .bool h3) hb (by go_simp)
  have z4_0 : w.heap.size < w4.heap.size := Nat.lt_of_lt_of_le z3_0 hq.size
  have z4_1 : w.heap.size + 1 < w4.heap.size := Nat.lt_of_lt_of_le z3_1 hq.size
  have z4_2 : w.heap.size + 2 < w4.heap.size := Nat.lt_of_lt_of_le z3_2 hq.size
  have z4_3 : w1.heap.size < w4.heap.size := Nat.lt_of_lt_of_le z3_3 hq.size
  have z4_4 : w2.heap.size < w4.heap.size := Nat.lt_of_lt_of_le z3_4 hq.size
  have z4_5 : w3.heap.size < w4.heap.size := (by have := hb.size; simp at this; omega)
  replace hB := thru hB hq
  replace yS := yS.later hq
  replace yT := yT.later hq
  replace ya' := ya'.later hq
  replace yb' := yb'.later hq
  replace yX := yX.later hq
  replace yY := yY.later hq
  replace yZ := yZ.later hq
  clear hb hq g3_0 g3_1 g3_2 g3_3 g3_4 g3_5 g3_6 g3_7 g3_8 g3_9 g3_10 g3_11 g3_12 g3_13 g3_14 g3_15 g3_16 g3_17 z3_0 z3_1 z3_2 z3_3 z3_4
  go_wp2_with fail
  go_ret
  exact ⟨rfl, hB⟩


set_option maxHeartbeats 1000000 in
theorem over_no3 (nm : ByteArray) (kind : Int) (out : Bool) (size depth refresh : Int) (xS : Option Addr) (lS : List UInt8) (cS : Nat) (tS : Int) (hS : Bool) (xT : Option Addr) (lT : List UInt8) (cT : Nat) (tT : Int) (hT : Bool) (ya : Option Addr) (la : List UInt8) (ca : Nat) (yb : Option Addr) (lb : List UInt8) (cb : Nat) (now : Int) (w : World) (m1 : ¬ 200 < (lS.length : Int)) (m2 : ¬ 200 < (lT.length : Int)) (m3 : ¬ 200 < (la.length : Int)) (m4 : ¬ 200 < (lb.length : Int)) (yS : Bts w xS lS) (yT : Bts w xT lT) (ya' : Bts w ya la) (yb' : Bts w yb lb) {l1 : List UInt8} {t1 : Int} {h1 : Bool} {k1 : Int} {l2 : List UInt8} {t2 : Int} {h2 : Bool} {k2 : Int} {l3 : List UInt8} {t3 : Int} {h3 : Bool} {k3 : Int}
    (q1 : writeS kind size depth refresh lS tS hS now la = (l1, t1, h1)) (r1 : writeCode kind size depth refresh lS tS hS now la = k1) (q2 : writeS kind size depth refresh l1 t1 h1 now lb = (l2, t2, h2)) (r2 : writeCode kind size depth refresh l1 t1 h1 now lb = k2) (q3 : writeS kind size depth refresh lT tT hT now lb = (l3, t3, h3)) (r3 : writeCode kind size depth refresh lT tT hT now lb = k3) (z1 : l1.length ≤ 100000) (e1 : k1 = 0) (e2 : k2 = 0) (e3 : ¬ k3 = 0) :
    Calls Try.prog 5 #[.agg #[.string nm, .int .u8 kind, .bool out, .int .i64 size, .int .i64 depth, .int .i64 refresh], .agg #[.slice xS lS.length cS, .int .i64 tS, .bool hS], .agg #[.slice xT lT.length cT, .int .i64 tT, .bool hT], .slice ya la.length ca, .slice yb lb.length cb, .int .i64 now] w fun e w' => e = .returned (.bool true) ∧ Below w.heap.size w w' := by
  have hB := Below.refl w.heap.size w
  go_enter Try.func5, Try.ntmps5
  go_wp2_with fail
  refine (write_one _ _ _ _ _ _ _ _ _ _ _ _ _ _ _ _ (yS.later (al (al (al (Below.refl _ w) _) _) _)) (by omega) (ya'.later (al (al (al (Below.refl _ w) _) _) _)) (by omega) q1 r1).mono ?_
  rintro e w1 ⟨x1, c1, rfl, ho, hb⟩
  have yX := ho.bts
  clear ho
  have hq := thru (al (al (al (Below.refl _ w) _) _) _) hb
  have g1_0 := later (a := ⟨w.heap.size, 0, none⟩) (v := .string nm) hb (by go_simp)
  have g1_1 := later (a := ⟨w.heap.size, 1, none⟩) (v := .int .u8 kind) hb (by go_simp)
  have g1_2 := later (a := ⟨w.heap.size, 2, none⟩) (v := .bool out) hb (by go_simp)
  have g1_3 := later (a := ⟨w.heap.size, 3, none⟩) (v := .int .i64 size) hb (by go_simp)
  have g1_4 := later (a := ⟨w.heap.size, 4, none⟩) (v := .int .i64 depth) hb (by go_simp)
  have g1_5 := later (a := ⟨w.heap.size, 5, none⟩) (v := .int .i64 refresh) hb (by go_simp)
  have g1_6 := later (a := ⟨w.heap.size + 1, 0, none⟩) (v := .slice xS lS.length cS) hb (by go_simp)
  have g1_7 := later (a := ⟨w.heap.size + 1, 1, none⟩) (v := .int .i64 tS) hb (by go_simp)
  have g1_8 := later (a := ⟨w.heap.size + 1, 2, none⟩) (v := .bool hS) hb (by go_simp)
  have g1_9 := later (a := ⟨w.heap.size + 2, 0, none⟩) (v := .slice xT lT.length cT) hb (by go_simp)
  have g1_10 := later (a := ⟨w.heap.size + 2, 1, none⟩) (v := .int .i64 tT) hb (by go_simp)
  have g1_11 := later (a := ⟨w.heap.size + 2, 2, none⟩) (v := .bool hT) hb (by go_simp)
  have z1_0 : w.heap.size < w1.heap.size := (by have := hb.size; simp at this; omega)
  have z1_1 : w.heap.size + 1 < w1.heap.size := (by have := hb.size; simp at this; omega)
  have z1_2 : w.heap.size + 2 < w1.heap.size := (by have := hb.size; simp at this; omega)
  replace hB := thru hB hq
  replace yS := yS.later hq
  replace yT := yT.later hq
  replace ya' := ya'.later hq
  replace yb' := yb'.later hq
  clear hb hq 
  go_wp2_with fail
  refine (write_one _ _ _ _ _ _ _ _ _ _ _ _ _ _ _ _ (yX.later (al (Below.refl _ w1) _)) (by omega) (yb'.later (al (Below.refl _ w1) _)) (by omega) q2 r2).mono ?_
  rintro e w2 ⟨x2, c2, rfl, ho, hb⟩
  have yY := ho.bts
  clear ho
  have hq := thru (al (Below.refl _ w1) _) hb
  have g2_0 := later hq g1_0
  have g2_1 := later hq g1_1
  have g2_2 := later hq g1_2
  have g2_3 := later hq g1_3
  have g2_4 := later hq g1_4
  have g2_5 := later hq g1_5
  have g2_6 := later hq g1_6
  have g2_7 := later hq g1_7
  have g2_8 := later hq g1_8
  have g2_9 := later hq g1_9
  have g2_10 := later hq g1_10
  have g2_11 := later hq g1_11
  have g2_12 := later (a := ⟨w1.heap.size, 0, none⟩) (v := .slice x1 l1.length c1) hb (by go_simp)
  have g2_13 := later (a := ⟨w1.heap.size, 1, none⟩) (v := .int .i64 t1) hb (by go_simp)
  have g2_14 := later (a := ⟨w1.heap.size, 2, none⟩) (v := .bool h1) hb (by go_simp)
  have z2_0 : w.heap.size < w2.heap.size := Nat.lt_of_lt_of_le z1_0 hq.size
  have z2_1 : w.heap.size + 1 < w2.heap.size := Nat.lt_of_lt_of_le z1_1 hq.size
  have z2_2 : w.heap.size + 2 < w2.heap.size := Nat.lt_of_lt_of_le z1_2 hq.size
  have z2_3 : w1.heap.size < w2.heap.size := (by have := hb.size; simp at this; omega)
  replace hB := thru hB hq
  replace yS := yS.later hq
  replace yT := yT.later hq
  replace ya' := ya'.later hq
  replace yb' := yb'.later hq
  replace yX := yX.later hq
  clear hb hq g1_0 g1_1 g1_2 g1_3 g1_4 g1_5 g1_6 g1_7 g1_8 g1_9 g1_10 g1_11 z1_0 z1_1 z1_2
  go_wp2_with fail
  refine (write_one _ _ _ _ _ _ _ _ _ _ _ _ _ _ _ _ (yT.later (al (Below.refl _ w2) _)) (by omega) (yb'.later (al (Below.refl _ w2) _)) (by omega) q3 r3).mono ?_
  rintro e w3 ⟨x3, c3, rfl, ho, hb⟩
  have yZ := ho.bts
  clear ho
  have hq := thru (al (Below.refl _ w2) _) hb
  have g3_0 := later hq g2_0
  have g3_1 := later hq g2_1
  have g3_2 := later hq g2_2
  have g3_3 := later hq g2_3
  have g3_4 := later hq g2_4
  have g3_5 := later hq g2_5
  have g3_6 := later hq g2_6
  have g3_7 := later hq g2_7
  have g3_8 := later hq g2_8
  have g3_9 := later hq g2_9
  have g3_10 := later hq g2_10
  have g3_11 := later hq g2_11
  have g3_12 := later hq g2_12
  have g3_13 := later hq g2_13
  have g3_14 := later hq g2_14
  have g3_15 := later (a := ⟨w2.heap.size, 0, none⟩) (v := .slice x2 l2.length c2) hb (by go_simp)
  have g3_16 := later (a := ⟨w2.heap.size, 1, none⟩) (v := .int .i64 t2) hb (by go_simp)
  have g3_17 := later (a := ⟨w2.heap.size, 2, none⟩) (v := .bool h2) hb (by go_simp)
  have z3_0 : w.heap.size < w3.heap.size := Nat.lt_of_lt_of_le z2_0 hq.size
  have z3_1 : w.heap.size + 1 < w3.heap.size := Nat.lt_of_lt_of_le z2_1 hq.size
  have z3_2 : w.heap.size + 2 < w3.heap.size := Nat.lt_of_lt_of_le z2_2 hq.size
  have z3_3 : w1.heap.size < w3.heap.size := Nat.lt_of_lt_of_le z2_3 hq.size
  have z3_4 : w2.heap.size < w3.heap.size := (by have := hb.size; simp at this; omega)
  replace hB := thru hB hq
  replace yS := yS.later hq
  replace yT := yT.later hq
  replace ya' := ya'.later hq
  replace yb' := yb'.later hq
  replace yX := yX.later hq
  replace yY := yY.later hq
  clear hb hq g2_0 g2_1 g2_2 g2_3 g2_4 g2_5 g2_6 g2_7 g2_8 g2_9 g2_10 g2_11 g2_12 g2_13 g2_14 z2_0 z2_1 z2_2 z2_3
  subst e1
  subst e2
  go_wp2_with fail
  refine (awake_any _).mono ?_
  rintro e w4 ⟨rfl, hb⟩
  have hq := thru (al (Below.refl _ w3) _) hb
  have g4_0 := later hq g3_0
  have g4_1 := later hq g3_1
  have g4_2 := later hq g3_2
  have g4_3 := later hq g3_3
  have g4_4 := later hq g3_4
  have g4_5 := later hq g3_5
  have g4_6 := later hq g3_6
  have g4_7 := later hq g3_7
  have g4_8 := later hq g3_8
  have g4_9 := later hq g3_9
  have g4_10 := later hq g3_10
  have g4_11 := later hq g3_11
  have g4_12 := later hq g3_12
  have g4_13 := later hq g3_13
  have g4_14 := later hq g3_14
  have g4_15 := later hq g3_15
  have g4_16 := later hq g3_16
  have g4_17 := later hq g3_17
  have g4_18 := later (a := ⟨w3.heap.size, 0, none⟩) (v := .slice x3 l3.length c3) hb (by go_simp)
  have g4_19 := later (a := ⟨w3.heap.size, 1, none⟩) (v := .int .i64 t3) hb (by go_simp)
  have g4_20 := later (a := ⟨w3.heap.size, 2, none⟩) (v := .bool h3) hb (by go_simp)
  have z4_0 : w.heap.size < w4.heap.size := Nat.lt_of_lt_of_le z3_0 hq.size
  have z4_1 : w.heap.size + 1 < w4.heap.size := Nat.lt_of_lt_of_le z3_1 hq.size
  have z4_2 : w.heap.size + 2 < w4.heap.size := Nat.lt_of_lt_of_le z3_2 hq.size
  have z4_3 : w1.heap.size < w4.heap.size := Nat.lt_of_lt_of_le z3_3 hq.size
  have z4_4 : w2.heap.size < w4.heap.size := Nat.lt_of_lt_of_le z3_4 hq.size
  have z4_5 : w3.heap.size < w4.heap.size := (by have := hb.size; simp at this; omega)
  replace hB := thru hB hq
  replace yS := yS.later hq
  replace yT := yT.later hq
  replace ya' := ya'.later hq
  replace yb' := yb'.later hq
  replace yX := yX.later hq
  replace yY := yY.later hq
  replace yZ := yZ.later hq
  clear hb hq g3_0 g3_1 g3_2 g3_3 g3_4 g3_5 g3_6 g3_7 g3_8 g3_9 g3_10 g3_11 g3_12 g3_13 g3_14 g3_15 g3_16 g3_17 z3_0 z3_1 z3_2 z3_3 z3_4
  go_wp2_with fail
  go_ret
  exact ⟨rfl, hB⟩


theorem writeS_ok {kind size depth refresh : Int} {l : List UInt8} {at_ : Int} {has : Bool} {now : Int} {d : List UInt8} {r : List UInt8 × Int × Bool} (hs : writeS kind size depth refresh l at_ has now d = r) (hk : writeCode kind size depth refresh l at_ has now d = 0) : (d, now, true) = r := by
  unfold writeS at hs; rw [if_pos hk] at hs; exact hs

set_option maxHeartbeats 1000000 in
theorem over_yes (nm : ByteArray) (kind : Int) (out : Bool) (size depth refresh : Int) (xS : Option Addr) (lS : List UInt8) (cS : Nat) (tS : Int) (hS : Bool) (xT : Option Addr) (lT : List UInt8) (cT : Nat) (tT : Int) (hT : Bool) (ya : Option Addr) (la : List UInt8) (ca : Nat) (yb : Option Addr) (lb : List UInt8) (cb : Nat) (now : Int) (w : World) (m1 : ¬ 200 < (lS.length : Int)) (m2 : ¬ 200 < (lT.length : Int)) (m3 : ¬ 200 < (la.length : Int)) (m4 : ¬ 200 < (lb.length : Int)) (yS : Bts w xS lS) (yT : Bts w xT lT) (ya' : Bts w ya la) (yb' : Bts w yb lb) {l1 : List UInt8} {t1 : Int} {h1 : Bool} {k1 : Int} {l2 : List UInt8} {t2 : Int} {h2 : Bool} {k2 : Int} {l3 : List UInt8} {t3 : Int} {h3 : Bool} {k3 : Int}
    (q1 : writeS kind size depth refresh lS tS hS now la = (l1, t1, h1)) (r1 : writeCode kind size depth refresh lS tS hS now la = k1) (q2 : writeS kind size depth refresh l1 t1 h1 now lb = (l2, t2, h2)) (r2 : writeCode kind size depth refresh l1 t1 h1 now lb = k2) (q3 : writeS kind size depth refresh lT tT hT now lb = (l3, t3, h3)) (r3 : writeCode kind size depth refresh lT tT hT now lb = k3) (z1 : l1.length ≤ 100000) (e1 : k1 = 0) (e2 : k2 = 0) (e3 : k3 = 0) :
    Calls Try.prog 5 #[.agg #[.string nm, .int .u8 kind, .bool out, .int .i64 size, .int .i64 depth, .int .i64 refresh], .agg #[.slice xS lS.length cS, .int .i64 tS, .bool hS], .agg #[.slice xT lT.length cT, .int .i64 tT, .bool hT], .slice ya la.length ca, .slice yb lb.length cb, .int .i64 now] w fun e w' => e = .returned (.bool true) ∧ Below w.heap.size w w' := by
  have hB := Below.refl w.heap.size w
  go_enter Try.func5, Try.ntmps5
  go_wp2_with fail
  refine (write_one _ _ _ _ _ _ _ _ _ _ _ _ _ _ _ _ (yS.later (al (al (al (Below.refl _ w) _) _) _)) (by omega) (ya'.later (al (al (al (Below.refl _ w) _) _) _)) (by omega) q1 r1).mono ?_
  rintro e w1 ⟨x1, c1, rfl, ho, hb⟩
  have yX := ho.bts
  clear ho
  have hq := thru (al (al (al (Below.refl _ w) _) _) _) hb
  have g1_0 := later (a := ⟨w.heap.size, 0, none⟩) (v := .string nm) hb (by go_simp)
  have g1_1 := later (a := ⟨w.heap.size, 1, none⟩) (v := .int .u8 kind) hb (by go_simp)
  have g1_2 := later (a := ⟨w.heap.size, 2, none⟩) (v := .bool out) hb (by go_simp)
  have g1_3 := later (a := ⟨w.heap.size, 3, none⟩) (v := .int .i64 size) hb (by go_simp)
  have g1_4 := later (a := ⟨w.heap.size, 4, none⟩) (v := .int .i64 depth) hb (by go_simp)
  have g1_5 := later (a := ⟨w.heap.size, 5, none⟩) (v := .int .i64 refresh) hb (by go_simp)
  have g1_6 := later (a := ⟨w.heap.size + 1, 0, none⟩) (v := .slice xS lS.length cS) hb (by go_simp)
  have g1_7 := later (a := ⟨w.heap.size + 1, 1, none⟩) (v := .int .i64 tS) hb (by go_simp)
  have g1_8 := later (a := ⟨w.heap.size + 1, 2, none⟩) (v := .bool hS) hb (by go_simp)
  have g1_9 := later (a := ⟨w.heap.size + 2, 0, none⟩) (v := .slice xT lT.length cT) hb (by go_simp)
  have g1_10 := later (a := ⟨w.heap.size + 2, 1, none⟩) (v := .int .i64 tT) hb (by go_simp)
  have g1_11 := later (a := ⟨w.heap.size + 2, 2, none⟩) (v := .bool hT) hb (by go_simp)
  have z1_0 : w.heap.size < w1.heap.size := (by have := hb.size; simp at this; omega)
  have z1_1 : w.heap.size + 1 < w1.heap.size := (by have := hb.size; simp at this; omega)
  have z1_2 : w.heap.size + 2 < w1.heap.size := (by have := hb.size; simp at this; omega)
  replace hB := thru hB hq
  replace yS := yS.later hq
  replace yT := yT.later hq
  replace ya' := ya'.later hq
  replace yb' := yb'.later hq
  clear hb hq 
  go_wp2_with fail
  refine (write_one _ _ _ _ _ _ _ _ _ _ _ _ _ _ _ _ (yX.later (al (Below.refl _ w1) _)) (by omega) (yb'.later (al (Below.refl _ w1) _)) (by omega) q2 r2).mono ?_
  rintro e w2 ⟨x2, c2, rfl, ho, hb⟩
  have yY := ho.bts
  clear ho
  have hq := thru (al (Below.refl _ w1) _) hb
  have g2_0 := later hq g1_0
  have g2_1 := later hq g1_1
  have g2_2 := later hq g1_2
  have g2_3 := later hq g1_3
  have g2_4 := later hq g1_4
  have g2_5 := later hq g1_5
  have g2_6 := later hq g1_6
  have g2_7 := later hq g1_7
  have g2_8 := later hq g1_8
  have g2_9 := later hq g1_9
  have g2_10 := later hq g1_10
  have g2_11 := later hq g1_11
  have g2_12 := later (a := ⟨w1.heap.size, 0, none⟩) (v := .slice x1 l1.length c1) hb (by go_simp)
  have g2_13 := later (a := ⟨w1.heap.size, 1, none⟩) (v := .int .i64 t1) hb (by go_simp)
  have g2_14 := later (a := ⟨w1.heap.size, 2, none⟩) (v := .bool h1) hb (by go_simp)
  have z2_0 : w.heap.size < w2.heap.size := Nat.lt_of_lt_of_le z1_0 hq.size
  have z2_1 : w.heap.size + 1 < w2.heap.size := Nat.lt_of_lt_of_le z1_1 hq.size
  have z2_2 : w.heap.size + 2 < w2.heap.size := Nat.lt_of_lt_of_le z1_2 hq.size
  have z2_3 : w1.heap.size < w2.heap.size := (by have := hb.size; simp at this; omega)
  replace hB := thru hB hq
  replace yS := yS.later hq
  replace yT := yT.later hq
  replace ya' := ya'.later hq
  replace yb' := yb'.later hq
  replace yX := yX.later hq
  clear hb hq g1_0 g1_1 g1_2 g1_3 g1_4 g1_5 g1_6 g1_7 g1_8 g1_9 g1_10 g1_11 z1_0 z1_1 z1_2
  go_wp2_with fail
  refine (write_one _ _ _ _ _ _ _ _ _ _ _ _ _ _ _ _ (yT.later (al (Below.refl _ w2) _)) (by omega) (yb'.later (al (Below.refl _ w2) _)) (by omega) q3 r3).mono ?_
  rintro e w3 ⟨x3, c3, rfl, ho, hb⟩
  have yZ := ho.bts
  clear ho
  have hq := thru (al (Below.refl _ w2) _) hb
  have g3_0 := later hq g2_0
  have g3_1 := later hq g2_1
  have g3_2 := later hq g2_2
  have g3_3 := later hq g2_3
  have g3_4 := later hq g2_4
  have g3_5 := later hq g2_5
  have g3_6 := later hq g2_6
  have g3_7 := later hq g2_7
  have g3_8 := later hq g2_8
  have g3_9 := later hq g2_9
  have g3_10 := later hq g2_10
  have g3_11 := later hq g2_11
  have g3_12 := later hq g2_12
  have g3_13 := later hq g2_13
  have g3_14 := later hq g2_14
  have g3_15 := later (a := ⟨w2.heap.size, 0, none⟩) (v := .slice x2 l2.length c2) hb (by go_simp)
  have g3_16 := later (a := ⟨w2.heap.size, 1, none⟩) (v := .int .i64 t2) hb (by go_simp)
  have g3_17 := later (a := ⟨w2.heap.size, 2, none⟩) (v := .bool h2) hb (by go_simp)
  have z3_0 : w.heap.size < w3.heap.size := Nat.lt_of_lt_of_le z2_0 hq.size
  have z3_1 : w.heap.size + 1 < w3.heap.size := Nat.lt_of_lt_of_le z2_1 hq.size
  have z3_2 : w.heap.size + 2 < w3.heap.size := Nat.lt_of_lt_of_le z2_2 hq.size
  have z3_3 : w1.heap.size < w3.heap.size := Nat.lt_of_lt_of_le z2_3 hq.size
  have z3_4 : w2.heap.size < w3.heap.size := (by have := hb.size; simp at this; omega)
  replace hB := thru hB hq
  replace yS := yS.later hq
  replace yT := yT.later hq
  replace ya' := ya'.later hq
  replace yb' := yb'.later hq
  replace yX := yX.later hq
  replace yY := yY.later hq
  clear hb hq g2_0 g2_1 g2_2 g2_3 g2_4 g2_5 g2_6 g2_7 g2_8 g2_9 g2_10 g2_11 g2_12 g2_13 g2_14 z2_0 z2_1 z2_2 z2_3
  subst e1 e2 e3
  cases writeS_ok q2 r2
  cases writeS_ok q3 r3
  go_wp2_with fail
  refine (same_any _ _ _ _ _ _ _ _ _ _ _ (yY.later (al (Below.refl _ w3) _)) (yZ.later (al (Below.refl _ w3) _))).mono ?_
  rintro e w4 ⟨rfl, hb⟩
  rw [show sameB lb now true lb now true = true by simp [sameB]]
  have hq := thru (al (Below.refl _ w3) _) hb
  have g4_0 := later hq g3_0
  have g4_1 := later hq g3_1
  have g4_2 := later hq g3_2
  have g4_3 := later hq g3_3
  have g4_4 := later hq g3_4
  have g4_5 := later hq g3_5
  have g4_6 := later hq g3_6
  have g4_7 := later hq g3_7
  have g4_8 := later hq g3_8
  have g4_9 := later hq g3_9
  have g4_10 := later hq g3_10
  have g4_11 := later hq g3_11
  have g4_12 := later hq g3_12
  have g4_13 := later hq g3_13
  have g4_14 := later hq g3_14
  have g4_15 := later hq g3_15
  have g4_16 := later hq g3_16
  have g4_17 := later hq g3_17
  have g4_18 := later (a := ⟨w3.heap.size, 0, none⟩) (v := .slice x3 lb.length c3) hb (by go_simp)
  have g4_19 := later (a := ⟨w3.heap.size, 1, none⟩) (v := .int .i64 now) hb (by go_simp)
  have g4_20 := later (a := ⟨w3.heap.size, 2, none⟩) (v := .bool true) hb (by go_simp)
  have z4_0 : w.heap.size < w4.heap.size := Nat.lt_of_lt_of_le z3_0 hq.size
  have z4_1 : w.heap.size + 1 < w4.heap.size := Nat.lt_of_lt_of_le z3_1 hq.size
  have z4_2 : w.heap.size + 2 < w4.heap.size := Nat.lt_of_lt_of_le z3_2 hq.size
  have z4_3 : w1.heap.size < w4.heap.size := Nat.lt_of_lt_of_le z3_3 hq.size
  have z4_4 : w2.heap.size < w4.heap.size := Nat.lt_of_lt_of_le z3_4 hq.size
  have z4_5 : w3.heap.size < w4.heap.size := (by have := hb.size; simp at this; omega)
  replace hB := thru hB hq
  replace yS := yS.later hq
  replace yT := yT.later hq
  replace ya' := ya'.later hq
  replace yb' := yb'.later hq
  replace yX := yX.later hq
  replace yY := yY.later hq
  replace yZ := yZ.later hq
  clear hb hq g3_0 g3_1 g3_2 g3_3 g3_4 g3_5 g3_6 g3_7 g3_8 g3_9 g3_10 g3_11 g3_12 g3_13 g3_14 g3_15 g3_16 g3_17 z3_0 z3_1 z3_2 z3_3 z3_4
  have cv1 := run_conv (P := Try.prog) (src := 24) (dst := 9) Try.underlying24 Try.underlying5 Try.underlying9 yY c2
  have cv2 := run_conv (P := Try.prog) (src := 24) (dst := 9) Try.underlying24 Try.underlying5 Try.underlying9 yb' cb
  go_wp2_with fail
  refine (awake_any _).mono ?_
  rintro e w5 ⟨rfl, hb⟩
  have hq := thru (Below.refl _ w4) hb
  have g5_0 := later hq g4_0
  have g5_1 := later hq g4_1
  have g5_2 := later hq g4_2
  have g5_3 := later hq g4_3
  have g5_4 := later hq g4_4
  have g5_5 := later hq g4_5
  have g5_6 := later hq g4_6
  have g5_7 := later hq g4_7
  have g5_8 := later hq g4_8
  have g5_9 := later hq g4_9
  have g5_10 := later hq g4_10
  have g5_11 := later hq g4_11
  have g5_12 := later hq g4_12
  have g5_13 := later hq g4_13
  have g5_14 := later hq g4_14
  have g5_15 := later hq g4_15
  have g5_16 := later hq g4_16
  have g5_17 := later hq g4_17
  have g5_18 := later hq g4_18
  have g5_19 := later hq g4_19
  have g5_20 := later hq g4_20
  have z5_0 : w.heap.size < w5.heap.size := Nat.lt_of_lt_of_le z4_0 hq.size
  have z5_1 : w.heap.size + 1 < w5.heap.size := Nat.lt_of_lt_of_le z4_1 hq.size
  have z5_2 : w.heap.size + 2 < w5.heap.size := Nat.lt_of_lt_of_le z4_2 hq.size
  have z5_3 : w1.heap.size < w5.heap.size := Nat.lt_of_lt_of_le z4_3 hq.size
  have z5_4 : w2.heap.size < w5.heap.size := Nat.lt_of_lt_of_le z4_4 hq.size
  have z5_5 : w3.heap.size < w5.heap.size := Nat.lt_of_lt_of_le z4_5 hq.size
  replace hB := thru hB hq
  replace yS := yS.later hq
  replace yT := yT.later hq
  replace ya' := ya'.later hq
  replace yb' := yb'.later hq
  replace yX := yX.later hq
  replace yY := yY.later hq
  replace yZ := yZ.later hq
  clear hb hq g4_0 g4_1 g4_2 g4_3 g4_4 g4_5 g4_6 g4_7 g4_8 g4_9 g4_10 g4_11 g4_12 g4_13 g4_14 g4_15 g4_16 g4_17 g4_18 g4_19 g4_20 z4_0 z4_1 z4_2 z4_3 z4_4 z4_5
  go_wp2_with fail
  go_ret
  exact ⟨rfl, hB⟩


theorem over_any (nm : ByteArray) (kind : Int) (out : Bool) (size depth refresh : Int) (xS : Option Addr) (lS : List UInt8) (cS : Nat) (tS : Int) (hS : Bool) (xT : Option Addr) (lT : List UInt8) (cT : Nat) (tT : Int) (hT : Bool) (ya : Option Addr) (la : List UInt8) (ca : Nat) (yb : Option Addr) (lb : List UInt8) (cb : Nat) (now : Int) (w : World) (yS : Bts w xS lS) (yT : Bts w xT lT) (ya' : Bts w ya la) (yb' : Bts w yb lb) :
    Calls Try.prog 5 #[.agg #[.string nm, .int .u8 kind, .bool out, .int .i64 size, .int .i64 depth, .int .i64 refresh], .agg #[.slice xS lS.length cS, .int .i64 tS, .bool hS], .agg #[.slice xT lT.length cT, .int .i64 tT, .bool hT], .slice ya la.length ca, .slice yb lb.length cb, .int .i64 now] w fun e w' => e = .returned (.bool true) ∧ Below w.heap.size w w' := by
  by_cases m1 : 200 < (lS.length : Int)
  · exact over_long1 nm kind out size depth refresh xS lS cS tS hS xT lT cT tT hT ya la ca yb lb cb now w m1
  by_cases m2 : 200 < (lT.length : Int)
  · exact over_long2 nm kind out size depth refresh xS lS cS tS hS xT lT cT tT hT ya la ca yb lb cb now w m1 m2
  by_cases m3 : 200 < (la.length : Int)
  · exact over_long3 nm kind out size depth refresh xS lS cS tS hS xT lT cT tT hT ya la ca yb lb cb now w m1 m2 m3
  by_cases m4 : 200 < (lb.length : Int)
  · exact over_long4 nm kind out size depth refresh xS lS cS tS hS xT lT cT tT hT ya la ca yb lb cb now w m1 m2 m3 m4
  obtain ⟨⟨l1, t1, h1⟩, q1⟩ : ∃ r, writeS kind size depth refresh lS tS hS now la = r := ⟨_, rfl⟩
  obtain ⟨⟨l2, t2, h2⟩, q2⟩ : ∃ r, writeS kind size depth refresh l1 t1 h1 now lb = r := ⟨_, rfl⟩
  obtain ⟨⟨l3, t3, h3⟩, q3⟩ : ∃ r, writeS kind size depth refresh lT tT hT now lb = r := ⟨_, rfl⟩
  have z1 : l1.length ≤ 100000 := by
    unfold writeS at q1
    split at q1 <;> cases q1 <;> omega
  by_cases e1 : writeCode kind size depth refresh lS tS hS now la = 0
  · by_cases e2 : writeCode kind size depth refresh l1 t1 h1 now lb = 0
    · by_cases e3 : writeCode kind size depth refresh lT tT hT now lb = 0
      · exact over_yes nm kind out size depth refresh xS lS cS tS hS xT lT cT tT hT ya la ca yb lb cb now w m1 m2 m3 m4 yS yT ya' yb' q1 rfl q2 rfl q3 rfl z1 e1 e2 e3
      · exact over_no3 nm kind out size depth refresh xS lS cS tS hS xT lT cT tT hT ya la ca yb lb cb now w m1 m2 m3 m4 yS yT ya' yb' q1 rfl q2 rfl q3 rfl z1 e1 e2 e3
    · exact over_no2 nm kind out size depth refresh xS lS cS tS hS xT lT cT tT hT ya la ca yb lb cb now w m1 m2 m3 m4 yS yT ya' yb' q1 rfl q2 rfl q3 rfl z1 e1 e2
  · exact over_no1 nm kind out size depth refresh xS lS cS tS hS xT lT cT tT hT ya la ca yb lb cb now w m1 m2 m3 m4 yS yT ya' yb' q1 rfl q2 rfl q3 rfl z1 e1


end Go.Proofs.Ytmeaelahmajheaa
