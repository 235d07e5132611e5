/- WALKS of the laws: SamplingMoves. -/
import Derived.Test.YtmeaelahmajheaaWalksF
namespace Go.Proofs.Ytmeaelahmajheaa
open Go.RowKit

/-- What a read answers. -/
def readS (kind size depth refresh : Int) (l : List UInt8) (at_ : Int) (has : Bool) (now : Int) : List UInt8 × Bool × Int :=
  if Smp.readyB kind size depth refresh l.length at_ has now = false then ([], false, 2) else if has = false then ([], false, 6) else (l, decide (now - at_ ≤ refresh), 0)

def ReadAs (r : List UInt8) (fresh : Bool) (code : Int) (w : World) (e : Ending) (w' : World) : Prop :=
  ∃ x cap, e = .returned (.tuple #[.slice x r.length cap, .bool fresh, .int .i64 code]) ∧ OwnsB w.heap.size w' x cap r ∧ Below w.heap.size w w'

theorem read_one (nm : ByteArray) (kind : Int) (out : Bool) (size depth refresh : Int) (x : Option Addr) (l : List UInt8) (cap : Nat) (at_ : Int) (has : Bool) (now : Int) (w : World) (hx : Bts w x l) (hl : l.length ≤ 100000) {r : List UInt8} {f : Bool} {k : Int} (hs : readS kind size depth refresh l at_ has now = (r, f, k)) :
    Calls Try.prog 10 #[.agg #[.string nm, .int .u8 kind, .bool out, .int .i64 size, .int .i64 depth, .int .i64 refresh], .agg #[.slice x l.length cap, .int .i64 at_, .bool has], .int .i64 now] w (ReadAs r f k w) := by
  unfold readS at hs
  split at hs
  · rename_i h
    cases hs
    exact (read_no nm kind out size depth refresh x l cap at_ has now w h).mono fun e w' ⟨h1, h2⟩ => ⟨none, 0, h1, World.ownsRow_nil _ _ _ _, h2⟩
  · rename_i h
    rw [Bool.not_eq_false] at h
    split at hs
    · rename_i h'
      subst h'
      cases hs
      exact (read_none nm kind out size depth refresh x l cap at_ now w h).mono fun e w' ⟨h1, h2⟩ => ⟨none, 0, h1, World.ownsRow_nil _ _ _ _, h2⟩
    · rename_i h'
      rw [Bool.not_eq_false] at h'
      subst h'
      cases hs
      exact (read_ok nm kind out size depth refresh x l cap at_ now w hx hl h).mono fun e w' ⟨x, cap, h1, h2, h3⟩ => ⟨x, cap, h1, h2, h3⟩


set_option maxHeartbeats 1000000 in
theorem move_long (nm : ByteArray) (kind : Int) (out : Bool) (size depth refresh : Int) (y : Option Addr) (d : List UInt8) (c : Nat) (a b s : Int) (w : World) (m1 : 200 < (d.length : Int)) : Calls Try.prog 7 #[.agg #[.string nm, .int .u8 kind, .bool out, .int .i64 size, .int .i64 depth, .int .i64 refresh], .slice y d.length c, .int .u16 a, .int .u16 b, .int .u16 s] w fun e w' => e = .returned (.bool true) ∧ Below w.heap.size w w' := by
  have hB := Below.refl w.heap.size w
  go_enter Try.func7, Try.ntmps7
  go_wp2_with fail
  refine (awake_any _).mono ?_
  rintro e w1 ⟨rfl, hb⟩
  have hq := thru (al (Below.refl _ w) _) hb
  have g1_0 := later (a := ⟨w.heap.size, 0, none⟩) (v := .string nm) hb (by go_simp)
  have g1_1 := later (a := ⟨w.heap.size, 1, none⟩) (v := .int .u8 kind) hb (by go_simp)
  have g1_2 := later (a := ⟨w.heap.size, 2, none⟩) (v := .bool out) hb (by go_simp)
  have g1_3 := later (a := ⟨w.heap.size, 3, none⟩) (v := .int .i64 size) hb (by go_simp)
  have g1_4 := later (a := ⟨w.heap.size, 4, none⟩) (v := .int .i64 depth) hb (by go_simp)
  have g1_5 := later (a := ⟨w.heap.size, 5, none⟩) (v := .int .i64 refresh) hb (by go_simp)
  have z1_0 : w.heap.size < w1.heap.size := (by have := hb.size; simp at this; omega)
  replace hB := thru hB hq
  clear hb hq 
  go_wp2_with fail
  go_ret
  exact ⟨rfl, hB⟩


set_option maxHeartbeats 1000000 in
theorem move_0 (nm : ByteArray) (kind : Int) (out : Bool) (size depth refresh : Int) (y : Option Addr) (d : List UInt8) (c : Nat) (a b s : Int) (w : World) (m1 : ¬ 200 < (d.length : Int)) (y' : Bts w y d) (ha0 : 0 ≤ a) (ha1 : a < 65536) (hb0 : 0 ≤ b) (hb1 : b < 65536) (hs0 : 0 ≤ s) (hs1 : s < 65536) {l1 : List UInt8} {t1 : Int} {h1 : Bool} {l2 : List UInt8} {h2 : Bool} {r : List UInt8} {fr : Bool} {cd : Int}
    (q1 : writeS kind size depth refresh [] 0 false a d = (l1, t1, h1)) (r1 : writeCode kind size depth refresh [] 0 false a d = 0)
    (q2 : writeS kind size depth refresh [] 0 false (a + s) d = (l2, (t1 + s), h2)) (r2 : writeCode kind size depth refresh [] 0 false (a + s) d = 0)
    (q3 : readS kind size depth refresh l1 t1 h1 (a + b) = (r, fr, cd)) (q4 : readS kind size depth refresh l2 (t1 + s) h2 (a + b + s) = (r, fr, cd)) (z1 : l1.length ≤ 100000) (z2 : l2.length ≤ 100000) (z3 : 0 ≤ t1 ∧ t1 < 1000000)  :
    Calls Try.prog 7 #[.agg #[.string nm, .int .u8 kind, .bool out, .int .i64 size, .int .i64 depth, .int .i64 refresh], .slice y d.length c, .int .u16 a, .int .u16 b, .int .u16 s] w fun e w' => e = .returned (.bool true) ∧ Below w.heap.size w w' := by
  have hB := Below.refl w.heap.size w
  go_enter Try.func7, Try.ntmps7
  go_wp2_with fail
  refine (write_one nm kind out size depth refresh none [] 0 0 false _ _ _ _ _ (Bts.nil _ _) (by decide) (y'.later (al (Below.refl _ w) _)) (by omega) q1 r1).mono ?_
  rintro e w1 ⟨x1, c1, rfl, ho, hb⟩
  have yX := ho.bts
  clear ho
  have hq := thru (al (Below.refl _ w) _) hb
  have g1_0 := later (a := ⟨w.heap.size, 0, none⟩) (v := .string nm) hb (by go_simp)
  have g1_1 := later (a := ⟨w.heap.size, 1, none⟩) (v := .int .u8 kind) hb (by go_simp)
  have g1_2 := later (a := ⟨w.heap.size, 2, none⟩) (v := .bool out) hb (by go_simp)
  have g1_3 := later (a := ⟨w.heap.size, 3, none⟩) (v := .int .i64 size) hb (by go_simp)
  have g1_4 := later (a := ⟨w.heap.size, 4, none⟩) (v := .int .i64 depth) hb (by go_simp)
  have g1_5 := later (a := ⟨w.heap.size, 5, none⟩) (v := .int .i64 refresh) hb (by go_simp)
  have z1_0 : w.heap.size < w1.heap.size := (by have := hb.size; simp at this; omega)
  replace hB := thru hB hq
  replace y' := y'.later hq
  clear hb hq 
  go_wp2_with fail
  refine (write_one nm kind out size depth refresh none [] 0 0 false _ _ _ _ _ (Bts.nil _ _) (by decide) (y'.later (al (Below.refl _ w1) _)) (by omega) q2 r2).mono ?_
  rintro e w2 ⟨x2, c2, rfl, ho, hb⟩
  have yY := ho.bts
  clear ho
  have hq := thru (al (Below.refl _ w1) _) hb
  have g2_0 := later hq g1_0
  have g2_1 := later hq g1_1
  have g2_2 := later hq g1_2
  have g2_3 := later hq g1_3
  have g2_4 := later hq g1_4
  have g2_5 := later hq g1_5
  have g2_6 := later (a := ⟨w1.heap.size, 0, none⟩) (v := .slice x1 l1.length c1) hb (by go_simp)
  have g2_7 := later (a := ⟨w1.heap.size, 1, none⟩) (v := .int .i64 t1) hb (by go_simp)
  have g2_8 := later (a := ⟨w1.heap.size, 2, none⟩) (v := .bool h1) hb (by go_simp)
  have z2_0 : w.heap.size < w2.heap.size := Nat.lt_of_lt_of_le z1_0 hq.size
  have z2_1 : w1.heap.size < w2.heap.size := (by have := hb.size; simp at this; omega)
  replace hB := thru hB hq
  replace y' := y'.later hq
  replace yX := yX.later hq
  clear hb hq g1_0 g1_1 g1_2 g1_3 g1_4 g1_5 z1_0
  go_wp2_with fail
  refine (read_one _ _ _ _ _ _ _ _ _ _ _ _ _ (yX.later (al (Below.refl _ w2) _)) (by omega) q3).mono ?_
  rintro e w3 ⟨x3, c3, rfl, ho, hb⟩
  have yU := ho.bts
  clear ho
  have hq := thru (al (Below.refl _ w2) _) hb
  have g3_0 := later hq g2_0
  have g3_1 := later hq g2_1
  have g3_2 := later hq g2_2
  have g3_3 := later hq g2_3
  have g3_4 := later hq g2_4
  have g3_5 := later hq g2_5
  have g3_6 := later hq g2_6
  have g3_7 := later hq g2_7
  have g3_8 := later hq g2_8
  have g3_9 := later (a := ⟨w2.heap.size, 0, none⟩) (v := .slice x2 l2.length c2) hb (by go_simp)
  have g3_10 := later (a := ⟨w2.heap.size, 1, none⟩) (v := .int .i64 (t1 + s)) hb (by go_simp)
  have g3_11 := later (a := ⟨w2.heap.size, 2, none⟩) (v := .bool h2) hb (by go_simp)
  have z3_0 : w.heap.size < w3.heap.size := Nat.lt_of_lt_of_le z2_0 hq.size
  have z3_1 : w1.heap.size < w3.heap.size := Nat.lt_of_lt_of_le z2_1 hq.size
  have z3_2 : w2.heap.size < w3.heap.size := (by have := hb.size; simp at this; omega)
  replace hB := thru hB hq
  replace y' := y'.later hq
  replace yX := yX.later hq
  replace yY := yY.later hq
  clear hb hq g2_0 g2_1 g2_2 g2_3 g2_4 g2_5 g2_6 g2_7 g2_8 z2_0 z2_1
  go_wp2_with fail
  refine (read_one _ _ _ _ _ _ _ _ _ _ _ _ _ yY (by omega) q4).mono ?_
  rintro e w4 ⟨x4, c4, rfl, ho, hb⟩
  have yV := ho.bts
  clear ho
  have hq := thru (Below.refl _ w3) hb
  have g4_0 := later hq g3_0
  have g4_1 := later hq g3_1
  have g4_2 := later hq g3_2
  have g4_3 := later hq g3_3
  have g4_4 := later hq g3_4
  have g4_5 := later hq g3_5
  have g4_6 := later hq g3_6
  have g4_7 := later hq g3_7
  have g4_8 := later hq g3_8
  have g4_9 := later hq g3_9
  have g4_10 := later hq g3_10
  have g4_11 := later hq g3_11
  have z4_0 : w.heap.size < w4.heap.size := Nat.lt_of_lt_of_le z3_0 hq.size
  have z4_1 : w1.heap.size < w4.heap.size := Nat.lt_of_lt_of_le z3_1 hq.size
  have z4_2 : w2.heap.size < w4.heap.size := Nat.lt_of_lt_of_le z3_2 hq.size
  replace hB := thru hB hq
  replace y' := y'.later hq
  replace yX := yX.later hq
  replace yY := yY.later hq
  replace yU := yU.later hq
  clear hb hq g3_0 g3_1 g3_2 g3_3 g3_4 g3_5 g3_6 g3_7 g3_8 g3_9 g3_10 g3_11 z3_0 z3_1 z3_2
  have cv1 := run_conv (P := Try.prog) (src := 24) (dst := 9) Try.underlying24 Try.underlying5 Try.underlying9 yU c3
  have cv2 := run_conv (P := Try.prog) (src := 24) (dst := 9) Try.underlying24 Try.underlying5 Try.underlying9 yV c4
  go_wp2_with fail
  refine (awake_any _).mono ?_
  rintro e w5 ⟨rfl, hb⟩
  have hq := thru (Below.refl _ w4) hb
  have g5_0 := later hq g4_0
  have g5_1 := later hq g4_1
  have g5_2 := later hq g4_2
  have g5_3 := later hq g4_3
  have g5_4 := later hq g4_4
  have g5_5 := later hq g4_5
  have g5_6 := later hq g4_6
  have g5_7 := later hq g4_7
  have g5_8 := later hq g4_8
  have g5_9 := later hq g4_9
  have g5_10 := later hq g4_10
  have g5_11 := later hq g4_11
  have z5_0 : w.heap.size < w5.heap.size := Nat.lt_of_lt_of_le z4_0 hq.size
  have z5_1 : w1.heap.size < w5.heap.size := Nat.lt_of_lt_of_le z4_1 hq.size
  have z5_2 : w2.heap.size < w5.heap.size := Nat.lt_of_lt_of_le z4_2 hq.size
  replace hB := thru hB hq
  replace y' := y'.later hq
  replace yX := yX.later hq
  replace yY := yY.later hq
  replace yU := yU.later hq
  replace yV := yV.later hq
  clear hb hq g4_0 g4_1 g4_2 g4_3 g4_4 g4_5 g4_6 g4_7 g4_8 g4_9 g4_10 g4_11 z4_0 z4_1 z4_2
  go_wp2_with fail
  go_ret
  exact ⟨rfl, hB⟩


set_option maxHeartbeats 1000000 in
theorem move_1 (nm : ByteArray) (kind : Int) (out : Bool) (size depth refresh : Int) (y : Option Addr) (d : List UInt8) (c : Nat) (a b s : Int) (w : World) (m1 : ¬ 200 < (d.length : Int)) (y' : Bts w y d) (ha0 : 0 ≤ a) (ha1 : a < 65536) (hb0 : 0 ≤ b) (hb1 : b < 65536) (hs0 : 0 ≤ s) (hs1 : s < 65536) {l1 : List UInt8} {t1 : Int} {h1 : Bool} {l2 : List UInt8} {t2 : Int} {h2 : Bool} {k : Int} {r : List UInt8} {fr : Bool} {cd : Int}
    (q1 : writeS kind size depth refresh [] 0 false a d = (l1, t1, h1)) (r1 : writeCode kind size depth refresh [] 0 false a d = k)
    (q2 : writeS kind size depth refresh [] 0 false (a + s) d = (l2, t2, h2)) (r2 : writeCode kind size depth refresh [] 0 false (a + s) d = k)
    (q3 : readS kind size depth refresh l1 t1 h1 (a + b) = (r, fr, cd)) (q4 : readS kind size depth refresh l2 t2 h2 (a + b + s) = (r, fr, cd)) (z1 : l1.length ≤ 100000) (z2 : l2.length ≤ 100000) (e1 : ¬ k = 0) :
    Calls Try.prog 7 #[.agg #[.string nm, .int .u8 kind, .bool out, .int .i64 size, .int .i64 depth, .int .i64 refresh], .slice y d.length c, .int .u16 a, .int .u16 b, .int .u16 s] w fun e w' => e = .returned (.bool true) ∧ Below w.heap.size w w' := by
  have hB := Below.refl w.heap.size w
  go_enter Try.func7, Try.ntmps7
  go_wp2_with fail
  refine (write_one nm kind out size depth refresh none [] 0 0 false _ _ _ _ _ (Bts.nil _ _) (by decide) (y'.later (al (Below.refl _ w) _)) (by omega) q1 r1).mono ?_
  rintro e w1 ⟨x1, c1, rfl, ho, hb⟩
  have yX := ho.bts
  clear ho
  have hq := thru (al (Below.refl _ w) _) hb
  have g1_0 := later (a := ⟨w.heap.size, 0, none⟩) (v := .string nm) hb (by go_simp)
  have g1_1 := later (a := ⟨w.heap.size, 1, none⟩) (v := .int .u8 kind) hb (by go_simp)
  have g1_2 := later (a := ⟨w.heap.size, 2, none⟩) (v := .bool out) hb (by go_simp)
  have g1_3 := later (a := ⟨w.heap.size, 3, none⟩) (v := .int .i64 size) hb (by go_simp)
  have g1_4 := later (a := ⟨w.heap.size, 4, none⟩) (v := .int .i64 depth) hb (by go_simp)
  have g1_5 := later (a := ⟨w.heap.size, 5, none⟩) (v := .int .i64 refresh) hb (by go_simp)
  have z1_0 : w.heap.size < w1.heap.size := (by have := hb.size; simp at this; omega)
  replace hB := thru hB hq
  replace y' := y'.later hq
  clear hb hq 
  go_wp2_with fail
  refine (write_one nm kind out size depth refresh none [] 0 0 false _ _ _ _ _ (Bts.nil _ _) (by decide) (y'.later (al (Below.refl _ w1) _)) (by omega) q2 r2).mono ?_
  rintro e w2 ⟨x2, c2, rfl, ho, hb⟩
  have yY := ho.bts
  clear ho
  have hq := thru (al (Below.refl _ w1) _) hb
  have g2_0 := later hq g1_0
  have g2_1 := later hq g1_1
  have g2_2 := later hq g1_2
  have g2_3 := later hq g1_3
  have g2_4 := later hq g1_4
  have g2_5 := later hq g1_5
  have g2_6 := later (a := ⟨w1.heap.size, 0, none⟩) (v := .slice x1 l1.length c1) hb (by go_simp)
  have g2_7 := later (a := ⟨w1.heap.size, 1, none⟩) (v := .int .i64 t1) hb (by go_simp)
  have g2_8 := later (a := ⟨w1.heap.size, 2, none⟩) (v := .bool h1) hb (by go_simp)
  have z2_0 : w.heap.size < w2.heap.size := Nat.lt_of_lt_of_le z1_0 hq.size
  have z2_1 : w1.heap.size < w2.heap.size := (by have := hb.size; simp at this; omega)
  replace hB := thru hB hq
  replace y' := y'.later hq
  replace yX := yX.later hq
  clear hb hq g1_0 g1_1 g1_2 g1_3 g1_4 g1_5 z1_0
  go_wp2_with fail
  refine (read_one _ _ _ _ _ _ _ _ _ _ _ _ _ (yX.later (al (Below.refl _ w2) _)) (by omega) q3).mono ?_
  rintro e w3 ⟨x3, c3, rfl, ho, hb⟩
  have yU := ho.bts
  clear ho
  have hq := thru (al (Below.refl _ w2) _) hb
  have g3_0 := later hq g2_0
  have g3_1 := later hq g2_1
  have g3_2 := later hq g2_2
  have g3_3 := later hq g2_3
  have g3_4 := later hq g2_4
  have g3_5 := later hq g2_5
  have g3_6 := later hq g2_6
  have g3_7 := later hq g2_7
  have g3_8 := later hq g2_8
  have g3_9 := later (a := ⟨w2.heap.size, 0, none⟩) (v := .slice x2 l2.length c2) hb (by go_simp)
  have g3_10 := later (a := ⟨w2.heap.size, 1, none⟩) (v := .int .i64 t2) hb (by go_simp)
  have g3_11 := later (a := ⟨w2.heap.size, 2, none⟩) (v := .bool h2) hb (by go_simp)
  have z3_0 : w.heap.size < w3.heap.size := Nat.lt_of_lt_of_le z2_0 hq.size
  have z3_1 : w1.heap.size < w3.heap.size := Nat.lt_of_lt_of_le z2_1 hq.size
  have z3_2 : w2.heap.size < w3.heap.size := (by have := hb.size; simp at this; omega)
  replace hB := thru hB hq
  replace y' := y'.later hq
  replace yX := yX.later hq
  replace yY := yY.later hq
  clear hb hq g2_0 g2_1 g2_2 g2_3 g2_4 g2_5 g2_6 g2_7 g2_8 z2_0 z2_1
  go_wp2_with fail
  refine (read_one _ _ _ _ _ _ _ _ _ _ _ _ _ yY (by omega) q4).mono ?_
  rintro e w4 ⟨x4, c4, rfl, ho, hb⟩
  have yV := ho.bts
  clear ho
  have hq := thru (Below.refl _ w3) hb
  have g4_0 := later hq g3_0
  have g4_1 := later hq g3_1
  have g4_2 := later hq g3_2
  have g4_3 := later hq g3_3
  have g4_4 := later hq g3_4
  have g4_5 := later hq g3_5
  have g4_6 := later hq g3_6
  have g4_7 := later hq g3_7
  have g4_8 := later hq g3_8
  have g4_9 := later hq g3_9
  have g4_10 := later hq g3_10
  have g4_11 := later hq g3_11
  have z4_0 : w.heap.size < w4.heap.size := Nat.lt_of_lt_of_le z3_0 hq.size
  have z4_1 : w1.heap.size < w4.heap.size := Nat.lt_of_lt_of_le z3_1 hq.size
  have z4_2 : w2.heap.size < w4.heap.size := Nat.lt_of_lt_of_le z3_2 hq.size
  replace hB := thru hB hq
  replace y' := y'.later hq
  replace yX := yX.later hq
  replace yY := yY.later hq
  replace yU := yU.later hq
  clear hb hq g3_0 g3_1 g3_2 g3_3 g3_4 g3_5 g3_6 g3_7 g3_8 g3_9 g3_10 g3_11 z3_0 z3_1 z3_2
  have cv1 := run_conv (P := Try.prog) (src := 24) (dst := 9) Try.underlying24 Try.underlying5 Try.underlying9 yU c3
  have cv2 := run_conv (P := Try.prog) (src := 24) (dst := 9) Try.underlying24 Try.underlying5 Try.underlying9 yV c4
  go_wp2_with fail
  refine (awake_any _).mono ?_
  rintro e w5 ⟨rfl, hb⟩
  have hq := thru (Below.refl _ w4) hb
  have g5_0 := later hq g4_0
  have g5_1 := later hq g4_1
  have g5_2 := later hq g4_2
  have g5_3 := later hq g4_3
  have g5_4 := later hq g4_4
  have g5_5 := later hq g4_5
  have g5_6 := later hq g4_6
  have g5_7 := later hq g4_7
  have g5_8 := later hq g4_8
  have g5_9 := later hq g4_9
  have g5_10 := later hq g4_10
  have g5_11 := later hq g4_11
  have z5_0 : w.heap.size < w5.heap.size := Nat.lt_of_lt_of_le z4_0 hq.size
  have z5_1 : w1.heap.size < w5.heap.size := Nat.lt_of_lt_of_le z4_1 hq.size
  have z5_2 : w2.heap.size < w5.heap.size := Nat.lt_of_lt_of_le z4_2 hq.size
  replace hB := thru hB hq
  replace y' := y'.later hq
  replace yX := yX.later hq
  replace yY := yY.later hq
  replace yU := yU.later hq
  replace yV := yV.later hq
  clear hb hq g4_0 g4_1 g4_2 g4_3 g4_4 g4_5 g4_6 g4_7 g4_8 g4_9 g4_10 g4_11 z4_0 z4_1 z4_2
  go_wp2_with fail
  go_ret
  exact ⟨rfl, hB⟩


theorem ready_bare {kind size depth refresh : Int} {n m : Int} (hn : 0 ≤ n ∧ n ≤ 1073741824) (hm : 0 ≤ m ∧ m ≤ 1073741824) : Smp.readyB kind size depth refresh ([] : List UInt8).length 0 false m = Smp.readyB kind size depth refresh ([] : List UInt8).length 0 false n := by
  unfold Smp.readyB
  congr 1
  rw [Bool.eq_iff_iff]
  simp [hn, hm]

theorem valid_shift {kind size depth refresh : Int} {len : Nat} {n m : Int} (hn : 0 ≤ n ∧ n ≤ 1073741824) (hm : 0 ≤ m ∧ m ≤ 1073741824) : Smp.validB kind size depth refresh len m true = Smp.validB kind size depth refresh len n true := by
  unfold Smp.validB
  simp [hn, hm]

theorem code_shift {kind size depth refresh : Int} {d : List UInt8} {n m : Int} (hn : 0 ≤ n ∧ n ≤ 1073741824) (hm : 0 ≤ m ∧ m ≤ 1073741824) : writeCode kind size depth refresh [] 0 false m d = writeCode kind size depth refresh [] 0 false n d := by
  unfold writeCode
  rw [ready_bare hn hm]

theorem read_shift {kind size depth refresh : Int} {d : List UInt8} {a b s : Int} (ha : 0 ≤ a ∧ a < 65536) (hb : 0 ≤ b ∧ b < 65536) (hs : 0 ≤ s ∧ s < 65536) : readS kind size depth refresh d (a + s) true (a + b + s) = readS kind size depth refresh d a true (a + b) := by
  unfold readS Smp.readyB
  rw [valid_shift (n := a) (m := a + s) (by omega) (by omega), show (a + b + s - (a + s)) = a + b - a by omega]
  rw [show (decide (a + s ≤ a + b + s) && decide (a + b + s ≤ 1073741824)) = (decide (a ≤ a + b) && decide (a + b ≤ 1073741824)) by rw [Bool.eq_iff_iff]; simp; omega]

theorem read_bare_shift {kind size depth refresh : Int} {n m : Int} (hn : 0 ≤ n ∧ n ≤ 1073741824) (hm : 0 ≤ m ∧ m ≤ 1073741824) : readS kind size depth refresh [] 0 false m = readS kind size depth refresh [] 0 false n := by
  unfold readS
  rw [ready_bare hn hm]
  simp

theorem move_any (nm : ByteArray) (kind : Int) (out : Bool) (size depth refresh : Int) (y : Option Addr) (d : List UInt8) (c : Nat) (a b s : Int) (w : World) (y' : Bts w y d) (ha0 : 0 ≤ a) (ha1 : a < 65536) (hb0 : 0 ≤ b) (hb1 : b < 65536) (hs0 : 0 ≤ s) (hs1 : s < 65536) :
    Calls Try.prog 7 #[.agg #[.string nm, .int .u8 kind, .bool out, .int .i64 size, .int .i64 depth, .int .i64 refresh], .slice y d.length c, .int .u16 a, .int .u16 b, .int .u16 s] w fun e w' => e = .returned (.bool true) ∧ Below w.heap.size w w' := by
  by_cases m1 : 200 < (d.length : Int)
  · exact move_long nm kind out size depth refresh y d c a b s w m1
  have hc : writeCode kind size depth refresh [] 0 false (a + s) d = writeCode kind size depth refresh [] 0 false a d := code_shift (by omega) (by omega)
  by_cases h : writeCode kind size depth refresh [] 0 false a d = 0
  · obtain ⟨⟨r, fr, cd⟩, q⟩ : ∃ r, readS kind size depth refresh d a true (a + b) = r := ⟨_, rfl⟩
    exact move_0 nm kind out size depth refresh y d c a b s w m1 y' ha0 ha1 hb0 hb1 hs0 hs1 (by unfold writeS; rw [if_pos h]) h (by unfold writeS; rw [if_pos (hc.trans h)]) (hc.trans h) q (by rw [read_shift (by omega) (by omega) (by omega)]; exact q) (by omega) (by omega) (by omega)
  · obtain ⟨⟨r, fr, cd⟩, q⟩ : ∃ r, readS kind size depth refresh [] 0 false (a + b) = r := ⟨_, rfl⟩
    exact move_1 nm kind out size depth refresh y d c a b s w m1 y' ha0 ha1 hb0 hb1 hs0 hs1 (by unfold writeS; rw [if_neg h]) rfl (by unfold writeS; rw [if_neg (by rw [hc]; exact h)]) hc q (by rw [read_bare_shift (n := a + b) (by omega) (by omega)]; exact q) (by simp) (by simp) h


end Go.Proofs.Ytmeaelahmajheaa
