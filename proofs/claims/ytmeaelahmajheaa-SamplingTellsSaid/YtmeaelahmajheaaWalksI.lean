/- WALKS of the reference's functions of the sampling layer. -/
import Derived.Test.YtmeaelahmajheaaWalksG
namespace Go.Proofs.Ytmeaelahmajheaa
open Go.RowKit

theorem ret_bool {a b : Bool} (h : a = b) : Ending.returned (.bool a) = .returned (.bool b) := by rw [h]

theorem ret_i {a b : Int} (h : b = a) : Ending.returned (.int .i64 a) = .returned (.int .i64 b) := by rw [h]

def portB (kind size depth refresh : Int) : Bool := kind == 1 && decide (1 ≤ size) && decide (size ≤ 64) && depth == 0 && decide (0 ≤ refresh) && decide (refresh ≤ 1073741824)


set_option maxHeartbeats 1000000 in
theorem ref_port (nm : ByteArray) (kind : Int) (out : Bool) (size depth refresh : Int) (w : World) : Calls Try.prog 21 #[.agg #[.string nm, .int .u8 kind, .bool out, .int .i64 size, .int .i64 depth, .int .i64 refresh]] w fun e w' => e = .returned (.bool (portB kind size depth refresh)) ∧ Below w.heap.size w w' := by
  have hB := Below.refl w.heap.size w
  go_enter Try.func21, Try.ntmps21
  go_wp2_with fail
  all_goals
    go_ret
    exact ⟨ret_bool (by unfold portB; simp [*] <;> omega), al hB _⟩


theorem valid_port (kind size depth refresh : Int) (n : Nat) (at_ : Int) (has : Bool) : Smp.validB kind size depth refresh n at_ has = (portB kind size depth refresh && if has = true then decide (1 ≤ n) && decide ((n : Int) ≤ size) && decide (0 ≤ at_) && decide (at_ ≤ 1073741824) else n == 0 && at_ == 0) := by
  unfold Smp.validB portB
  rw [Bool.eq_iff_iff]
  cases has <;> simp <;> omega


set_option maxHeartbeats 1000000 in
theorem ref_v0 (nm : ByteArray) (kind : Int) (out : Bool) (size depth refresh : Int) (x : Option Addr) (l : List UInt8) (cap : Nat) (at_ : Int) (has : Bool) (w : World) (v : portB kind size depth refresh = false) : Calls Try.prog 13 #[.agg #[.string nm, .int .u8 kind, .bool out, .int .i64 size, .int .i64 depth, .int .i64 refresh], .slice x l.length cap, .int .i64 at_, .bool has] w fun e w' => e = .returned (.bool (Smp.validB kind size depth refresh l.length at_ has)) ∧ Below w.heap.size w w' := by
  have hB := Below.refl w.heap.size w
  go_enter Try.func13, Try.ntmps13
  go_wp2_with fail
  refine (ref_port _ _ _ _ _ _ _).mono ?_
  rintro e w1 ⟨rfl, hb⟩
  rw [v]
  have hq := thru (al (Below.refl _ w) _) hb
  have g1_0 := later (a := ⟨w.heap.size, 0, none⟩) (v := .string nm) hb (by go_simp)
  have g1_1 := later (a := ⟨w.heap.size, 1, none⟩) (v := .int .u8 kind) hb (by go_simp)
  have g1_2 := later (a := ⟨w.heap.size, 2, none⟩) (v := .bool out) hb (by go_simp)
  have g1_3 := later (a := ⟨w.heap.size, 3, none⟩) (v := .int .i64 size) hb (by go_simp)
  have g1_4 := later (a := ⟨w.heap.size, 4, none⟩) (v := .int .i64 depth) hb (by go_simp)
  have g1_5 := later (a := ⟨w.heap.size, 5, none⟩) (v := .int .i64 refresh) hb (by go_simp)
  have z1_0 : w.heap.size < w1.heap.size := (by have := hb.size; simp at this; omega)
  replace hB := thru hB hq
  clear hb hq 
  go_wp2_with fail
  all_goals
    go_ret
    exact ⟨ret_bool (by rw [valid_port, v]; simp [*] <;> omega), hB⟩


set_option maxHeartbeats 1000000 in
theorem ref_v1 (nm : ByteArray) (kind : Int) (out : Bool) (size depth refresh : Int) (x : Option Addr) (l : List UInt8) (cap : Nat) (at_ : Int) (w : World) (v : portB kind size depth refresh = true) : Calls Try.prog 13 #[.agg #[.string nm, .int .u8 kind, .bool out, .int .i64 size, .int .i64 depth, .int .i64 refresh], .slice x l.length cap, .int .i64 at_, .bool false] w fun e w' => e = .returned (.bool (Smp.validB kind size depth refresh l.length at_ false)) ∧ Below w.heap.size w w' := by
  have hB := Below.refl w.heap.size w
  go_enter Try.func13, Try.ntmps13
  go_wp2_with fail
  refine (ref_port _ _ _ _ _ _ _).mono ?_
  rintro e w1 ⟨rfl, hb⟩
  rw [v]
  have hq := thru (al (Below.refl _ w) _) hb
  have g1_0 := later (a := ⟨w.heap.size, 0, none⟩) (v := .string nm) hb (by go_simp)
  have g1_1 := later (a := ⟨w.heap.size, 1, none⟩) (v := .int .u8 kind) hb (by go_simp)
  have g1_2 := later (a := ⟨w.heap.size, 2, none⟩) (v := .bool out) hb (by go_simp)
  have g1_3 := later (a := ⟨w.heap.size, 3, none⟩) (v := .int .i64 size) hb (by go_simp)
  have g1_4 := later (a := ⟨w.heap.size, 4, none⟩) (v := .int .i64 depth) hb (by go_simp)
  have g1_5 := later (a := ⟨w.heap.size, 5, none⟩) (v := .int .i64 refresh) hb (by go_simp)
  have z1_0 : w.heap.size < w1.heap.size := (by have := hb.size; simp at this; omega)
  replace hB := thru hB hq
  clear hb hq 
  go_wp2_with fail
  all_goals
    go_ret
    exact ⟨ret_bool (by rw [valid_port, v]; simp [*] <;> omega), hB⟩


set_option maxHeartbeats 1000000 in
theorem ref_v2 (nm : ByteArray) (kind : Int) (out : Bool) (size depth refresh : Int) (x : Option Addr) (l : List UInt8) (cap : Nat) (at_ : Int) (w : World) (v : portB kind size depth refresh = true) : Calls Try.prog 13 #[.agg #[.string nm, .int .u8 kind, .bool out, .int .i64 size, .int .i64 depth, .int .i64 refresh], .slice x l.length cap, .int .i64 at_, .bool true] w fun e w' => e = .returned (.bool (Smp.validB kind size depth refresh l.length at_ true)) ∧ Below w.heap.size w w' := by
  have hB := Below.refl w.heap.size w
  go_enter Try.func13, Try.ntmps13
  go_wp2_with fail
  refine (ref_port _ _ _ _ _ _ _).mono ?_
  rintro e w1 ⟨rfl, hb⟩
  rw [v]
  have hq := thru (al (Below.refl _ w) _) hb
  have g1_0 := later (a := ⟨w.heap.size, 0, none⟩) (v := .string nm) hb (by go_simp)
  have g1_1 := later (a := ⟨w.heap.size, 1, none⟩) (v := .int .u8 kind) hb (by go_simp)
  have g1_2 := later (a := ⟨w.heap.size, 2, none⟩) (v := .bool out) hb (by go_simp)
  have g1_3 := later (a := ⟨w.heap.size, 3, none⟩) (v := .int .i64 size) hb (by go_simp)
  have g1_4 := later (a := ⟨w.heap.size, 4, none⟩) (v := .int .i64 depth) hb (by go_simp)
  have g1_5 := later (a := ⟨w.heap.size, 5, none⟩) (v := .int .i64 refresh) hb (by go_simp)
  have z1_0 : w.heap.size < w1.heap.size := (by have := hb.size; simp at this; omega)
  replace hB := thru hB hq
  clear hb hq 
  go_wp2_with fail
  all_goals
    go_ret
    exact ⟨ret_bool (by rw [valid_port, v]; simp [*] <;> omega), hB⟩


theorem ref_valid (nm : ByteArray) (kind : Int) (out : Bool) (size depth refresh : Int) (x : Option Addr) (l : List UInt8) (cap : Nat) (at_ : Int) (has : Bool) (w : World) : Calls Try.prog 13 #[.agg #[.string nm, .int .u8 kind, .bool out, .int .i64 size, .int .i64 depth, .int .i64 refresh], .slice x l.length cap, .int .i64 at_, .bool has] w fun e w' => e = .returned (.bool (Smp.validB kind size depth refresh l.length at_ has)) ∧ Below w.heap.size w w' := by
  cases v : portB kind size depth refresh with
  | false => exact ref_v0 nm kind out size depth refresh x l cap at_ has w v
  | true =>
    cases has with
    | false => exact ref_v1 nm kind out size depth refresh x l cap at_ w v
    | true => exact ref_v2 nm kind out size depth refresh x l cap at_ w v


set_option maxHeartbeats 1000000 in
theorem ref_p0 (nm : ByteArray) (kind : Int) (out : Bool) (size depth refresh : Int) (x : Option Addr) (l : List UInt8) (cap : Nat) (at_ : Int) (has : Bool) (now : Int) (w : World) (v : Smp.validB kind size depth refresh l.length at_ has = false) : Calls Try.prog 22 #[.agg #[.string nm, .int .u8 kind, .bool out, .int .i64 size, .int .i64 depth, .int .i64 refresh], .slice x l.length cap, .int .i64 at_, .bool has, .int .i64 now] w fun e w' => e = .returned (.bool (Smp.readyB kind size depth refresh l.length at_ has now)) ∧ Below w.heap.size w w' := by
  have hB := Below.refl w.heap.size w
  go_enter Try.func22, Try.ntmps22
  go_wp2_with fail
  refine (ref_valid _ _ _ _ _ _ _ _ _ _ _ _).mono ?_
  rintro e w1 ⟨rfl, hb⟩
  rw [v]
  have hq := thru (al (Below.refl _ w) _) hb
  have g1_0 := later (a := ⟨w.heap.size, 0, none⟩) (v := .string nm) hb (by go_simp)
  have g1_1 := later (a := ⟨w.heap.size, 1, none⟩) (v := .int .u8 kind) hb (by go_simp)
  have g1_2 := later (a := ⟨w.heap.size, 2, none⟩) (v := .bool out) hb (by go_simp)
  have g1_3 := later (a := ⟨w.heap.size, 3, none⟩) (v := .int .i64 size) hb (by go_simp)
  have g1_4 := later (a := ⟨w.heap.size, 4, none⟩) (v := .int .i64 depth) hb (by go_simp)
  have g1_5 := later (a := ⟨w.heap.size, 5, none⟩) (v := .int .i64 refresh) hb (by go_simp)
  have z1_0 : w.heap.size < w1.heap.size := (by have := hb.size; simp at this; omega)
  replace hB := thru hB hq
  clear hb hq 
  go_wp2_with fail
  all_goals
    go_ret
    exact ⟨ret_bool (by unfold Smp.readyB; rw [v]; simp [*] <;> omega), hB⟩


set_option maxHeartbeats 1000000 in
theorem ref_p1 (nm : ByteArray) (kind : Int) (out : Bool) (size depth refresh : Int) (x : Option Addr) (l : List UInt8) (cap : Nat) (at_ : Int) (has : Bool) (now : Int) (w : World) (v : Smp.validB kind size depth refresh l.length at_ has = true) : Calls Try.prog 22 #[.agg #[.string nm, .int .u8 kind, .bool out, .int .i64 size, .int .i64 depth, .int .i64 refresh], .slice x l.length cap, .int .i64 at_, .bool has, .int .i64 now] w fun e w' => e = .returned (.bool (Smp.readyB kind size depth refresh l.length at_ has now)) ∧ Below w.heap.size w w' := by
  have hB := Below.refl w.heap.size w
  go_enter Try.func22, Try.ntmps22
  go_wp2_with fail
  refine (ref_valid _ _ _ _ _ _ _ _ _ _ _ _).mono ?_
  rintro e w1 ⟨rfl, hb⟩
  rw [v]
  have hq := thru (al (Below.refl _ w) _) hb
  have g1_0 := later (a := ⟨w.heap.size, 0, none⟩) (v := .string nm) hb (by go_simp)
  have g1_1 := later (a := ⟨w.heap.size, 1, none⟩) (v := .int .u8 kind) hb (by go_simp)
  have g1_2 := later (a := ⟨w.heap.size, 2, none⟩) (v := .bool out) hb (by go_simp)
  have g1_3 := later (a := ⟨w.heap.size, 3, none⟩) (v := .int .i64 size) hb (by go_simp)
  have g1_4 := later (a := ⟨w.heap.size, 4, none⟩) (v := .int .i64 depth) hb (by go_simp)
  have g1_5 := later (a := ⟨w.heap.size, 5, none⟩) (v := .int .i64 refresh) hb (by go_simp)
  have z1_0 : w.heap.size < w1.heap.size := (by have := hb.size; simp at this; omega)
  replace hB := thru hB hq
  clear hb hq 
  go_wp2_with fail
  all_goals
    go_ret
    exact ⟨ret_bool (by have hz := (Smp.valid_at v).2.2.2.2.2.2.1; unfold Smp.readyB; rw [v]; simp [*] <;> omega), hB⟩


theorem ref_possible (nm : ByteArray) (kind : Int) (out : Bool) (size depth refresh : Int) (x : Option Addr) (l : List UInt8) (cap : Nat) (at_ : Int) (has : Bool) (now : Int) (w : World) : Calls Try.prog 22 #[.agg #[.string nm, .int .u8 kind, .bool out, .int .i64 size, .int .i64 depth, .int .i64 refresh], .slice x l.length cap, .int .i64 at_, .bool has, .int .i64 now] w fun e w' => e = .returned (.bool (Smp.readyB kind size depth refresh l.length at_ has now)) ∧ Below w.heap.size w w' := by
  cases v : Smp.validB kind size depth refresh l.length at_ has with
  | false => exact ref_p0 nm kind out size depth refresh x l cap at_ has now w v
  | true => exact ref_p1 nm kind out size depth refresh x l cap at_ has now w v


set_option maxHeartbeats 1000000 in
theorem ref_w0 (nm : ByteArray) (kind : Int) (out : Bool) (size depth refresh : Int) (x : Option Addr) (l : List UInt8) (cap : Nat) (at_ : Int) (has : Bool) (now : Int) (y : Option Addr) (d : List UInt8) (c : Nat) (w : World) (v : Smp.readyB kind size depth refresh l.length at_ has now = false) : Calls Try.prog 14 #[.agg #[.string nm, .int .u8 kind, .bool out, .int .i64 size, .int .i64 depth, .int .i64 refresh], .slice x l.length cap, .int .i64 at_, .bool has, .int .i64 now, .slice y d.length c] w fun e w' => e = .returned (.int .i64 (writeCode kind size depth refresh l at_ has now d)) ∧ Below w.heap.size w w' := by
  have hB := Below.refl w.heap.size w
  go_enter Try.func14, Try.ntmps14
  go_wp2_with fail
  refine (ref_possible _ _ _ _ _ _ _ _ _ _ _ _ _).mono ?_
  rintro e w1 ⟨rfl, hb⟩
  rw [v]
  have hq := thru (al (Below.refl _ w) _) hb
  have g1_0 := later (a := ⟨w.heap.size, 0, none⟩) (v := .string nm) hb (by go_simp)
  have g1_1 := later (a := ⟨w.heap.size, 1, none⟩) (v := .int .u8 kind) hb (by go_simp)
  have g1_2 := later (a := ⟨w.heap.size, 2, none⟩) (v := .bool out) hb (by go_simp)
  have g1_3 := later (a := ⟨w.heap.size, 3, none⟩) (v := .int .i64 size) hb (by go_simp)
  have g1_4 := later (a := ⟨w.heap.size, 4, none⟩) (v := .int .i64 depth) hb (by go_simp)
  have g1_5 := later (a := ⟨w.heap.size, 5, none⟩) (v := .int .i64 refresh) hb (by go_simp)
  have z1_0 : w.heap.size < w1.heap.size := (by have := hb.size; simp at this; omega)
  replace hB := thru hB hq
  clear hb hq 
  go_wp2_with fail
  all_goals
    go_ret
    exact ⟨ret_i (by unfold writeCode; rw [if_pos (.inl v)]), hB⟩


set_option maxHeartbeats 1000000 in
theorem ref_w1 (nm : ByteArray) (kind : Int) (out : Bool) (size depth refresh : Int) (x : Option Addr) (l : List UInt8) (cap : Nat) (at_ : Int) (has : Bool) (now : Int) (y : Option Addr) (c : Nat) (w : World) (v : Smp.readyB kind size depth refresh l.length at_ has now = true) : Calls Try.prog 14 #[.agg #[.string nm, .int .u8 kind, .bool out, .int .i64 size, .int .i64 depth, .int .i64 refresh], .slice x l.length cap, .int .i64 at_, .bool has, .int .i64 now, .slice y ([] : List UInt8).length c] w fun e w' => e = .returned (.int .i64 (writeCode kind size depth refresh l at_ has now [])) ∧ Below w.heap.size w w' := by
  have hB := Below.refl w.heap.size w
  go_enter Try.func14, Try.ntmps14
  go_wp2_with fail
  refine (ref_possible _ _ _ _ _ _ _ _ _ _ _ _ _).mono ?_
  rintro e w1 ⟨rfl, hb⟩
  rw [v]
  have hq := thru (al (Below.refl _ w) _) hb
  have g1_0 := later (a := ⟨w.heap.size, 0, none⟩) (v := .string nm) hb (by go_simp)
  have g1_1 := later (a := ⟨w.heap.size, 1, none⟩) (v := .int .u8 kind) hb (by go_simp)
  have g1_2 := later (a := ⟨w.heap.size, 2, none⟩) (v := .bool out) hb (by go_simp)
  have g1_3 := later (a := ⟨w.heap.size, 3, none⟩) (v := .int .i64 size) hb (by go_simp)
  have g1_4 := later (a := ⟨w.heap.size, 4, none⟩) (v := .int .i64 depth) hb (by go_simp)
  have g1_5 := later (a := ⟨w.heap.size, 5, none⟩) (v := .int .i64 refresh) hb (by go_simp)
  have z1_0 : w.heap.size < w1.heap.size := (by have := hb.size; simp at this; omega)
  replace hB := thru hB hq
  clear hb hq 
  go_wp2_with fail
  all_goals
    go_ret
    exact ⟨ret_i (by unfold writeCode; rw [if_pos (.inr rfl)]), hB⟩


set_option maxHeartbeats 1000000 in
theorem ref_w2 (nm : ByteArray) (kind : Int) (out : Bool) (size depth refresh : Int) (x : Option Addr) (l : List UInt8) (cap : Nat) (at_ : Int) (has : Bool) (now : Int) (y : Option Addr) (d : List UInt8) (c : Nat) (w : World) (v : Smp.readyB kind size depth refresh l.length at_ has now = true) (h0 : ¬ d = []) (h1 : ((d.length : Int) == 0) = false) (h2 : size < d.length) : Calls Try.prog 14 #[.agg #[.string nm, .int .u8 kind, .bool out, .int .i64 size, .int .i64 depth, .int .i64 refresh], .slice x l.length cap, .int .i64 at_, .bool has, .int .i64 now, .slice y d.length c] w fun e w' => e = .returned (.int .i64 (writeCode kind size depth refresh l at_ has now d)) ∧ Below w.heap.size w w' := by
  have hB := Below.refl w.heap.size w
  go_enter Try.func14, Try.ntmps14
  go_wp2_with fail
  refine (ref_possible _ _ _ _ _ _ _ _ _ _ _ _ _).mono ?_
  rintro e w1 ⟨rfl, hb⟩
  rw [v]
  have hq := thru (al (Below.refl _ w) _) hb
  have g1_0 := later (a := ⟨w.heap.size, 0, none⟩) (v := .string nm) hb (by go_simp)
  have g1_1 := later (a := ⟨w.heap.size, 1, none⟩) (v := .int .u8 kind) hb (by go_simp)
  have g1_2 := later (a := ⟨w.heap.size, 2, none⟩) (v := .bool out) hb (by go_simp)
  have g1_3 := later (a := ⟨w.heap.size, 3, none⟩) (v := .int .i64 size) hb (by go_simp)
  have g1_4 := later (a := ⟨w.heap.size, 4, none⟩) (v := .int .i64 depth) hb (by go_simp)
  have g1_5 := later (a := ⟨w.heap.size, 5, none⟩) (v := .int .i64 refresh) hb (by go_simp)
  have z1_0 : w.heap.size < w1.heap.size := (by have := hb.size; simp at this; omega)
  replace hB := thru hB hq
  clear hb hq 
  go_wp2_with fail
  all_goals
    go_ret
    exact ⟨ret_i (by unfold writeCode; rw [if_neg (by rw [v]; simp [h0]), if_pos h2]), hB⟩


set_option maxHeartbeats 1000000 in
theorem ref_w3 (nm : ByteArray) (kind : Int) (out : Bool) (size depth refresh : Int) (x : Option Addr) (l : List UInt8) (cap : Nat) (at_ : Int) (has : Bool) (now : Int) (y : Option Addr) (d : List UInt8) (c : Nat) (w : World) (v : Smp.readyB kind size depth refresh l.length at_ has now = true) (h0 : ¬ d = []) (h1 : ((d.length : Int) == 0) = false) (h2 : ¬ size < d.length) : Calls Try.prog 14 #[.agg #[.string nm, .int .u8 kind, .bool out, .int .i64 size, .int .i64 depth, .int .i64 refresh], .slice x l.length cap, .int .i64 at_, .bool has, .int .i64 now, .slice y d.length c] w fun e w' => e = .returned (.int .i64 (writeCode kind size depth refresh l at_ has now d)) ∧ Below w.heap.size w w' := by
  have hB := Below.refl w.heap.size w
  go_enter Try.func14, Try.ntmps14
  go_wp2_with fail
  refine (ref_possible _ _ _ _ _ _ _ _ _ _ _ _ _).mono ?_
  rintro e w1 ⟨rfl, hb⟩
  rw [v]
  have hq := thru (al (Below.refl _ w) _) hb
  have g1_0 := later (a := ⟨w.heap.size, 0, none⟩) (v := .string nm) hb (by go_simp)
  have g1_1 := later (a := ⟨w.heap.size, 1, none⟩) (v := .int .u8 kind) hb (by go_simp)
  have g1_2 := later (a := ⟨w.heap.size, 2, none⟩) (v := .bool out) hb (by go_simp)
  have g1_3 := later (a := ⟨w.heap.size, 3, none⟩) (v := .int .i64 size) hb (by go_simp)
  have g1_4 := later (a := ⟨w.heap.size, 4, none⟩) (v := .int .i64 depth) hb (by go_simp)
  have g1_5 := later (a := ⟨w.heap.size, 5, none⟩) (v := .int .i64 refresh) hb (by go_simp)
  have z1_0 : w.heap.size < w1.heap.size := (by have := hb.size; simp at this; omega)
  replace hB := thru hB hq
  clear hb hq 
  go_wp2_with fail
  all_goals
    go_ret
    exact ⟨ret_i (by unfold writeCode; rw [if_neg (by rw [v]; simp [h0]), if_neg (by omega)]), hB⟩


theorem ref_write (nm : ByteArray) (kind : Int) (out : Bool) (size depth refresh : Int) (x : Option Addr) (l : List UInt8) (cap : Nat) (at_ : Int) (has : Bool) (now : Int) (y : Option Addr) (d : List UInt8) (c : Nat) (w : World) : Calls Try.prog 14 #[.agg #[.string nm, .int .u8 kind, .bool out, .int .i64 size, .int .i64 depth, .int .i64 refresh], .slice x l.length cap, .int .i64 at_, .bool has, .int .i64 now, .slice y d.length c] w fun e w' => e = .returned (.int .i64 (writeCode kind size depth refresh l at_ has now d)) ∧ Below w.heap.size w w' := by
  cases v : Smp.readyB kind size depth refresh l.length at_ has now with
  | false => exact ref_w0 nm kind out size depth refresh x l cap at_ has now y d c w v
  | true =>
    by_cases h0 : d = []
    · subst h0; exact ref_w1 nm kind out size depth refresh x l cap at_ has now y c w v
    · by_cases h2 : size < d.length
      · exact ref_w2 nm kind out size depth refresh x l cap at_ has now y d c w v h0 (by simp [h0]) h2
      · exact ref_w3 nm kind out size depth refresh x l cap at_ has now y d c w v h0 (by simp [h0]) h2


/-- The age of the message, and the number of the error. -/
def ageS (kind size depth refresh : Int) (l : List UInt8) (at_ : Int) (has : Bool) (now : Int) : Int × Int :=
  if Smp.readyB kind size depth refresh l.length at_ has now = false then (0, 2) else if has = false then (0, 6) else (now - at_, 0)


set_option maxHeartbeats 1000000 in
theorem ref_r0 (nm : ByteArray) (kind : Int) (out : Bool) (size depth refresh : Int) (x : Option Addr) (l : List UInt8) (cap : Nat) (at_ : Int) (has : Bool) (now : Int) (w : World) (v : Smp.readyB kind size depth refresh l.length at_ has now = false) : Calls Try.prog 15 #[.agg #[.string nm, .int .u8 kind, .bool out, .int .i64 size, .int .i64 depth, .int .i64 refresh], .slice x l.length cap, .int .i64 at_, .bool has, .int .i64 now] w fun e w' => e = .returned (.tuple #[.int .i64 (ageS kind size depth refresh l at_ has now).1, .int .i64 (ageS kind size depth refresh l at_ has now).2]) ∧ Below w.heap.size w w' := by
  have hB := Below.refl w.heap.size w
  rw [show ageS kind size depth refresh l at_ has now = _ from if_pos v]
  go_enter Try.func15, Try.ntmps15
  go_wp2_with fail
  refine (ref_possible _ _ _ _ _ _ _ _ _ _ _ _ _).mono ?_
  rintro e w1 ⟨rfl, hb⟩
  rw [v]
  have hq := thru (al (Below.refl _ w) _) hb
  have g1_0 := later (a := ⟨w.heap.size, 0, none⟩) (v := .string nm) hb (by go_simp)
  have g1_1 := later (a := ⟨w.heap.size, 1, none⟩) (v := .int .u8 kind) hb (by go_simp)
  have g1_2 := later (a := ⟨w.heap.size, 2, none⟩) (v := .bool out) hb (by go_simp)
  have g1_3 := later (a := ⟨w.heap.size, 3, none⟩) (v := .int .i64 size) hb (by go_simp)
  have g1_4 := later (a := ⟨w.heap.size, 4, none⟩) (v := .int .i64 depth) hb (by go_simp)
  have g1_5 := later (a := ⟨w.heap.size, 5, none⟩) (v := .int .i64 refresh) hb (by go_simp)
  have z1_0 : w.heap.size < w1.heap.size := (by have := hb.size; simp at this; omega)
  replace hB := thru hB hq
  clear hb hq 
  go_wp2_with fail
  exact bodyPost_ret (v := .tuple #[.int .i64 0, .int .i64 2]) (by simp [results, Try.results15, go_sem]) rfl ⟨rfl, hB⟩


set_option maxHeartbeats 1000000 in
theorem ref_r1 (nm : ByteArray) (kind : Int) (out : Bool) (size depth refresh : Int) (x : Option Addr) (l : List UInt8) (cap : Nat) (at_ : Int) (now : Int) (w : World) (v : Smp.readyB kind size depth refresh l.length at_ false now = true) : Calls Try.prog 15 #[.agg #[.string nm, .int .u8 kind, .bool out, .int .i64 size, .int .i64 depth, .int .i64 refresh], .slice x l.length cap, .int .i64 at_, .bool false, .int .i64 now] w fun e w' => e = .returned (.tuple #[.int .i64 (ageS kind size depth refresh l at_ false now).1, .int .i64 (ageS kind size depth refresh l at_ false now).2]) ∧ Below w.heap.size w w' := by
  have hB := Below.refl w.heap.size w
  rw [show ageS kind size depth refresh l at_ false now = _ from (if_neg (by rw [v]; decide)).trans (if_pos rfl)]
  go_enter Try.func15, Try.ntmps15
  go_wp2_with fail
  refine (ref_possible _ _ _ _ _ _ _ _ _ _ _ _ _).mono ?_
  rintro e w1 ⟨rfl, hb⟩
  rw [v]
  have hq := thru (al (Below.refl _ w) _) hb
  have g1_0 := later (a := ⟨w.heap.size, 0, none⟩) (v := .string nm) hb (by go_simp)
  have g1_1 := later (a := ⟨w.heap.size, 1, none⟩) (v := .int .u8 kind) hb (by go_simp)
  have g1_2 := later (a := ⟨w.heap.size, 2, none⟩) (v := .bool out) hb (by go_simp)
  have g1_3 := later (a := ⟨w.heap.size, 3, none⟩) (v := .int .i64 size) hb (by go_simp)
  have g1_4 := later (a := ⟨w.heap.size, 4, none⟩) (v := .int .i64 depth) hb (by go_simp)
  have g1_5 := later (a := ⟨w.heap.size, 5, none⟩) (v := .int .i64 refresh) hb (by go_simp)
  have z1_0 : w.heap.size < w1.heap.size := (by have := hb.size; simp at this; omega)
  replace hB := thru hB hq
  clear hb hq 
  go_wp2_with fail
  exact bodyPost_ret (v := .tuple #[.int .i64 0, .int .i64 6]) (by simp [results, Try.results15, go_sem]) rfl ⟨rfl, hB⟩


set_option maxHeartbeats 1000000 in
theorem ref_r2 (nm : ByteArray) (kind : Int) (out : Bool) (size depth refresh : Int) (x : Option Addr) (l : List UInt8) (cap : Nat) (at_ : Int) (now : Int) (w : World) (v : Smp.readyB kind size depth refresh l.length at_ true now = true) : Calls Try.prog 15 #[.agg #[.string nm, .int .u8 kind, .bool out, .int .i64 size, .int .i64 depth, .int .i64 refresh], .slice x l.length cap, .int .i64 at_, .bool true, .int .i64 now] w fun e w' => e = .returned (.tuple #[.int .i64 (ageS kind size depth refresh l at_ true now).1, .int .i64 (ageS kind size depth refresh l at_ true now).2]) ∧ Below w.heap.size w w' := by
  have hB := Below.refl w.heap.size w
  rw [show ageS kind size depth refresh l at_ true now = _ from (if_neg (by rw [v]; decide)).trans (if_neg (by decide))]
  have hz := Smp.ready_at v
  have hz1 := (Smp.valid_at hz.1).2.2.2.2.2.2.1
  obtain ⟨-, hz2, hz3⟩ := hz
  go_enter Try.func15, Try.ntmps15
  go_wp2_with fail
  refine (ref_possible _ _ _ _ _ _ _ _ _ _ _ _ _).mono ?_
  rintro e w1 ⟨rfl, hb⟩
  rw [v]
  have hq := thru (al (Below.refl _ w) _) hb
  have g1_0 := later (a := ⟨w.heap.size, 0, none⟩) (v := .string nm) hb (by go_simp)
  have g1_1 := later (a := ⟨w.heap.size, 1, none⟩) (v := .int .u8 kind) hb (by go_simp)
  have g1_2 := later (a := ⟨w.heap.size, 2, none⟩) (v := .bool out) hb (by go_simp)
  have g1_3 := later (a := ⟨w.heap.size, 3, none⟩) (v := .int .i64 size) hb (by go_simp)
  have g1_4 := later (a := ⟨w.heap.size, 4, none⟩) (v := .int .i64 depth) hb (by go_simp)
  have g1_5 := later (a := ⟨w.heap.size, 5, none⟩) (v := .int .i64 refresh) hb (by go_simp)
  have z1_0 : w.heap.size < w1.heap.size := (by have := hb.size; simp at this; omega)
  replace hB := thru hB hq
  clear hb hq 
  go_wp2_with fail
  exact bodyPost_ret (v := .tuple #[.int .i64 (now - at_), .int .i64 0]) (by simp [results, Try.results15, go_sem]) rfl ⟨rfl, hB⟩


theorem ref_read (nm : ByteArray) (kind : Int) (out : Bool) (size depth refresh : Int) (x : Option Addr) (l : List UInt8) (cap : Nat) (at_ : Int) (has : Bool) (now : Int) (w : World) : Calls Try.prog 15 #[.agg #[.string nm, .int .u8 kind, .bool out, .int .i64 size, .int .i64 depth, .int .i64 refresh], .slice x l.length cap, .int .i64 at_, .bool has, .int .i64 now] w fun e w' => e = .returned (.tuple #[.int .i64 (ageS kind size depth refresh l at_ has now).1, .int .i64 (ageS kind size depth refresh l at_ has now).2]) ∧ Below w.heap.size w w' := by
  cases v : Smp.readyB kind size depth refresh l.length at_ has now with
  | false => exact ref_r0 nm kind out size depth refresh x l cap at_ has now w v
  | true =>
    cases has with
    | false => exact ref_r1 nm kind out size depth refresh x l cap at_ now w v
    | true => exact ref_r2 nm kind out size depth refresh x l cap at_ now w v

theorem age_one (nm : ByteArray) (kind : Int) (out : Bool) (size depth refresh : Int) (x : Option Addr) (l : List UInt8) (cap : Nat) (at_ : Int) (has : Bool) (now : Int) (w : World) : Calls Try.prog 11 #[.agg #[.string nm, .int .u8 kind, .bool out, .int .i64 size, .int .i64 depth, .int .i64 refresh], .agg #[.slice x l.length cap, .int .i64 at_, .bool has], .int .i64 now] w fun e w' => e = .returned (.tuple #[.int .i64 (ageS kind size depth refresh l at_ has now).1, .int .i64 (ageS kind size depth refresh l at_ has now).2]) ∧ Below w.heap.size w w' := by
  cases v : Smp.readyB kind size depth refresh l.length at_ has now with
  | false => rw [show ageS kind size depth refresh l at_ has now = _ from if_pos v]; exact age_no nm kind out size depth refresh x l cap at_ has now w v
  | true =>
    cases has with
    | false => rw [show ageS kind size depth refresh l at_ false now = _ from (if_neg (by rw [v]; decide)).trans (if_pos rfl)]; exact age_none nm kind out size depth refresh x l cap at_ false now w v rfl
    | true => rw [show ageS kind size depth refresh l at_ true now = _ from (if_neg (by rw [v]; decide)).trans (if_neg (by decide))]; exact age_yes nm kind out size depth refresh x l cap at_ true now w v rfl


end Go.Proofs.Ytmeaelahmajheaa
