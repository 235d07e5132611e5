/- WALKS of the sampling layer: own, Valid, ready, Age. -/
import Derived.Test.YtmeaelahmajheaaClone
import Derived.Test.YtmeaelahmajheaaWalksA
import Derived.Test.YtmeaelahmajheaaPureSmpTwo
import Derived.Handy
namespace Go.Proofs.Ytmeaelahmajheaa
open Go.RowKit

theorem owns_weaken {w : World} {B B' e : Nat} {v : Value} {n : Nat} {xs : List Value} (h : w.ownsRow B e 1 v n xs) (hB : B' ≤ B) : w.ownsRow B' e 1 v n xs := by
  refine ⟨h.1, ?_⟩
  rcases h.2 with h | ⟨g, cap, cur, h1, h2, h3⟩
  · exact .inl h
  · exact .inr ⟨g, cap, cur, h1, Nat.le_trans hB h2, h3⟩

def OwnOf (l : List UInt8) (at_ : Int) (has : Bool) (w : World) (e : Ending) (w' : World) : Prop :=
  ∃ x cap, e = .returned (.agg #[.slice x l.length cap, .int .i64 at_, .bool has]) ∧ OwnsB w.heap.size w' x cap l ∧ Below w.heap.size w w'


set_option maxHeartbeats 400000 in
theorem own_any (x : Option Addr) (l : List UInt8) (cap : Nat) (at_ : Int) (has : Bool) (w : World) (hx : Bts w x l) (hl : l.length ≤ 100000) :
    Calls Try.prog 18 #[.agg #[.slice x l.length cap, .int .i64 at_, .bool has]] w (OwnOf l at_ has w) := by
  have hB := ((Below.refl _ w).alloc (Nat.le_refl _) (.cells #[.slice x l.length cap, .int .i64 at_, .bool has] 26)).alloc (by simp) (.cells #[.slice none 0 0, .int .i64 0, .bool false] 26)
  have hx2 := hx.later hB
  go_enter Try.func18, Try.ntmps18
  go_wp2_with (go_at_call 19; refine (clone_any _ _ _ _ hx2 hl).mono ?_; rintro e w1 ⟨x1, cap1, rfl, ho, hb⟩; have g0 := later (a := ⟨w.heap.size, 0, none⟩) (v := .slice x l.length cap) hb (by go_simp); have g1 := later (a := ⟨w.heap.size, 1, none⟩) (v := .int .i64 at_) hb (by go_simp); have g2 := later (a := ⟨w.heap.size, 2, none⟩) (v := .bool has) hb (by go_simp); have g3 := later (a := ⟨w.heap.size + 1, 0, none⟩) (v := .slice none 0 0) hb (by go_simp); have g4 := later (a := ⟨w.heap.size + 1, 1, none⟩) (v := .int .i64 0) hb (by go_simp); have g5 := later (a := ⟨w.heap.size + 1, 2, none⟩) (v := .bool false) hb (by go_simp); have gf0 := (Below.frozen hb (p := ⟨w.heap.size, 0, none⟩) (by simp <;> omega)).trans (show _ = false by go_simp); have gf1 := (Below.frozen hb (p := ⟨w.heap.size, 1, none⟩) (by simp <;> omega)).trans (show _ = false by go_simp); have gf2 := (Below.frozen hb (p := ⟨w.heap.size, 2, none⟩) (by simp <;> omega)).trans (show _ = false by go_simp); have gf3 := (Below.frozen hb (p := ⟨w.heap.size + 1, 0, none⟩) (by simp <;> omega)).trans (show _ = false by go_simp); have gf4 := (Below.frozen hb (p := ⟨w.heap.size + 1, 1, none⟩) (by simp <;> omega)).trans (show _ = false by go_simp); have gf5 := (Below.frozen hb (p := ⟨w.heap.size + 1, 2, none⟩) (by simp <;> omega)).trans (show _ = false by go_simp); have HB := Lib.hid (hB.trans (hb.mono (by simp <;> omega))); have HO := Lib.hid ho; have hsz := hb.size; clear hx hx2 hB hb ho)
  refine bodyPost_ret (v := .agg #[.slice x1 l.length cap1, .int .i64 at_, .bool has]) (by simp [results, Try.results18, go_sem, g3, g4, g5]) rfl ⟨x1, cap1, rfl, ?_, ?_⟩
  · exact owns_weaken (ownsRow_setCell_below (ownsRow_setCell_below (ownsRow_setCell_below (ownsRow_setCell_below HO.out (by simp <;> omega) _) (by simp) _) (by simp) _) (by simp) _) (by simp <;> omega)
  · exact ((((HB.out.setCell (by simp) _).setCell (by simp) _).setCell (by simp) _).setCell (by simp) _)


set_option maxHeartbeats 400000 in
theorem Valid_any (nm : ByteArray) (kind : Int) (out : Bool) (size depth refresh : Int) (x : Option Addr) (l : List UInt8) (cap : Nat) (at_ : Int) (has : Bool) (w : World) :
    Calls Try.prog 12 #[.agg #[.string nm, .int .u8 kind, .bool out, .int .i64 size, .int .i64 depth, .int .i64 refresh], .agg #[.slice x l.length cap, .int .i64 at_, .bool has]] w fun e w' => e = .returned (.bool (Smp.validB kind size depth refresh l.length at_ has)) ∧ Below w.heap.size w w' := by
  go_enter Try.func12, Try.ntmps12
  go_wp2_with (go_at_call 20; refine (valid_any _ _ _ _ _ _ _ _ _ _ _ _).mono ?_; rintro e w1 ⟨rfl, hb⟩)
  go_ret
  exact ⟨rfl, (((Below.refl _ w).alloc (Nat.le_refl _) _).alloc (by simp) _).trans (hb.mono (by simp <;> omega))⟩


set_option maxHeartbeats 400000 in
theorem ready_no (nm : ByteArray) (kind : Int) (out : Bool) (size depth refresh : Int) (x : Option Addr) (l : List UInt8) (cap : Nat) (at_ : Int) (has : Bool) (now : Int) (w : World) (hv : Smp.validB kind size depth refresh l.length at_ has = false) :
    Calls Try.prog 17 #[.agg #[.string nm, .int .u8 kind, .bool out, .int .i64 size, .int .i64 depth, .int .i64 refresh], .agg #[.slice x l.length cap, .int .i64 at_, .bool has], .int .i64 now] w fun e w' => e = .returned (.bool false) ∧ Below w.heap.size w w' := by
  have hB := ((Below.refl _ w).alloc (Nat.le_refl _) _).alloc (by simp) _ |> fun h : Below w.heap.size w ((w.alloc (.cells #[.string nm, .int .u8 kind, .bool out, .int .i64 size, .int .i64 depth, .int .i64 refresh] 23)).alloc (.cells #[.slice x l.length cap, .int .i64 at_, .bool has] 26)) => h
  go_enter Try.func17, Try.ntmps17
  go_wp2_with (first
    | (go_at_call 12; refine (Valid_any _ _ _ _ _ _ _ _ _ _ _ _).mono ?_; rintro e w1 ⟨rfl, hb⟩; rw [hv]; have g0 := later (a := ⟨w.heap.size, 0, none⟩) (v := .string nm) hb (by go_simp); have g1 := later (a := ⟨w.heap.size, 1, none⟩) (v := .int .u8 kind) hb (by go_simp); have g2 := later (a := ⟨w.heap.size, 2, none⟩) (v := .bool out) hb (by go_simp); have g3 := later (a := ⟨w.heap.size, 3, none⟩) (v := .int .i64 size) hb (by go_simp); have g4 := later (a := ⟨w.heap.size, 4, none⟩) (v := .int .i64 depth) hb (by go_simp); have g5 := later (a := ⟨w.heap.size, 5, none⟩) (v := .int .i64 refresh) hb (by go_simp); have g6 := later (a := ⟨w.heap.size + 1, 0, none⟩) (v := .slice x l.length cap) hb (by go_simp); have g7 := later (a := ⟨w.heap.size + 1, 1, none⟩) (v := .int .i64 at_) hb (by go_simp); have g8 := later (a := ⟨w.heap.size + 1, 2, none⟩) (v := .bool has) hb (by go_simp); replace hB := hB.trans (hb.mono (by simp <;> omega)); clear hb))
  go_ret
  exact ⟨rfl, hB⟩


set_option maxHeartbeats 400000 in
theorem ready_late (nm : ByteArray) (kind : Int) (out : Bool) (size depth refresh : Int) (x : Option Addr) (l : List UInt8) (cap : Nat) (at_ : Int) (has : Bool) (now : Int) (w : World) (hv : Smp.validB kind size depth refresh l.length at_ has = true) (ht : (decide (at_ ≤ now) && decide (now ≤ 1073741824)) = false) :
    Calls Try.prog 17 #[.agg #[.string nm, .int .u8 kind, .bool out, .int .i64 size, .int .i64 depth, .int .i64 refresh], .agg #[.slice x l.length cap, .int .i64 at_, .bool has], .int .i64 now] w fun e w' => e = .returned (.bool false) ∧ Below w.heap.size w w' := by
  have hB := ((Below.refl _ w).alloc (Nat.le_refl _) _).alloc (by simp) _ |> fun h : Below w.heap.size w ((w.alloc (.cells #[.string nm, .int .u8 kind, .bool out, .int .i64 size, .int .i64 depth, .int .i64 refresh] 23)).alloc (.cells #[.slice x l.length cap, .int .i64 at_, .bool has] 26)) => h
  go_enter Try.func17, Try.ntmps17
  go_wp2_with (first
    | (go_at_call 12; refine (Valid_any _ _ _ _ _ _ _ _ _ _ _ _).mono ?_; rintro e w1 ⟨rfl, hb⟩; rw [hv]; have g0 := later (a := ⟨w.heap.size, 0, none⟩) (v := .string nm) hb (by go_simp); have g1 := later (a := ⟨w.heap.size, 1, none⟩) (v := .int .u8 kind) hb (by go_simp); have g2 := later (a := ⟨w.heap.size, 2, none⟩) (v := .bool out) hb (by go_simp); have g3 := later (a := ⟨w.heap.size, 3, none⟩) (v := .int .i64 size) hb (by go_simp); have g4 := later (a := ⟨w.heap.size, 4, none⟩) (v := .int .i64 depth) hb (by go_simp); have g5 := later (a := ⟨w.heap.size, 5, none⟩) (v := .int .i64 refresh) hb (by go_simp); have g6 := later (a := ⟨w.heap.size + 1, 0, none⟩) (v := .slice x l.length cap) hb (by go_simp); have g7 := later (a := ⟨w.heap.size + 1, 1, none⟩) (v := .int .i64 at_) hb (by go_simp); have g8 := later (a := ⟨w.heap.size + 1, 2, none⟩) (v := .bool has) hb (by go_simp); replace hB := hB.trans (hb.mono (by simp <;> omega)); clear hb)
    | (go_at_call 23; refine (within_any _ _ _).mono ?_; rintro e w2 ⟨ca, cb, rfl, hca, hcb, hb2⟩; replace hB := hB.trans (hb2.mono hB.size); clear hb2)
    | (go_at_call 24; refine (in_any _ _ _ _ _ _ (by assumption) (by assumption)).mono ?_; rintro e w3 ⟨rfl, rfl⟩; rw [ht]))
  go_ret
  exact ⟨rfl, hB⟩


set_option maxHeartbeats 400000 in
theorem ready_yes (nm : ByteArray) (kind : Int) (out : Bool) (size depth refresh : Int) (x : Option Addr) (l : List UInt8) (cap : Nat) (at_ : Int) (has : Bool) (now : Int) (w : World) (hv : Smp.validB kind size depth refresh l.length at_ has = true) (ht : (decide (at_ ≤ now) && decide (now ≤ 1073741824)) = true) :
    Calls Try.prog 17 #[.agg #[.string nm, .int .u8 kind, .bool out, .int .i64 size, .int .i64 depth, .int .i64 refresh], .agg #[.slice x l.length cap, .int .i64 at_, .bool has], .int .i64 now] w fun e w' => e = .returned (.bool true) ∧ Below w.heap.size w w' := by
  have hB := ((Below.refl _ w).alloc (Nat.le_refl _) _).alloc (by simp) _ |> fun h : Below w.heap.size w ((w.alloc (.cells #[.string nm, .int .u8 kind, .bool out, .int .i64 size, .int .i64 depth, .int .i64 refresh] 23)).alloc (.cells #[.slice x l.length cap, .int .i64 at_, .bool has] 26)) => h
  go_enter Try.func17, Try.ntmps17
  go_wp2_with (first
    | (go_at_call 12; refine (Valid_any _ _ _ _ _ _ _ _ _ _ _ _).mono ?_; rintro e w1 ⟨rfl, hb⟩; rw [hv]; have g0 := later (a := ⟨w.heap.size, 0, none⟩) (v := .string nm) hb (by go_simp); have g1 := later (a := ⟨w.heap.size, 1, none⟩) (v := .int .u8 kind) hb (by go_simp); have g2 := later (a := ⟨w.heap.size, 2, none⟩) (v := .bool out) hb (by go_simp); have g3 := later (a := ⟨w.heap.size, 3, none⟩) (v := .int .i64 size) hb (by go_simp); have g4 := later (a := ⟨w.heap.size, 4, none⟩) (v := .int .i64 depth) hb (by go_simp); have g5 := later (a := ⟨w.heap.size, 5, none⟩) (v := .int .i64 refresh) hb (by go_simp); have g6 := later (a := ⟨w.heap.size + 1, 0, none⟩) (v := .slice x l.length cap) hb (by go_simp); have g7 := later (a := ⟨w.heap.size + 1, 1, none⟩) (v := .int .i64 at_) hb (by go_simp); have g8 := later (a := ⟨w.heap.size + 1, 2, none⟩) (v := .bool has) hb (by go_simp); replace hB := hB.trans (hb.mono (by simp <;> omega)); clear hb)
    | (go_at_call 23; refine (within_any _ _ _).mono ?_; rintro e w2 ⟨ca, cb, rfl, hca, hcb, hb2⟩; replace hB := hB.trans (hb2.mono hB.size); clear hb2)
    | (go_at_call 24; refine (in_any _ _ _ _ _ _ (by assumption) (by assumption)).mono ?_; rintro e w3 ⟨rfl, rfl⟩; rw [ht]))
  go_ret
  exact ⟨rfl, hB⟩


theorem ready_any (nm : ByteArray) (kind : Int) (out : Bool) (size depth refresh : Int) (x : Option Addr) (l : List UInt8) (cap : Nat) (at_ : Int) (has : Bool) (now : Int) (w : World) :
    Calls Try.prog 17 #[.agg #[.string nm, .int .u8 kind, .bool out, .int .i64 size, .int .i64 depth, .int .i64 refresh], .agg #[.slice x l.length cap, .int .i64 at_, .bool has], .int .i64 now] w fun e w' => e = .returned (.bool (Smp.readyB kind size depth refresh l.length at_ has now)) ∧ Below w.heap.size w w' := by
  unfold Smp.readyB
  cases hv : Smp.validB kind size depth refresh l.length at_ has with
  | false => rw [Bool.false_and]; exact ready_no nm kind out size depth refresh x l cap at_ has now w hv
  | true =>
    rw [Bool.true_and]
    cases ht : (decide (at_ ≤ now) && decide (now ≤ 1073741824)) with
    | false => exact ready_late nm kind out size depth refresh x l cap at_ has now w hv ht
    | true => exact ready_yes nm kind out size depth refresh x l cap at_ has now w hv ht


set_option maxHeartbeats 400000 in
theorem age_no (nm : ByteArray) (kind : Int) (out : Bool) (size depth refresh : Int) (x : Option Addr) (l : List UInt8) (cap : Nat) (at_ : Int) (has : Bool) (now : Int) (w : World) (hr : Smp.readyB kind size depth refresh l.length at_ has now = false) :
    Calls Try.prog 11 #[.agg #[.string nm, .int .u8 kind, .bool out, .int .i64 size, .int .i64 depth, .int .i64 refresh], .agg #[.slice x l.length cap, .int .i64 at_, .bool has], .int .i64 now] w fun e w' => e = .returned (.tuple #[.int .i64 0, .int .i64 2]) ∧ Below w.heap.size w w' := by
  have hB := ((Below.refl _ w).alloc (Nat.le_refl _) _).alloc (by simp) _ |> fun h : Below w.heap.size w ((w.alloc (.cells #[.string nm, .int .u8 kind, .bool out, .int .i64 size, .int .i64 depth, .int .i64 refresh] 23)).alloc (.cells #[.slice x l.length cap, .int .i64 at_, .bool has] 26)) => h
  go_enter Try.func11, Try.ntmps11
  go_wp2_with (go_at_call 17; refine (ready_any _ _ _ _ _ _ _ _ _ _ _ _ _).mono ?_; rintro e w1 ⟨rfl, hb⟩; rw [hr]; have g0 := later (a := ⟨w.heap.size, 0, none⟩) (v := .string nm) hb (by go_simp); have g1 := later (a := ⟨w.heap.size, 1, none⟩) (v := .int .u8 kind) hb (by go_simp); have g2 := later (a := ⟨w.heap.size, 2, none⟩) (v := .bool out) hb (by go_simp); have g3 := later (a := ⟨w.heap.size, 3, none⟩) (v := .int .i64 size) hb (by go_simp); have g4 := later (a := ⟨w.heap.size, 4, none⟩) (v := .int .i64 depth) hb (by go_simp); have g5 := later (a := ⟨w.heap.size, 5, none⟩) (v := .int .i64 refresh) hb (by go_simp); have g6 := later (a := ⟨w.heap.size + 1, 0, none⟩) (v := .slice x l.length cap) hb (by go_simp); have g7 := later (a := ⟨w.heap.size + 1, 1, none⟩) (v := .int .i64 at_) hb (by go_simp); have g8 := later (a := ⟨w.heap.size + 1, 2, none⟩) (v := .bool has) hb (by go_simp); replace hB := hB.trans (hb.mono (by simp <;> omega)); clear hb)
  go_ret2
  exact ⟨rfl, hB⟩


set_option maxHeartbeats 400000 in
theorem age_none (nm : ByteArray) (kind : Int) (out : Bool) (size depth refresh : Int) (x : Option Addr) (l : List UInt8) (cap : Nat) (at_ : Int) (has : Bool) (now : Int) (w : World) (hr : Smp.readyB kind size depth refresh l.length at_ has now = true) (hh : has = false) :
    Calls Try.prog 11 #[.agg #[.string nm, .int .u8 kind, .bool out, .int .i64 size, .int .i64 depth, .int .i64 refresh], .agg #[.slice x l.length cap, .int .i64 at_, .bool has], .int .i64 now] w fun e w' => e = .returned (.tuple #[.int .i64 0, .int .i64 6]) ∧ Below w.heap.size w w' := by
  have hB := ((Below.refl _ w).alloc (Nat.le_refl _) _).alloc (by simp) _ |> fun h : Below w.heap.size w ((w.alloc (.cells #[.string nm, .int .u8 kind, .bool out, .int .i64 size, .int .i64 depth, .int .i64 refresh] 23)).alloc (.cells #[.slice x l.length cap, .int .i64 at_, .bool has] 26)) => h
  subst hh
  go_enter Try.func11, Try.ntmps11
  go_wp2_with (go_at_call 17; refine (ready_any _ _ _ _ _ _ _ _ _ _ _ _ _).mono ?_; rintro e w1 ⟨rfl, hb⟩; rw [hr]; have g0 := later (a := ⟨w.heap.size, 0, none⟩) (v := .string nm) hb (by go_simp); have g1 := later (a := ⟨w.heap.size, 1, none⟩) (v := .int .u8 kind) hb (by go_simp); have g2 := later (a := ⟨w.heap.size, 2, none⟩) (v := .bool out) hb (by go_simp); have g3 := later (a := ⟨w.heap.size, 3, none⟩) (v := .int .i64 size) hb (by go_simp); have g4 := later (a := ⟨w.heap.size, 4, none⟩) (v := .int .i64 depth) hb (by go_simp); have g5 := later (a := ⟨w.heap.size, 5, none⟩) (v := .int .i64 refresh) hb (by go_simp); have g6 := later (a := ⟨w.heap.size + 1, 0, none⟩) (v := .slice x l.length cap) hb (by go_simp); have g7 := later (a := ⟨w.heap.size + 1, 1, none⟩) (v := .int .i64 at_) hb (by go_simp); have g8 := later (a := ⟨w.heap.size + 1, 2, none⟩) (v := .bool false) hb (by go_simp); replace hB := hB.trans (hb.mono (by simp <;> omega)); clear hb)
  go_ret2
  exact ⟨rfl, hB⟩


set_option maxHeartbeats 400000 in
theorem age_yes (nm : ByteArray) (kind : Int) (out : Bool) (size depth refresh : Int) (x : Option Addr) (l : List UInt8) (cap : Nat) (at_ : Int) (has : Bool) (now : Int) (w : World) (hr : Smp.readyB kind size depth refresh l.length at_ has now = true) (hh : has = true) :
    Calls Try.prog 11 #[.agg #[.string nm, .int .u8 kind, .bool out, .int .i64 size, .int .i64 depth, .int .i64 refresh], .agg #[.slice x l.length cap, .int .i64 at_, .bool has], .int .i64 now] w fun e w' => e = .returned (.tuple #[.int .i64 (now - at_), .int .i64 0]) ∧ Below w.heap.size w w' := by
  have hB := ((Below.refl _ w).alloc (Nat.le_refl _) _).alloc (by simp) _ |> fun h : Below w.heap.size w ((w.alloc (.cells #[.string nm, .int .u8 kind, .bool out, .int .i64 size, .int .i64 depth, .int .i64 refresh] 23)).alloc (.cells #[.slice x l.length cap, .int .i64 at_, .bool has] 26)) => h
  subst hh
  obtain ⟨hv, hn1, hn2⟩ := Smp.ready_at hr
  have ha1 := (Smp.valid_at hv).2.2.2.2.2.2.1
  have ha2 := (Smp.valid_at hv).2.2.2.2.2.2.2.1
  clear hv
  go_enter Try.func11, Try.ntmps11
  go_wp2_with (go_at_call 17; refine (ready_any _ _ _ _ _ _ _ _ _ _ _ _ _).mono ?_; rintro e w1 ⟨rfl, hb⟩; rw [hr]; have g0 := later (a := ⟨w.heap.size, 0, none⟩) (v := .string nm) hb (by go_simp); have g1 := later (a := ⟨w.heap.size, 1, none⟩) (v := .int .u8 kind) hb (by go_simp); have g2 := later (a := ⟨w.heap.size, 2, none⟩) (v := .bool out) hb (by go_simp); have g3 := later (a := ⟨w.heap.size, 3, none⟩) (v := .int .i64 size) hb (by go_simp); have g4 := later (a := ⟨w.heap.size, 4, none⟩) (v := .int .i64 depth) hb (by go_simp); have g5 := later (a := ⟨w.heap.size, 5, none⟩) (v := .int .i64 refresh) hb (by go_simp); have g6 := later (a := ⟨w.heap.size + 1, 0, none⟩) (v := .slice x l.length cap) hb (by go_simp); have g7 := later (a := ⟨w.heap.size + 1, 1, none⟩) (v := .int .i64 at_) hb (by go_simp); have g8 := later (a := ⟨w.heap.size + 1, 2, none⟩) (v := .bool true) hb (by go_simp); replace hB := hB.trans (hb.mono (by simp <;> omega)); clear hb)
  go_ret2
  exact ⟨rfl, hB⟩


end Go.Proofs.Ytmeaelahmajheaa
