/- WALKS of the sign layer: Root. -/
import Derived.Test.YtjpicnfkmfjnoaaSgnE
namespace Go.Proofs.Ytjpicnfkmfjnoaa
open Go.RowKit

attribute [local go_sem] Oper.semAt_some
theorem valid_yes (h : Nat) (q : Int) (h6 : h ≤ 6) (q0 : 0 ≤ q) (hq : q < 2 ^ h) (w : World) : Calls Try.prog 43 #[.int .i64 (h : Int), .int .i64 q] w fun e w' => e = .returned (.bool true) ∧ w' = w := by
  have e : vldS (h : Int) q = true := by
    unfold vldS
    have h2 : (2 : Int) ^ ((h : Int).toNat) = 2 ^ h := by rw [Int.toNat_natCast]
    rw [h2]
    exact decide_eq_true ⟨by omega, by omega, q0, hq⟩
  rw [← e]
  exact valid_any _ _ _
theorem valid_no (h q : Int) (hn : vldS h q = false) (w : World) : Calls Try.prog 43 #[.int .i64 h, .int .i64 q] w fun e w' => e = .returned (.bool false) ∧ w' = w := by
  rw [← hn]; exact valid_any _ _ _
theorem rowV_loop {L : Nat} {seed : D64} {h : Nat} (k : Nat) (v : Nat × Nat) (A B : World) (hv : RowV seed h k v A) (hl : ∃ r, A.heap[L]? = some (.loop r)) (ht : Turns (fun b => b = L) A B) : RowV seed h k v B := by
  obtain ⟨r, hr⟩ := hl
  obtain ⟨h1, h2⟩ := hv
  refine ⟨h1, ?_⟩
  rcases h2 with h2 | ⟨b, o, hx, hc⟩
  · exact .inl h2
  · refine .inr ⟨b, o, hx, fun i hi => ht.cell ?_ (hc i hi)⟩
    rintro rfl
    have := hc i hi
    unfold World.cell? at this
    simp [hr] at this
theorem rowV_first {seed : D64} {h k : Nat} {v : Nat × Nat} {W : World} (hv : RowV seed h k v W) : W.cell? ⟨v.1, 0, none⟩ = some (.int .u64 (num (Sgn.node seed k 0))) ∧ 0 < v.2 := by
  obtain ⟨h1, h2⟩ := hv
  have hp : 0 < 2 ^ (h - k) := Nat.two_pow_pos _
  rcases h2 with h2 | ⟨b, o, hx, hc⟩
  · have := Sgn.row_length seed h k
    rw [h2] at this
    simp at this
    omega
  · cases hx
    have := hc 0 (by rw [Sgn.row_length]; exact hp)
    rw [Sgn.row_getD _ _ _ _ hp] at this
    exact ⟨this, by omega⟩

theorem root_bad (seed : D64) (h : Int) (hn : vldS h 0 = false) (w : World) : Calls Try.prog 17 #[.int .u64 (num seed), .int .i64 h] w fun e w' => e = .returned (.tuple #[.int .u64 0, .int .i64 2]) ∧ Below w.heap.size w w' := by
  refine (callsIn_wide (n := 5)).1 ?_
  refine callsIn_of_wp_marks Try.func17 rfl trivial ?_ rfl
  simp only [Try.ntmps17, List.size_toArray, List.length_cons, List.length_nil, Nat.reduceAdd, Nat.reduceSub, Array.replicate_succ, Array.replicate_zero, List.push_toArray, List.append_toArray, List.nil_append, List.cons_append]
  gi_wp2_with (refine ⟨trivial, ?_⟩; gi_at_call 43; refine (callsIn_wide.2 (valid_no h 0 hn _)).mono ?_; rintro e w1 ⟨rfl, hw⟩; obtain rfl : w = w1 := hw.symm)
  exact ret_plain (.tuple #[.int .u64 0, .int .i64 2]) (by simp [results, Try.f17, go_sem]) ⟨rfl, Below.refl _ _⟩

def RoI (seed : D64) (w : World) (k : Nat) (S : List Nat) (W : World) : Prop :=
  S = [w.heap.size] ∧ Below w.heap.size w W ∧ W.cell? ⟨w.heap.size, 0, none⟩ = some (.int .u64 (num (if k = 0 then 0#64 else Sgn.node seed (k - 1) 0))) ∧ W.frozen? ⟨w.heap.size, 0, none⟩ = false
theorem RoI.turn {seed : D64} {w : World} {k : Nat} {S : List Nat} {A B : World} {T : Nat → Prop} (h : RoI seed w k S A) (ht : Turns T A B) (hT : ∀ b, T b → w.heap.size + 1 ≤ b) : RoI seed w k S B := by
  obtain ⟨hS, hB, c0, f0⟩ := h
  have ne : ∀ b, b < w.heap.size + 1 → ¬ T b := fun b hb e => by have := hT b e; omega
  exact ⟨hS, hB.trans (ht.below hB.size (fun i hi => ne i (by omega))), ht.cell (ne w.heap.size (by omega)) c0, ht.frozen (ne w.heap.size (by omega)) (World.block_lt_of_cell? _ _ c0) f0⟩

set_option maxHeartbeats 1000000 in
theorem root_ok (seed : D64) (h : Nat) (h6 : h ≤ 6) (w : World) : Calls Try.prog 17 #[.int .u64 (num seed), .int .i64 (h : Int)] w fun e w' => e = .returned (.tuple #[.int .u64 (num (Sgn.node seed h 0)), .int .i64 0]) ∧ Below w.heap.size w w' := by
  have hq : (0 : Int) < 2 ^ h := by
    have : (0 : Int) < ((2 ^ h : Nat) : Int) := by exact_mod_cast Nat.two_pow_pos h
    simpa using this
  refine (callsIn_wide (n := 5)).1 ?_
  refine callsIn_of_wp_marks Try.func17 rfl trivial ?_ rfl
  simp only [Try.ntmps17, List.size_toArray, List.length_cons, List.length_nil, Nat.reduceAdd, Nat.reduceSub, Array.replicate_succ, Array.replicate_zero, List.push_toArray, List.append_toArray, List.nil_append, List.cons_append]
  gi_wp2_with (first | (refine ⟨trivial, ?_⟩; gi_at_call 43; refine (callsIn_wide.2 (valid_yes h 0 h6 (by omega) hq _)).mono ?_; rintro e w1 ⟨rfl, hw⟩; obtain rfl : w = w1 := hw.symm) | (refine ⟨trivial, ?_⟩; gi_at_call 44; refine (callsIn_wide.2 (levels_any seed (h : Int) _)).mono ?_; rintro e w1 ⟨rfl, rfl⟩))
  clear hq
  have hb : (((w.alloc (.cells #[.int .u64 0] 22)).alloc (.cells #[.int .u64 (num seed)] 22)).alloc (.cells #[.int .i64 (h : Int)] 3)).cell? ⟨w.heap.size + 1 + 1, 0, none⟩ = some (.int .i64 (h : Int)) := by go_simp
  have sb : (((w.alloc (.cells #[.int .u64 0] 22)).alloc (.cells #[.int .u64 (num seed)] 22)).alloc (.cells #[.int .i64 (h : Int)] 3)).cell? ⟨w.heap.size + 1, 0, none⟩ = some (.int .u64 (num seed)) := by go_simp
  have hB0 := al (al (al (Below.refl _ w) (.cells #[.int .u64 0] 22)) (.cells #[.int .u64 (num seed)] 22)) (.cells #[.int .i64 (h : Int)] 3)
  refine wpIn_rangeV (α := Nat × Nat) (encs := rowE) (len := h + 1) (V := RowV seed h) (stops := True) (T := fun _ => False) (gf := 57) (lb := #[.pointer (some ⟨w.heap.size + 1 + 1, 0, none⟩), .pointer (some ⟨w.heap.size + 1, 0, none⟩)]) rfl (enters_of Try.func57 (by kernel_rfl) rfl) (fun _ e => e.elim)
    (levels1_in (5 - 1) (by omega) _ _ seed h _ h6 hb sb) (fun k v A B h hl ht => rowV_loop k v A B h hl ht) (fun _ => rfl) (RoI seed w) (fun _ _ _ _ => False) [w.heap.size] (fun b hb => by simp at hb ⊢; omega) ?hI (fun _ _ _ _ _ h => h.elim) (.inl trivial) ?h0
    (fun v => { tmps := #[.int .u64 (num seed), .int .i64 (h : Int), undef, undef, .int .u64 0, .int .i64 0, .pointer (some ⟨w.heap.size, 0, none⟩), .slice (some ⟨v.1, 0, none⟩) v.2 v.2, .int .i64 (h : Int), .bool true, .bool false, .int .u64 (num seed), .int .i64 (h : Int), .func (.func 57) #[] #[.pointer (some ⟨w.heap.size + 1 + 1, 0, none⟩), .pointer (some ⟨w.heap.size + 1, 0, none⟩)], .slice (some ⟨v.1, 0, none⟩) v.2 v.2, undef, undef, undef, undef], defers := [] }) ?assign ?body ?done ?stop
  case hI =>
    intro k S A B h ht
    exact h.turn ht (by rintro b (h | rfl | rfl) <;> first | exact h.elim | (simp <;> omega))
  case h0 => exact ⟨rfl, hB0, by go_simp; rfl, by go_simp⟩
  case assign =>
    intro x W K hK
    simp only [rowE]
    gi_wp2_with fail
    exact hK
  case body =>
    rintro k S v W hk hz hv ⟨rfl, hB, c0, f0⟩ hS
    clear hb sb hB0
    obtain ⟨r0, r1⟩ := rowV_first hv
    have d1 : decide ((0 : Int) < (v.2 : Int)) = true := by simp; omega
    gi_wp2_with fail
    exact ⟨_, fun b hb => ⟨by have := hS b hb; simpa using this, .inl hb⟩, (Turns.refl _ W).setCell (fun _ => by simp) _, rfl, hB.setCell (p := ⟨w.heap.size, 0, none⟩) (by simp) _, by simp only [Nat.add_sub_cancel, Nat.add_one_ne_zero, if_false]; go_simp, by go_simp⟩
  case done =>
    rintro S W hz ⟨rfl, hB, c0, f0⟩ hK
    clear hb sb hB0
    simp only [Nat.add_sub_cancel, Nat.add_one_ne_zero, if_false] at c0
    have hs0 : w.heap.size < W.heap.size := World.block_lt_of_cell? _ _ c0
    gi_wp2_with fail
    refine ret_mark (.tuple #[.int .u64 (num (Sgn.node seed h 0)), .int .i64 0]) hK (fun W3 ht3 => ?_)
    refine ⟨by simp [results, Try.f17, go_sem], rfl, hB.trans (ht3.below (by omega) (fun i hi e => by simp at e; omega))⟩
  case stop =>
    rintro c k S W hk hz h hK
    exact h.elim

end Go.Proofs.Ytjpicnfkmfjnoaa
