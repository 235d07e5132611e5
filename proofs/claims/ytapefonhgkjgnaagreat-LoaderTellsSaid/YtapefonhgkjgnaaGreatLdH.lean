/- WALKS of the loader: Unpack. -/
import Derived.Test.YtapefonhgkjgnaaGreatLdG
set_option maxRecDepth 20000
namespace Go.Proofs.YtapefonhgkjgnaaGreat
open Go.RowKit

theorem Bts.dropA {w : World} {a : Addr} {l : List UInt8} (h : Bts w (some a) l) (n : Nat) : Bts w (some (a.add n)) (l.drop n) := by
  rcases h with h | ⟨b, o, hx, hc⟩
  · subst h; exact .inl (by simp)
  · cases hx
    by_cases h0 : n = 0
    · subst h0; exact .inr ⟨b, o, rfl, hc⟩
    · refine .inr ⟨b, o + n, by unfold Addr.add; rw [if_neg h0], fun i hi => ?_⟩
      rw [List.length_drop] at hi
      have := hc (n + i) (by omega)
      rw [show o + n + i = o + (n + i) by omega, this]
      simp [List.getD_eq_getElem?_getD, List.getElem?_drop]
/-- What the closure of Unpack holds: the bytes that are left, and whether too few were there. -/
def TS (C b1 b2 : Nat) (r : List UInt8 × Bool) (W : World) : Prop :=
  ∃ x c, W.cell? ⟨b1, 0, none⟩ = some (.slice x r.1.length c) ∧ Bts W x r.1 ∧ (x = none → c = 0) ∧ r.1.length ≤ c ∧ c ≤ 9223372036854775807 ∧ (∀ a, x = some a → a.block < C) ∧ W.cell? ⟨b2, 0, none⟩ = some (.bool r.2) ∧ W.frozen? ⟨b1, 0, none⟩ = false ∧ W.frozen? ⟨b2, 0, none⟩ = false
theorem TS.turn {C b1 b2 : Nat} {r : List UInt8 × Bool} {A B : World} {T : Nat → Prop} (h : TS C b1 b2 r A) (ht : Turns T A B) (hT : ∀ b, T b → C ≤ b ∧ b ≠ b1 ∧ b ≠ b2) : TS C b1 b2 r B := by
  obtain ⟨x, c, h1, h2, h3, h4, h5, h6, h7, h8, h9⟩ := h
  have n1 : ¬ T b1 := fun e => (hT _ e).2.1 rfl
  have n2 : ¬ T b2 := fun e => (hT _ e).2.2 rfl
  exact ⟨x, c, ht.cell n1 h1, h2.turn ht (fun a e k => by have := h6 a e; have := (hT _ k).1; omega), h3, h4, h5, h6, ht.cell n2 h7, ht.frozen n1 (World.block_lt_of_cell? _ _ h1) h8, ht.frozen n2 (World.block_lt_of_cell? _ _ h7) h9⟩
def TakeOf (C D b1 b2 n : Nat) (r : List UInt8 × Bool) (W : World) (e : Ending) (W' : World) : Prop :=
  ∃ y cy, e = .returned (.slice y n cy) ∧ Bts W' y (Ld.tk n r).1 ∧ (y = none → cy = 0) ∧ (∀ a, y = some a → a.block < C ∨ D ≤ a.block) ∧ TS C b1 b2 (Ld.tk n r).2 W' ∧ Turns (fun b => b = b1 ∨ b = b2) W W' ∧ Below C W W'
set_option maxHeartbeats 400000 in
theorem take_any (C D b1 b2 n : Nat) (r : List UInt8 × Bool) (W : World) (h : TS C b1 b2 r W) (hC : C ≤ b1 ∧ C ≤ b2 ∧ b1 ≠ b2 ∧ b1 < D ∧ b2 < D) (hD : D ≤ W.heap.size) (hn : n ≤ 70000) :
    Calls Tryz.prog 30 #[.int .i64 (n : Int), .pointer (some ⟨b1, 0, none⟩), .pointer (some ⟨b2, 0, none⟩)] W (TakeOf C D b1 b2 n r W) := by
  obtain ⟨l, f⟩ := r
  obtain ⟨x, c, h1, h2, h3, h4, h5, h6, h7, h8, h9⟩ := h
  simp only at h1 h2 h4 h7
  have hmk := run_zeros n (by omega)
  by_cases hs : l.length < n
  · have hd : decide ((n : Int) > (l.length : Int)) = true := by simp; omega
    have hd2 : decide ((l.length : Int) < (n : Int)) = true := by simp; omega
    have z1 := World.block_lt_of_cell? _ _ h1
    have z2 := World.block_lt_of_cell? _ _ h7
    simp only at z1 z2
    go_enter Tryz.func30, Tryz.ntmps30
    go_wp2_with fail
    go_ret
    have hr : Ld.tk n (l, f) = (List.replicate n 0, (l, true)) := by unfold Ld.tk; rw [if_pos hs]
    unfold TakeOf
    rw [hr]
    have hT : Turns (fun b => b = b1 ∨ b = b2) W ((W.setCell ⟨b2, 0, none⟩ (.bool true)).alloc (.cells (zeroB n) 5)) := ((Turns.refl _ W).setCell (fun _ => .inr rfl) _).alloc _
    refine ⟨some ⟨W.heap.size, 0, none⟩, n, by simp, ?_, (fun e => by cases e), fun a e => ?_, ⟨x, c, ?_, h2.turn hT (fun a e k => ?_), h3, h4, h5, h6, ?_, ?_, ?_⟩, hT, hT.below (by omega) (fun i hi k => ?_)⟩
    · exact (OwnsB.zeros W.heap.size W.heap.size n (W.setCell ⟨b2, 0, none⟩ (.bool true)) (by simp) (by simp) (by omega)).bts
    · cases e; exact .inr hD
    · go_simp
    · have := h6 a e
      rcases k with k | k <;> omega
    · go_simp
    · go_simp
    · go_simp
    · rcases k with k | k <;> omega
  · have hr : Ld.tk n (l, f) = (l.take n, (l.drop n, f)) := by unfold Ld.tk; rw [if_neg hs]
    have hdl : (l.drop n).length = l.length - n := List.length_drop ..
    have htl : (l.take n).length = n := by rw [List.length_take]; omega
    unfold TakeOf
    rw [hr]
    have z1 := World.block_lt_of_cell? _ _ h1
    have z2 := World.block_lt_of_cell? _ _ h7
    simp only at z1 z2
    cases x with
    | none =>
      obtain rfl := h3 rfl
      have hl : l = [] := List.eq_nil_of_length_eq_zero (by omega)
      subst hl
      obtain rfl : n = 0 := by simp at hs; omega
      clear hr hdl htl
      go_enter Tryz.func30, Tryz.ntmps30
      go_wp2_with fail
      go_ret
      have hT : Turns (fun b => b = b1 ∨ b = b2) W (W.setCell ⟨b1, 0, none⟩ (.slice none 0 0)) := (Turns.refl _ W).setCell (fun _ => .inl rfl) _
      refine ⟨none, 0, rfl, .inl rfl, fun _ => rfl, (fun a e => by cases e), ⟨none, 0, ?_, .inl rfl, fun _ => rfl, Nat.le_refl _, by omega, h6, ?_, ?_, ?_⟩, hT, hT.below (by omega) (fun i hi k => ?_)⟩
      · go_simp
      · go_simp
      · go_simp
      · go_simp
      · rcases k with k | k <;> omega
    | some a =>
      obtain ⟨g, o, t⟩ := a
      have hg : g < C := h6 _ rfl
      have hd : decide ((n : Int) > (l.length : Int)) = false := by simp; omega
      have hd2 : decide ((l.length : Int) < (n : Int)) = false := by simp; omega
      have k0 : (0 : Int) ≤ (n : Int) := by omega
      have k1 : (n : Int) ≤ (c : Int) := by omega
      have k2 : (n : Int) ≤ (l.length : Int) := by omega
      have k3 : (l.length : Int) ≤ (c : Int) := by omega
      have k4 : n ≤ l.length := by omega
      have k5 : n ≤ c := by omega
      have hTa : ∀ v, Turns (fun b => b = b1 ∨ b = b2) W (W.setCell ⟨b1, 0, none⟩ v) := fun v => (Turns.refl _ W).setCell (fun _ => .inl rfl) v
      have h2t : ∀ v, Bts (W.setCell ⟨b1, 0, none⟩ v) (some ⟨g, o, t⟩) l := fun v => h2.turn (hTa v) (fun a e k => by cases e; rcases k with k | k <;> (simp only at k; omega))
      have HDL := Lib.hid hdl
      have HTT := Lib.hid hTa
      have HBB := Lib.hid h2t
      clear hr hdl htl hTa h2t h2
      by_cases hcn : c = n
      · subst hcn
        go_enter Tryz.func30, Tryz.ntmps30
        go_wp2_with fail
        go_ret
        refine ⟨some ⟨g, o, t⟩, c, rfl, (HBB.out _).take c, (fun e => by cases e), (fun a e => by cases e; exact .inl hg), ⟨some ⟨g, o, t⟩, 0, ?_, ?_, (fun e => by cases e), ?_, by omega, (fun a e => by cases e; exact hg), ?_, ?_, ?_⟩, HTT.out _, (HTT.out _).below (by omega) (fun i hi k => ?_)⟩
        · rw [HDL.out]; go_simp
        · have : l.drop c = [] := by rw [List.drop_eq_nil_iff]; omega
          exact .inl this
        · rw [HDL.out]; omega
        · go_simp
        · go_simp
        · go_simp
        · rcases k with k | k <;> omega
      · go_enter Tryz.func30, Tryz.ntmps30
        go_wp2_with fail
        go_ret
        have hab : (Addr.add ⟨g, o, t⟩ n).block = g := by unfold Addr.add; split <;> rfl
        refine ⟨some ⟨g, o, t⟩, c, rfl, (HBB.out _).take n, (fun e => by cases e), (fun a e => by cases e; exact .inl hg), ⟨some (Addr.add ⟨g, o, t⟩ n), c - n, ?_, ?_, (fun e => by cases e), ?_, by omega, (fun a e => by cases e; rw [hab]; exact hg), ?_, ?_, ?_⟩, HTT.out _, (HTT.out _).below (by omega) (fun i hi k => ?_)⟩
        · rw [HDL.out]; go_simp
        · exact (HBB.out _).dropA n
        · rw [HDL.out]; omega
        · go_simp
        · go_simp
        · go_simp
        · rcases k with k | k <;> omega

end Go.Proofs.YtapefonhgkjgnaaGreat
