/- Plain facts on what is refused. No program is in sight here. -/
import Derived.Test.YtapefonhgkjgnaaLdY
set_option maxRecDepth 20000
namespace Go.Proofs.Ytapefonhgkjgnaa
open Go.RowKit
namespace Ld
open Dig Sgn

theorem cdI_arg {ls : List (List UInt8)} {s : Sw} {root : D} {g : Int} (h : (usable ls && s.vld) = false) : cdI ls s root g = 2 := by
  unfold cdI
  rw [h]
  rfl
theorem cdI_gen {ls : List (List UInt8)} {s : Sw} {root : D} {g : Int} (hu : St ls) (hv : s.vld = true) (h : genu s root g = false) : cdI ls s root g = 381 := by
  unfold cdI
  rw [hu.use, hv, h]
  rfl
theorem not_usable {ls : List (List UInt8)} (h : ls.length ≠ 34) : usable ls = false := by
  unfold usable
  rw [decide_eq_false h, Bool.and_false]
theorem genu_h {s : Sw} {root : D} {g : Int} (h : (s.path.length : Int) ≠ g) : genu s root g = false := by
  unfold genu
  rw [decide_eq_false h, Bool.false_and, Bool.and_false]
/-- A store into which one software was installed holds none of another height. -/
theorem none_h {ls : List (List UInt8)} (h : Idle ls) {s : Sw} {root : D} {g g' : Int} (hN : s.N) (hv : s.vld = true) (hg : genu s root g = true) {os : List OpV} (ho : os.map opP = insP ls s root g) (hp : (s.path.length : Int) ≠ g') :
    ixR (runL ls os) root g' = -1 ∧ cdR (runL ls os) root g' = 6 := by
  obtain ⟨hr, _⟩ := run_first h hN hv hg ho
  obtain ⟨_, e⟩ := ins_idle h hv hg
  rw [e] at ho
  obtain ⟨c1, c2, _⟩ := ckN_form s hv
  obtain ⟨hs, he⟩ := runAll ho h.st (by omega) c2 (by omega) (by rw [rbytes_len]; omega)
  have k0 : okL (runL ls os) 0 root g' = false := by
    cases hk : okL (runL ls os) 0 root g' with
    | false => rfl
    | true =>
      have := ((okL_iff _ _ _ _).1 hk).2.2.2.2.2
      rw [hr.sw, genu_h hp] at this
      cases this
  have k1 : okL (runL ls os) 1 root g' = false := by
    refine okL_read ?_
    have e1 : (runL ls os).getD 1 [] = ls.getD 1 [] := by rw [he 1 (by omega), if_neg (by omega), if_neg (by omega)]
    rw [(rd_eq hs h.st 1 (by omega) e1).1]
    exact h.r1
  have ha : atR (runL ls os) root g' = -1 := by unfold atR; rw [k0, k1]; rfl
  refine ⟨?_, ?_⟩
  · unfold ixR; rw [hs.use, if_pos rfl, ha]
  · unfold cdR; rw [hs.use, if_pos rfl, ha]; rfl
theorem no_store (root : D) (g : Int) : ixR [] root g = -1 ∧ cdR [] root g = 2 := by
  have hu : usable [] = false := not_usable (by decide)
  refine ⟨?_, ?_⟩
  · unfold ixR; rw [hu]; rfl
  · unfold cdR; rw [hu]; rfl
end Ld
/-- Running answers with an index below zero. -/
def RnN (z : Int) (w : World) (e : Ending) (w' : World) : Prop := ∃ s sa, e = .returned (.tuple #[aggN 23 (softV s sa), .int .i64 (-1), .int .i64 z]) ∧ SwIn w' s sa ∧ SwNew w.heap.size sa ∧ Below w.heap.size w w'
theorem rn_n {B : Nat} {x : Option Addr} {rs : List Rw} {ls : List (List UInt8)} {root : D64} {g z : Int} (c : Nat) (w : World) (h : StoIn B w x rs ls) (hs : Ld.St ls) (hr : Ld.ixR ls root g = -1 ∧ Ld.cdR ls root g = z) :
    Calls Try.prog 21 #[.agg #[.slice x 34 c], .int .u64 (num root), .int .i64 g] w (RnN z w) := by
  have hl := h.len hs
  have := running2_any x rs c root g w h.rws (by omega)
  rw [hl, h.eq] at this
  refine this.mono ?_
  rintro e w' ⟨sa, rfl, h1, h2, h3⟩
  exact ⟨_, sa, by rw [hr.1, hr.2], h1, h2, h3⟩
theorem rn_e (root : D64) (g : Int) (w : World) : Calls Try.prog 21 #[.agg #[.slice none 0 0], .int .u64 (num root), .int .i64 g] w (RnN 2 w) := by
  refine (running2_any none [] 0 root g w ⟨.inl rfl, fun r hr => by cases hr⟩ (by simp)).mono ?_
  rintro e w' ⟨sa, rfl, h1, h2, h3⟩
  obtain ⟨e1, e2⟩ := Ld.no_store root g
  exact ⟨_, sa, by rw [show ([] : List Rw).map (·.l) = [] from rfl, e1, e2], h1, h2, h3⟩

end Go.Proofs.Ytapefonhgkjgnaa
