/- Plain facts on how the reference unpacks: it answers as the loader does. No program is in sight here. -/
import Derived.Test.YtapefonhgkjgnaaGreatLdP
namespace Go.Proofs.YtapefonhgkjgnaaGreat
namespace Ld
open Dig Sgn

def rN (d : List UInt8) : Nat := (d.getD 0 0).toNat
def rZ (d : List UInt8) : Nat := nat ((d.drop (5 + rN d)).take 2)
def rRest (d : List UInt8) : List UInt8 := d.drop (7 + rN d + rZ d)
/-- The software that the reference reads from bytes. -/
def rsw (d : List UInt8) : Sw := ⟨(d.drop 1).take (rN d), (nat ((d.drop (1 + rN d)).take 4) : Int), (d.drop (7 + rN d)).take (rZ d), dKey (rRest d), dCh (rRest d), dPath (rRest d)⟩
def rLong (d : List UInt8) : Prop := 1 ≤ d.length ∧ 7 + rN d ≤ d.length ∧ 7 + rN d + rZ d ≤ d.length
theorem take_app (a b : List UInt8) (n : Nat) (h : a.length = n) : (a ++ b).take n = a := by subst h; simp
theorem drop_app (a b : List UInt8) (n : Nat) (h : a.length = n) : (a ++ b).drop n = b := by subst h; simp
theorem unp_some' {d : List UInt8} {s : Sw} (h : unp d = some s) : okU d = true ∧ swOf d = s := by
  unfold unp at h
  by_cases ho : okU d = true
  · rw [if_pos ho] at h; exact ⟨ho, Option.some.inj h⟩
  · rw [if_neg ho] at h; cases h
theorem rsw_eq' {d : List UInt8} (h : short d = false) : rLong d ∧ rsw d = swOf d ∧ rRest d = rest d := by
  obtain ⟨h4, e5⟩ := r5_long d h
  obtain ⟨h3, e4⟩ := r4_long d h4
  obtain ⟨h2, e3⟩ := r3_long d h3
  obtain ⟨h1, e2⟩ := r2_long d h2
  obtain ⟨_, e1⟩ := r1_long d h1
  have l1 := r1_len d
  have l2 := r2_len d
  have l3 := r3_len d
  have l4 := r4_len d
  have l5 := r5_len d
  have hs : swOf d = ⟨(r2 d).1, (nat (r3 d).1 : Int), (r5 d).1, dKey (rest d), dCh (rest d), dPath (rest d)⟩ := rfl
  rw [hs]
  obtain ⟨a1, ha1⟩ : ∃ a, (r1 d).1 = a := ⟨_, rfl⟩
  obtain ⟨a2, ha2⟩ : ∃ a, (r2 d).1 = a := ⟨_, rfl⟩
  obtain ⟨a3, ha3⟩ : ∃ a, (r3 d).1 = a := ⟨_, rfl⟩
  obtain ⟨a4, ha4⟩ : ∃ a, (r4 d).1 = a := ⟨_, rfl⟩
  obtain ⟨a5, ha5⟩ : ∃ a, (r5 d).1 = a := ⟨_, rfl⟩
  obtain ⟨a6, ha6⟩ : ∃ a, rest d = a := ⟨_, rfl⟩
  rw [ha1] at e1 l1 l2
  rw [ha2] at e2 l2
  rw [ha3] at e3 l3
  rw [ha4] at e4 l4 l5
  rw [ha5, ha6] at e5
  rw [ha5] at l5
  rw [ha2, ha3, ha5, ha6]
  rw [e2, e3, e4, e5] at e1
  clear ha1 ha2 ha3 ha4 ha5 ha6 e2 e3 e4 e5 h h1 h2 h3 h4 hs
  have hd : d = a1 ++ (a2 ++ (a3 ++ (a4 ++ (a5 ++ a6)))) := e1
  have g0 : d.getD 0 0 = a1.getD 0 0 := by rw [hd]; exact getD_app1 _ _ 0 (by omega)
  have hn : rN d = a2.length := by unfold rN; rw [g0, l2]
  have hlen : d.length = 7 + a2.length + a5.length + a6.length := by rw [hd]; simp only [List.length_append]; omega
  have d1 : d.drop 1 = a2 ++ (a3 ++ (a4 ++ (a5 ++ a6))) := by rw [hd]; exact drop_app _ _ _ l1
  have d2 : d.drop (1 + a2.length) = a3 ++ (a4 ++ (a5 ++ a6)) := by rw [← List.drop_drop, d1]; exact drop_app _ _ _ rfl
  have d3 : d.drop (5 + a2.length) = a4 ++ (a5 ++ a6) := by rw [show 5 + a2.length = (1 + a2.length) + 4 by omega, ← List.drop_drop, d2]; exact drop_app _ _ _ l3
  have d4 : d.drop (7 + a2.length) = a5 ++ a6 := by rw [show 7 + a2.length = (5 + a2.length) + 2 by omega, ← List.drop_drop, d3]; exact drop_app _ _ _ l4
  have hz : rZ d = a5.length := by unfold rZ; rw [hn, d3, take_app _ _ _ l4, l5]
  have d5 : rRest d = a6 := by unfold rRest; rw [hn, hz, ← List.drop_drop, d4]; exact drop_app _ _ _ rfl
  refine ⟨⟨by omega, by rw [hn]; omega, by rw [hn, hz]; omega⟩, ?_⟩
  refine ⟨?_, d5⟩
  unfold rsw
  rw [d5, hn, hz, d1, d2, d4, take_app _ _ _ rfl, take_app _ _ _ l3, take_app _ _ _ rfl]
theorem rsw_eq {d : List UInt8} (h : short d = false) : rLong d ∧ rsw d = swOf d := ⟨(rsw_eq' h).1, (rsw_eq' h).2.1⟩
theorem rest_eq {d : List UInt8} (h : short d = false) : rRest d = rest d := (rsw_eq' h).2.2
theorem rsw_N (d : List UInt8) : (rsw d).N := by
  show cut18 (dCh (rRest d)) = dCh (rRest d)
  unfold dCh
  split
  · exact cut18_idem _
  · funext j; unfold cut18; split <;> rfl
/-- What the reference accepts is what the loader accepts. -/
theorem rok_iff (d : List UInt8) : (rLong d ∧ decN (rRest d) = true ∧ (rsw d).vld = true ∧ form (rsw d) = d) ↔ okU d = true := by
  constructor
  · rintro ⟨_, _, hv, hf⟩
    have := form_unp (rsw d) (rsw_N d) hv
    rw [hf] at this
    exact (unp_some' this).1
  · intro h
    have hsh : short d = false := by unfold okU at h; simp only [Bool.and_eq_true, Bool.not_eq_true'] at h; exact h.1
    obtain ⟨hl, e⟩ := rsw_eq hsh
    have hu : unp d = some (swOf d) := by unfold unp; rw [if_pos h]
    obtain ⟨hf, hv⟩ := unp_form hu
    have hd : decN (rest d) = true := by unfold okU at h; simp only [Bool.and_eq_true] at h; exact h.2.1
    have hr : rRest d = rest d := rest_eq hsh
    exact ⟨hl, by rw [hr]; exact hd, by rw [e]; exact hv, by rw [e]; exact hf⟩
end Ld
end Go.Proofs.YtapefonhgkjgnaaGreat
