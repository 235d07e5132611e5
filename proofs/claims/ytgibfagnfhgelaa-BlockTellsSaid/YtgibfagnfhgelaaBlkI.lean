/- A store of the own: a byte of a block is written. -/
import Derived.Test.YtgibfagnfhgelaaBlkH
namespace Go.Proofs.Ytgibfagnfhgelaa
open Go.RowKit

theorem encR_same {r s : Rw} (hx : r.x = s.x) (hc : r.c = s.c) (hl : r.l.length = s.l.length) : encR r = encR s := by unfold encR; rw [hx, hc, hl]
theorem getD_set {α : Type} (l : List α) (i j : Nat) (v d : α) (hi : i < l.length) : (l.set i v).getD j d = if i = j then v else l.getD j d := by
  rw [List.getD_eq_getElem?_getD, List.getElem?_set, List.getD_eq_getElem?_getD]
  by_cases h : i = j
  · subst h; rw [if_pos rfl, if_pos rfl, if_pos hi]; rfl
  · rw [if_neg h, if_neg h]
theorem OwnsS.apart_at {B : Nat} {w : World} {x : Option Addr} {cap : Nat} {rs : List Rw} (h : OwnsS B w x cap rs) {i j : Nat} (hi : i < rs.length) (hj : j < rs.length) (hij : i ≠ j) : Apart (rs.getD i rw0) (rs.getD j rw0) := by
  have hp := List.pairwise_iff_getElem.1 h.apart
  rw [List.getD_eq_getElem?_getD, List.getElem?_eq_getElem hi, List.getD_eq_getElem?_getD, List.getElem?_eq_getElem hj]
  show Apart rs[i] rs[j]
  rcases Nat.lt_or_gt_of_ne hij with h1 | h1
  · exact hp i j hi hj h1
  · intro b hb hc
    exact hp j i hj hi h1 b hc hb
/-- A byte of one of its blocks is written. -/
theorem OwnsS.setB {B : Nat} {w : World} {x : Option Addr} {cap : Nat} {rs : List Rw} (h : OwnsS B w x cap rs) (q g c : Nat) (l : List UInt8) (hq : q < rs.length) (hr : rs.getD q rw0 = ⟨some ⟨g, 0, none⟩, c, l⟩) (i : Nat) (v : UInt8) :
    OwnsS B (w.setCell ⟨g, i, none⟩ (.int .u8 (v.toNat : Int))) x cap (rs.set q ⟨some ⟨g, 0, none⟩, c, l.set i v⟩) := by
  have hm := getD_mem rs q rw0 hq
  rw [hr] at hm
  have hoq : OwnsB B w (some ⟨g, 0, none⟩) c l := h.each _ hm
  have ht : Turns (fun b => b = g) w (w.setCell ⟨g, i, none⟩ (.int .u8 (v.toNat : Int))) := (Turns.refl (fun b => b = g) w).setCell (p := ⟨g, i, none⟩) (fun _ => rfl) _
  have hrq : rs[q] = ⟨some ⟨g, 0, none⟩, c, l⟩ := by
    rw [List.getD_eq_getElem?_getD, List.getElem?_eq_getElem hq] at hr; exact hr
  have hmap : (rs.set q ⟨some ⟨g, 0, none⟩, c, l.set i v⟩).map encR = rs.map encR := by
    rw [List.map_set]
    apply List.ext_getElem (by simp)
    intro k h1 h2
    rw [List.getElem_set]
    by_cases e : q = k
    · subst e
      rw [if_pos rfl, List.getElem_map, hrq]
      unfold encR; simp
    · rw [if_neg e]
  have hmx : (rs.set q ⟨some ⟨g, 0, none⟩, c, l.set i v⟩).map (·.x) = rs.map (·.x) := by
    rw [List.map_set]
    apply List.ext_getElem (by simp)
    intro k h1 h2
    rw [List.getElem_set]
    by_cases e : q = k
    · subst e
      rw [if_pos rfl, List.getElem_map, hrq]
    · rw [if_neg e]
  refine ⟨?_, ?_, ?_⟩
  · have h1 : OwnsR B (w.setCell ⟨g, i, none⟩ (.int .u8 (v.toNat : Int))) x cap rs := h.row.turn ht (fun b hb e => by
      subst e
      exact h.row.apart hoq b hb rfl)
    unfold OwnsR at h1 ⊢
    rw [hmap, List.length_set]
    exact h1
  · intro r hr'
    obtain ⟨k, hk, rfl⟩ := List.getElem_of_mem hr'
    have hk2 : k < rs.length := by rw [List.length_set] at hk; exact hk
    rw [List.getElem_set]
    by_cases e : q = k
    · rw [if_pos e]
      exact hoq.set i v
    · rw [if_neg e]
      refine (h.each _ (List.getElem_mem hk2)).turn ht (fun b hb e2 => ?_)
      subst e2
      have := h.apart_at hk2 hq (fun e3 => e e3.symm)
      rw [hr, List.getD_eq_getElem?_getD, List.getElem?_eq_getElem hk2] at this
      exact this b hb rfl
  · have : ((rs.set q ⟨some ⟨g, 0, none⟩, c, l.set i v⟩).map (·.x)).Pairwise (fun a b => ∀ k, RowOf a k → ¬ RowOf b k) := by
      rw [hmx]
      exact (List.pairwise_map (f := fun r : Rw => r.x)).2 h.apart
    exact (List.pairwise_map (f := fun r : Rw => r.x)).1 this
theorem frozen_new (w : World) (C : Array Value) (T : TypeId) (i : Nat) : (w.alloc (.cells C T)).frozen? ⟨w.heap.size, i, none⟩ = false := by
  have h := heap_alloc_new w (.cells C T)
  unfold World.frozen?
  simp only [h]
  simp
theorem map_set_l (rs : List Rw) (q : Nat) (r : Rw) : (rs.set q r).map (·.l) = (rs.map (·.l)).set q r.l := List.map_set ..
theorem getD_map_l (rs : List Rw) (q : Nat) : (rs.map (·.l)).getD q [] = (rs.getD q rw0).l := by
  rw [List.getD_eq_getElem?_getD, List.getElem?_map, List.getD_eq_getElem?_getD]
  cases rs[q]? <;> rfl

end Go.Proofs.Ytgibfagnfhgelaa
