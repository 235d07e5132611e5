/- WALKS of the block layer: erased, length, bytes.Equal. -/
import Derived.Test.YtgibfagnfhgelaaCrcSP
import Derived.Test.YtgibfagnfhgelaaAggN
import Derived.LoopTactic
import Derived.Stop.Walk2
namespace Go.Proofs.Ytgibfagnfhgelaa
open Go.RowKit

/-- An erased block. -/
def erasedL : List UInt8 := List.replicate 54 255
theorem a54_zero : (Try.prog.info? 75).map (·.zero) = some (some (aggN 54 fun _ => .int .u8 0)) := by kernel_rfl
theorem wpList_allocEq {P : Program} {ops : Array Oper} {rest : List Oper} {o : Oper} {a : Act} {w : World} {Q : Exit → Act → World → Prop} (d : Tmp) (hd : o.dst = some d) (hg : o.guard = none) (t : TypeId) (ho : o.op = .alloc t) {n : Nat} {v : Nat → Value} (hz : (P.info? t).map (·.zero) = some (some (aggN n v)))
    (h : ∀ W, W = w.alloc (.cells (aggN n v).cells t) → Blk W w.heap.size 0 n v → Below w.heap.size w W → W.heap.size = w.heap.size + 1 → wpList P ops Q rest (a.put (some d) (.pointer (some ⟨w.heap.size, 0, none⟩))) W) : wpList P ops Q (o :: rest) a w :=
  wpList_plain hg fun K hK => by
    have hr := run_allocN (P := P) (w := w) hz
    unfold Oper.wp
    simp [execOp, ho, hr, Result.andThen]
    exact hK _ _ (by rw [hd]; exact h (w.alloc (.cells (aggN n v).cells t)) rfl (blk_new w n v _ t rfl) ((Below.refl _ w).alloc (Nat.le_refl _) _) (World.size_alloc _ _))
theorem shape_setCell (w : World) (a : Addr) (v : Value) (r : Nat) : (w.setCell a v).shape? r = w.shape? r := by
  unfold World.shape? World.setCell
  simp only [Array.getElem?_modify]
  by_cases h : a.block = r
  · rw [if_pos h]
    cases hq : w.heap[r]? with
    | none => rfl
    | some ob =>
      cases ob with
      | cells c e f => simp; split <;> simp
      | _ => rfl
  · rw [if_neg h]
theorem shape_turn {T : Nat → Prop} {w w' : World} (h : Turns T w w') {r : Nat} {p : TypeId × Nat} (hr : ¬ T r) (hs : w.shape? r = some p) : w'.shape? r = some p := by
  have hlt : r < w.heap.size := by
    unfold World.shape? at hs
    cases hq : w.heap[r]? with
    | none => rw [hq] at hs; cases hs
    | some ob => exact (Array.getElem?_eq_some_iff.1 hq).1
  unfold World.shape? at hs ⊢
  rw [h.block r hlt hr]
  exact hs
def ErRel (w : World) (u3 : Value) (wr : World) : Prop :=
  ∃ i : Nat, i ≤ 54 ∧ u3 = .int .i64 (i : Int) ∧ Below w.heap.size w wr ∧ Blk wr w.heap.size 0 54 (fun j => if j < i then .int .u8 255 else .int .u8 0) ∧ w.heap.size < wr.heap.size ∧ ∃ k, wr.shape? w.heap.size = some (75, k)
def ErOf (w : World) (e : Ending) (w' : World) : Prop := ∃ g, e = .returned (.slice (some ⟨g, 0, none⟩) 54 54) ∧ w.heap.size ≤ g ∧ g < w'.heap.size ∧ Bts w' (some ⟨g, 0, none⟩) erasedL ∧ (∃ k, w'.shape? g = some (75, k)) ∧ Below w.heap.size w w'
theorem Blk.set {W : World} {b o n : Nat} {v : Nat → Value} (h : Blk W b o n v) (i : Nat) (_hi : i < n) (x : Value) : Blk (W.setCell ⟨b, o + i, none⟩ x) b o n (fun j => if j = i then x else v j) := fun j hj => by
  refine ⟨?_, by rw [World.frozen?_setCell]; exact (h j hj).2⟩
  show _ = some (if j = i then x else v j)
  by_cases e : j = i
  · subst e
    rw [if_pos rfl]
    exact World.cell?_setCell_same' _ _ _ (by simp [(h j hj).1])
  · rw [if_neg e, World.cell?_setCell_other _ _ _ _ (fun e2 => by have := congrArg Addr.off e2; simp only at this; omega)]
    exact (h j hj).1
theorem Blk.set0 {W : World} {b n : Nat} {v : Nat → Value} (h : Blk W b 0 n v) (i : Nat) (hi : i < n) (x : Value) : Blk (W.setCell ⟨b, i, none⟩ x) b 0 n (fun j => if j = i then x else v j) := by
  have := h.set i hi x
  rwa [Nat.zero_add] at this

set_option maxHeartbeats 1000000 in
theorem erased_any (w : World) : Calls Try.prog 27 #[] w (ErOf w) := by
  have hB := Below.refl w.heap.size w
  go_enter Try.func27, Try.ntmps27
  go_wp2_with (refine wpList_allocEq 1 rfl rfl _ rfl a54_zero ?_; intro X hX a1 hb hz; refine Hid.out ?_)
  unfold Hid
  try simp only [Act.put, List.setIfInBounds_toArray, List.set_cons_zero, List.set_cons_succ]
  replace hB := thru hB hb
  have hsh : ∃ k, X.shape? w.heap.size = some (75, k) := ⟨_, by rw [hX]; exact World.shape?_alloc_at _ _ _ rfl⟩
  clear hX
  go_wp2_with fail
  go_loopw [3] (fun u3 wr => ErRel w u3 wr) (fun u3 _ => 54 - (intOf u3).toNat)
  case atStart => exact ⟨0, by omega, rfl, hB, a1.congr (fun j _ => by simp), by omega, hsh⟩
  case round =>
    clear hB a1 hb hsh
    obtain ⟨i, hi, rfl, hB, hA, hz2, hsh⟩ := hrel
    by_cases hlt : i < 54
    · have hci := hA.at i hlt
      have hfi : wr.frozen? ⟨w.heap.size, i, none⟩ = false := hci.2
      have hvi := hci.1
      have d1 : decide ((i : Int) < 54) = true := by simp; omega
      clear hci
      go_wp2_with fail
      refine ⟨⟨i + 1, by omega, by go_num, hB.setCell (by simp) _, (hA.set0 i hlt _).congr fun j _ => ?_, by simpa [World.setCell] using hz2, by rw [shape_setCell]; exact hsh⟩, by simp [intOf]; omega⟩
      by_cases hji : j = i
      · subst hji; simp
      · by_cases h2 : j < i
        · simp [hji, h2, show j < i + 1 by omega]
        · simp [hji, h2, show ¬ j < i + 1 by omega]
    · obtain rfl : i = 54 := by omega
      go_wp2_with fail
      go_ret
      refine ⟨_, rfl, Nat.le_refl _, hz2, .inr ⟨_, _, rfl, fun j hj => ?_⟩, hsh, hB⟩
      have hj54 : j < 54 := by simpa [erasedL] using hj
      have := (hA.at j hj54).1
      rw [if_pos hj54] at this
      rw [Nat.zero_add, this]
      unfold erasedL
      rw [List.getD_eq_getElem?_getD, List.getElem?_replicate, if_pos hj54]
      rfl

set_option maxHeartbeats 400000 in
theorem equal_any (x y : Option Addr) (l m : List UInt8) (c d : Nat) (w : World) (hx : Bts w x l) (hy : Bts w y m) :
    Calls Try.prog 29 #[.slice x l.length c, .slice y m.length d] w fun e w' => e = .returned (.bool (l == m)) ∧ w' = w := by
  have e1 := run_conv (P := Try.prog) (src := 25) (e := 5) (dst := 9) Try.underlying25 Try.underlying5 Try.underlying9 hx c
  have e2 := run_conv (P := Try.prog) (src := 25) (e := 5) (dst := 9) Try.underlying25 Try.underlying5 Try.underlying9 hy d
  have e3 := str_eq l m
  go_enter Try.func29, Try.ntmps29
  go_wp2_with fail
  go_ret
  exact ⟨rfl, rfl⟩

end Go.Proofs.Ytgibfagnfhgelaa
