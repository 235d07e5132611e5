/- BlockWrong: contracts at bad arguments. -/
import Derived.Test.YtgibfagnfhgelaaPureRn
import Derived.Test.YtgibfagnfhgelaaBlkO
import Derived.Test.YtgibfagnfhgelaaBlkQ
namespace Go.Proofs.Ytgibfagnfhgelaa
open Go.RowKit

theorem ops_at {W : World} {g : Nat} {o : OpV} (h0 : W.cell? ⟨g, 0, none⟩ = some (.int .i64 o.blk)) (h1 : W.cell? ⟨g, 1, none⟩ = some (.bool o.er)) (h2 : W.cell? ⟨g, 2, none⟩ = some (.slice o.x o.d.length o.c)) (hk : OpOk W o) : Ops W (some ⟨g, 0, none⟩) [o] := by
  refine ⟨.inr ⟨g, 0, rfl, fun i hi => ?_⟩, fun p hp => ?_⟩
  · have e : i = 0 := by
      have : i < 1 := hi
      omega
    subst e
    exact ⟨h0, h1, h2⟩
  · have e : p = o := by simpa using hp
    subst e
    exact hk
def threeE : List (List UInt8) := [erasedL, erasedL, erasedL]
theorem three_v : vldS threeE = true := by
  rw [vldS_iff]
  refine ⟨by decide, fun l hl => ?_⟩
  have : l = erasedL := by simpa [threeE] using hl
  rw [this]; exact erasedL_len
def RunR (LT : List (List UInt8)) (code : Int) (W : World) (e : Ending) (w' : World) : Prop := ∃ x c r, e = .returned (.tuple #[.agg #[.slice x (List.length r) c], .int .i64 code]) ∧ Rws w' x r ∧ r.map (·.l) = LT ∧ Below W.heap.size W w'
theorem runR {LT : List (List UInt8)} {code : Int} {W : World} {e : Ending} {w' : World} (h : ErrOf LT code W e w') : RunR LT code W e w' := by
  obtain ⟨x, c, r, rfl, ho, hm, hb⟩ := h
  exact ⟨x, c, r, rfl, ho.rws, hm, hb⟩
theorem run_bad (xt : Option Addr) (rt : List Rw) (ct NT : Nat) (o : OpV) (hNT : rt.length = NT) (hN : NT ≤ 1000) (hl : ∀ l, l ∈ rt.map (·.l) → l.length ≤ 100000) (hb : vldO (rt.map (·.l)) [o] = false) : ∀ W g, Rws W xt rt → Ops W (some ⟨g, 0, none⟩) [o] → Calls Try.prog 15 #[.agg #[.slice xt NT ct], .slice (some ⟨g, 0, none⟩) 1 1] W (RunR (rt.map (·.l)) 2 W) := fun W g h1 h2 => by
  have := run_any xt rt ct (some ⟨g, 0, none⟩) [o] 1 W h1 (by omega) (fun r hr => hl r.l (List.mem_map_of_mem hr)) h2 (fun h => by cases h) (by simp) ⟨by simp, by decide⟩
  rw [if_neg (by rw [hb]; simp), if_neg (by rw [hb]; simp), hNT] at this
  exact this.mono fun e w' h => runR h
theorem cut_bad (xt : Option Addr) (rt : List Rw) (ct NT : Nat) (o : OpV) (n k : Int) (hNT : rt.length = NT) (hN : NT ≤ 1000) (hl : ∀ l, l ∈ rt.map (·.l) → l.length ≤ 100000) (hb : cutOk (rt.map (·.l)) [o] n k = false) : ∀ W g, Rws W xt rt → Ops W (some ⟨g, 0, none⟩) [o] → Calls Try.prog 16 #[.agg #[.slice xt NT ct], .slice (some ⟨g, 0, none⟩) 1 1, .int .i64 n, .int .i64 k] W (RunR (rt.map (·.l)) 2 W) := fun W g h1 h2 => by
  have := cut_any xt rt ct (some ⟨g, 0, none⟩) [o] 1 n k W h1 (by omega) (fun r hr => hl r.l (List.mem_map_of_mem hr)) h2 (fun h => by cases h) (by simp) ⟨by simp, by decide⟩
  rw [if_neg (by rw [hb]; simp), if_neg (by rw [hb]; simp), hNT] at this
  exact this.mono fun e w' h => runR h
theorem cut_nil (xt : Option Addr) (rt : List Rw) (ct NT : Nat) (hNT : rt.length = NT) (hN : NT ≤ 1000) (hl : ∀ l, l ∈ rt.map (·.l) → l.length ≤ 100000) : ∀ W, Rws W xt rt → Calls Try.prog 16 #[.agg #[.slice xt NT ct], .slice none 0 0, .int .i64 0, .int .i64 0] W (RunR (rt.map (·.l)) 2 W) := fun W h1 => by
  have hb : cutOk (rt.map (·.l)) [] 0 0 = false := by unfold cutOk; simp
  have := cut_any xt rt ct none [] 0 0 0 W h1 (by omega) (fun r hr => hl r.l (List.mem_map_of_mem hr)) ⟨.inl rfl, fun o ho => by simp at ho⟩ (fun _ => rfl) (by simp) ⟨by simp, by decide⟩
  rw [if_neg (by rw [hb]; simp), if_neg (by rw [hb]; simp), hNT] at this
  exact this.mono fun e w' h => runR h
theorem run_nil (xt : Option Addr) (rt : List Rw) (ct NT : Nat) (hNT : rt.length = NT) (hN : NT ≤ 1000) (hl : ∀ l, l ∈ rt.map (·.l) → l.length ≤ 100000) (hv : vldS (rt.map (·.l)) = true) : ∀ W, Rws W xt rt → Calls Try.prog 15 #[.agg #[.slice xt NT ct], .slice none 0 0] W (RunR (rt.map (·.l)) 0 W) := fun W h1 => by
  have hb : vldO (rt.map (·.l)) [] = true := by rw [vldO_iff]; exact ⟨hv, fun o ho => by simp at ho⟩
  have := run_any xt rt ct none [] 0 W h1 (by omega) (fun r hr => hl r.l (List.mem_map_of_mem hr)) ⟨.inl rfl, fun o ho => by simp at ho⟩ (fun _ => rfl) (by simp) ⟨by simp, by decide⟩
  rw [if_pos hb, if_pos hb, hNT] at this
  exact this.mono fun e w' h => runR h
theorem same_yes (xt : Option Addr) (rt : List Rw) (ct NT : Nat) (hNT : rt.length = NT) (hN : NT ≤ 1000) : ∀ W x r c, Rws W x r → Rws W xt rt → r.map (·.l) = rt.map (·.l) → Calls Try.prog 25 #[.agg #[.slice x r.length c], .agg #[.slice xt NT ct]] W fun e w' => e = .returned (.bool true) ∧ Below W.heap.size W w' := fun W x r c h1 h2 h3 => by
  have := same_any x r c xt rt ct W h1 h2 (by rw [lens_map h3]; omega)
  rwa [h3, beq_self_eq_true, hNT] at this
theorem read_bad (xt : Option Addr) (rt : List Rw) (ct NT : Nat) (i : Int) (hNT : rt.length = NT) (hN : NT ≤ 1000) (hi : i < 0 ∨ (NT : Int) ≤ i) : ∀ W, Rws W xt rt → Calls Try.prog 13 #[.agg #[.slice xt NT ct], .int .i64 i] W fun e w' => ∃ x c, e = .returned (.tuple #[.slice x 0 c, .int .i64 2]) ∧ Below W.heap.size W w' := fun W h => by
  have := read_any xt rt ct i W h (by omega)
  rw [hNT] at this
  have h1 : rdC (rt.map (·.l)) i = 2 := by unfold rdC; rw [if_neg (by rw [List.length_map]; omega)]
  have h2 : rdM (rt.map (·.l)) i = [] := by unfold rdM; rw [h1]; rfl
  refine this.mono fun e w' h => ?_
  obtain ⟨x, c, he, _, hb⟩ := h
  rw [h1, h2] at he
  exact ⟨x, c, he, hb⟩

end Go.Proofs.Ytgibfagnfhgelaa
