/- What Run and Cut leave, in plain lists. -/
import Derived.Test.YtgibfagnfhgelaaPureRd
import Derived.Test.YtgibfagnfhgelaaBlkL
namespace Go.Proofs.Ytgibfagnfhgelaa
open Go.RowKit

theorem getD_setL (ls : List (List UInt8)) (i j : Nat) (v : List UInt8) (hi : i < ls.length) : (ls.set i v).getD j [] = if i = j then v else ls.getD j [] := getD_set ls i j v [] hi
/-- An operation that a store takes. -/
def OkO (n : Nat) (o : OpV) : Prop := (0 ≤ o.blk ∧ o.blk < (n : Int)) ∧ o.d.length ≤ 48
theorem okO_of {n : Nat} {o : OpV} (h : badO n o = false) : OkO n o := ⟨((badO_iff n o).1 h).1, ((badO_iff n o).1 h).2.1⟩
theorem doOp_full (ls : List (List UInt8)) (o : OpV) (h : All54 ls) (ho : OkO ls.length o) : doOp ls o (lenO o.er) = ls.set o.blk.toNat (outO o.er o.d) := by
  unfold doOp
  rw [doN_len_op o.er o.d _ (h.getD _ (by have := ho.1; omega)) ho.2]
/-- An operation that was cut and is done again leaves what it leaves alone. -/
theorem doOp_again (ls : List (List UInt8)) (o : OpV) (k : Nat) (h : All54 ls) (ho : OkO ls.length o) : doOp (doOp ls o k) o (lenO o.er) = doOp ls o (lenO o.er) := by
  rw [doOp_full _ o (h.doOp o k) (by rw [doOp_len]; exact ho), doOp_full ls o h ho]
  unfold doOp
  rw [List.set_set]
theorem runL_app (ls : List (List UInt8)) (a b : List OpV) : runL ls (a ++ b) = runL (runL ls a) b := by unfold runL; rw [List.foldl_append]
theorem runL_cons (ls : List (List UInt8)) (o : OpV) (b : List OpV) : runL ls (o :: b) = runL (doOp ls o (lenO o.er)) b := rfl
theorem drop_cons (os : List OpV) (n : Nat) (h : n < os.length) : os.drop n = os.getD n op0 :: os.drop (n + 1) := by
  rw [List.drop_eq_getElem_cons h, List.getD_eq_getElem?_getD, List.getElem?_eq_getElem h]; rfl
theorem run_split (ls : List (List UInt8)) (os : List OpV) (n : Nat) : runL (runL ls (os.take n)) (os.drop n) = runL ls os := by
  rw [← runL_app, List.take_append_drop]
theorem vldS_runL (ls : List (List UInt8)) (os : List OpV) (h : vldS ls = true) : vldS (runL ls os) = true := by
  rw [vldS_iff] at h ⊢
  exact ⟨by rw [runL_len]; exact h.1, h.2.runL os⟩
theorem vldS_doOp (ls : List (List UInt8)) (o : OpV) (k : Nat) (h : vldS ls = true) : vldS (doOp ls o k) = true := by
  rw [vldS_iff] at h ⊢
  exact ⟨by rw [doOp_len]; exact h.1, h.2.doOp o k⟩
theorem cutL_len (ls : List (List UInt8)) (os : List OpV) (n k : Nat) : (cutL ls os n k).length = ls.length := by unfold cutL; rw [doOp_len, runL_len]
theorem vldS_cutL (ls : List (List UInt8)) (os : List OpV) (n k : Nat) (h : vldS ls = true) : vldS (cutL ls os n k) = true := vldS_doOp _ _ _ (vldS_runL _ _ h)
theorem vldO_sub {ls ms : List (List UInt8)} {os ps : List OpV} (h : vldO ls os = true) (hv : vldS ms = true) (hl : ms.length = ls.length) (hp : ∀ o, o ∈ ps → o ∈ os) : vldO ms ps = true := by
  rw [vldO_iff] at h ⊢
  exact ⟨hv, fun o ho => by rw [hl]; exact h.2 o (hp o ho)⟩
theorem cutOk_iff (ls : List (List UInt8)) (os : List OpV) (n k : Int) : cutOk ls os n k = true ↔ vldO ls os = true ∧ 0 ≤ n ∧ n < (os.length : Int) ∧ 0 ≤ k ∧ k ≤ (lenO (os.getD n.toNat op0).er : Int) := by
  unfold cutOk
  simp only [Bool.and_eq_true, decide_eq_true_eq]
/-- Running again from the interrupted operation. -/
theorem repair (ls : List (List UInt8)) (os : List OpV) (n k : Nat) (hv : vldO ls os = true) (hn : n < os.length) : runL (cutL ls os n k) (os.drop n) = runL ls os := by
  obtain ⟨h1, h2⟩ := (vldO_iff _ _).1 hv
  have h54 := ((vldS_iff _).1 h1).2
  have hok : OkO (runL ls (os.take n)).length (os.getD n op0) := by rw [runL_len]; exact okO_of (h2 _ (getD_mem os n op0 hn))
  rw [drop_cons os n hn, runL_cons]
  unfold cutL
  rw [doOp_again _ _ k (h54.runL _) hok, ← runL_cons, ← drop_cons os n hn, run_split]
theorem Ops.drop {w : World} {b o : Nat} {os : List OpV} (h : Ops w (some ⟨b, o, none⟩) os) (n : Nat) : Ops w (some ⟨b, o + n * 3, none⟩) (os.drop n) := by
  refine ⟨?_, fun p hp => h.2 p (List.mem_of_mem_drop hp)⟩
  rcases h.1 with h0 | ⟨b', o', hx, hc⟩
  · subst h0; exact .inl (by simp)
  · cases hx
    refine .inr ⟨b, o + n * 3, rfl, fun i hi => ?_⟩
    rw [List.length_drop] at hi
    have := hc (n + i) (by omega)
    have e : o + n * 3 + i * 3 = o + (n + i) * 3 := by omega
    have g : (os.drop n).getD i op0 = os.getD (n + i) op0 := by rw [List.getD_eq_getElem?_getD, List.getElem?_drop, List.getD_eq_getElem?_getD]
    rw [e, g]
    exact this
theorem Ops.take {w : World} {x : Option Addr} {os : List OpV} (h : Ops w x os) (n : Nat) : Ops w x (os.take n) := by
  refine ⟨?_, fun p hp => h.2 p (List.mem_of_mem_take hp)⟩
  rcases h.1 with h0 | ⟨b', o', hx, hc⟩
  · subst h0; exact .inl (by simp)
  · refine .inr ⟨b', o', hx, fun i hi => ?_⟩
    rw [List.length_take] at hi
    have g : (os.take n).getD i op0 = os.getD i op0 := by rw [List.getD_eq_getElem?_getD, List.getElem?_take, if_pos (by omega), List.getD_eq_getElem?_getD]
    rw [g]
    exact hc i (by omega)

end Go.Proofs.Ytgibfagnfhgelaa
