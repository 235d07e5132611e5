/- Arrays of integers compared as a whole. -/
import Derived.Test.YtjpicnfkmfjnoaaAggN
import Derived.Laws.StructEq
namespace Go.Proofs.Ytjpicnfkmfjnoaa
open Go.RowKit

section
variable {P : Program} {w : World}
/-- Cells that are integers of one kind. -/
def intV (k : IntKind) (a : Nat → Int) (j : Nat) : Value := .int k (a j)
theorem run_part_int {e : TypeId} {k : IntKind} (he : P.underlying e = some (.int k)) {n i : Nat} {v : Nat → Value} (hi : i < n) : (part e ((List.range n).map v).toArray i).run P w = .ok (v i) w := by
  have hg := listN_get n v i hi
  simp [part, isAgg, run_underlying he, hi]
def eqUpTo (a b : Nat → Int) : Nat → Nat → Bool
  | _, 0 => true
  | s, m + 1 => (a s == b s) && eqUpTo a b (s + 1) m
theorem eqUpTo_iff (a b : Nat → Int) : ∀ m s, eqUpTo a b s m = true ↔ ∀ j, s ≤ j → j < s + m → a j = b j
  | 0, s => by simp [eqUpTo]; omega
  | m + 1, s => by
    simp only [eqUpTo, Bool.and_eq_true, beq_iff_eq, eqUpTo_iff a b m (s + 1)]
    constructor
    · rintro ⟨h0, h⟩ j h1 h2
      by_cases e : j = s
      · rw [e]; exact h0
      · exact h j (by omega) (by omega)
    · intro h
      exact ⟨h s (Nat.le_refl _) (by omega), fun j h1 h2 => h j (by omega) (by omega)⟩
theorem run_equalIn_arr (d : Nat) {t e : TypeId} {k : IntKind} {n : Nat} (ht : P.underlying t = some (.array n e)) (he : P.underlying e = some (.int k)) (hs : (P.info? e).map (·.size) = some 1) (a b : Nat → Int) :
    (Op.equalIn (d + 2) t (aggN n (intV k a)) (aggN n (intV k b))).run P w = .ok (eqUpTo a b 0 n) w := by
  cases hq : P.info? e with
  | none => simp [hq] at hs
  | some i =>
    have hz : i.size = 1 := by simp [hq] at hs; exact hs
    unfold aggN
    rw [Op.equalIn]
    simp only [Sem.run_bind, run_underlying ht, Result.andThen_ok, sizeOf, typeInfo, run_program, hq, Sem.run_pure, hz, Nat.mul_one]
    simp only [Std.Legacy.Range.forIn_eq_forIn_range', Std.Legacy.Range.size, Nat.sub_zero, Nat.add_sub_cancel, Nat.div_one]
    have hr : ∀ m s, s + m ≤ n → ((forIn (List.range' s m) (none, ()) fun i (_ : Option Bool × Unit) => do
        let x ← part e ((List.range n).map (intV k a)).toArray i
        let y ← part e ((List.range n).map (intV k b)).toArray i
        let r ← Op.equalIn (d + 1) e x y
        if (!r) = true then pure (ForInStep.done (some false, ())) else pure (ForInStep.yield (none, ()))) : Sem (Option Bool × Unit)).run P w = .ok (if eqUpTo a b s m then (none, ()) else (some false, ())) w := by
      intro m
      induction m with
      | zero => intro s _; simp [eqUpTo]
      | succ m ih =>
        intro s hs
        simp only [eqUpTo]
        simp only [List.range'_succ, List.forIn_cons, Sem.run_bind, run_part_int he (show s < n by omega), Result.andThen_ok, intV, run_equalIn_int w d e k k _ _ he]
        by_cases h : a s = b s
        · simp only [h, beq_self_eq_true, Bool.not_true, Bool.false_eq_true, if_false, Sem.run_pure, Result.andThen_ok, Bool.true_and]
          exact ih (s + 1) (by omega)
        · simp [h, Result.andThen]
    rw [hr n 0 (by omega)]
    cases eqUpTo a b 0 n <;> simp [Result.andThen]
variable {ops : Array Oper} {rest : List Oper} {o : Oper} {a : Act} {Q : Exit → Act → World → Prop}
theorem wpList_neqA (hg : Region.wanted o (yielded ops a.tmps) = true) (t t' : TypeId) (x y : Operand) (ho : o.op = .binOp .neq t x y t') {k : IntKind} {n : Nat} {f g : Nat → Int} {e : TypeId} (hx : a.eval x = aggN n (intV k f)) (hy : a.eval y = aggN n (intV k g))
    (ht : P.underlying t = some (.array n e)) (he : P.underlying e = some (.int k)) (hs : (P.info? e).map (·.size) = some 1) (hm : P.eqGuardType P.depth t = false) (h : wpList P ops Q rest (a.put o.dst (.bool (!eqUpTo f g 0 n))) w) : wpList P ops Q (o :: rest) a w :=
  wpList_step fun K hK => by
    rw [if_pos hg]
    have h1 : (eqGuard .neq t x y (aggN n (intV k f)) (aggN n (intV k g))).run P w = .ok () w := run_eqGuard_agg w .neq t x y _ _ hm
    have h2 : (Go.binOp .neq t (aggN n (intV k f)) (aggN n (intV k g))).run P w = .ok (.bool (!eqUpTo f g 0 n)) w := by
      have h3 := run_equalIn_arr (P := P) (w := w) 9998 ht he hs f g
      unfold aggN at h3 ⊢
      rw [run_neq_struct, h3]
      rfl
    unfold Oper.wp
    simp [execOp, ho, hx, hy, h1, h2, Result.andThen]
    exact hK _ _ h
theorem wpList_loadN_w (hg : Region.wanted o (yielded ops a.tmps) = true) (t : TypeId) (p : Operand) (ho : o.op = .load t p) {b q : Nat} (hp : a.eval p = .pointer (some ⟨b, q, none⟩)) {v : Value} (hrun : (loadVar t ⟨b, q, none⟩).run P w = .ok v w)
    (h : wpList P ops Q rest (a.put o.dst v) w) : wpList P ops Q (o :: rest) a w :=
  wpList_step fun K hK => by
    rw [if_pos hg]
    unfold Oper.wp
    simp [execOp, ho, hp, Instr.loadAt, Instr.sureAddr, hrun, Result.andThen]
    exact hK _ _ h
end

end Go.Proofs.Ytjpicnfkmfjnoaa
