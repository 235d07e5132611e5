/- Plain facts on damage, and a weaker state: what runs, whatever the other record says. -/
import Derived.Test.YtapefonhgkjgnaaLdX
set_option maxRecDepth 20000
namespace Go.Proofs.Ytapefonhgkjgnaa
open Go.RowKit
namespace Ld
open Dig Sgn

/-- Record a leads to the software that runs. -/
structure Lead (ls : List (List UInt8)) (root : D) (g : Int) (a : Nat) (t : Sw) : Prop where
  st : St ls
  at_ : atR ls root g = (a : Int)
  sw : ldS ls a = t
theorem Run.lead {ls : List (List UInt8)} {root : D} {g : Int} {a : Nat} {r : Rec} {t : Sw} (h : Run ls root g a r t) : Lead ls root g a t := ⟨h.st, h.at, h.sw⟩
theorem Lead.rn {ls : List (List UInt8)} {root : D} {g : Int} {a : Nat} {t : Sw} (h : Lead ls root g a t) : ixR ls root g = (a : Int) ∧ swR ls root g = t ∧ cdR ls root g = 0 := by
  have ha := h.at_
  have e : ixR ls root g = (a : Int) := by unfold ixR; rw [h.st.use, if_pos rfl, ha]
  refine ⟨e, ?_, ?_⟩
  · unfold swR; rw [e, if_pos (by omega), Int.toNat_natCast, h.sw]
  · unfold cdR; rw [h.st.use, if_pos rfl, ha, if_neg (by omega)]
/-- As Run.keep, where only the chunks that are used stay. -/
theorem Run.keep2 {ls ms : List (List UInt8)} {root : D} {g : Int} {a : Nat} {r : Rec} {s : Sw} (h : Run ls root g a r s) (hs : St ms) (ea : ms.getD a [] = ls.getD a []) (eb : ∀ k, k < r.chunks → ms.getD (2 + 16 * r.bank + k) [] = ls.getD (2 + 16 * r.bank + k) [])
    (eo : readE (ms.getD (1 - a) []) ≠ 0 ∨ ms.getD (1 - a) [] = ls.getD (1 - a) []) : Run ms root g a r s := by
  have hb := h.bank
  have ha := h.a1
  obtain ⟨k1, k2⟩ := lead_congr h.st hs a ha root g ea.symm (fun _ k hk => by rw [h.rc] at hk ⊢; exact (eb k hk).symm)
  obtain ⟨k3, k4⟩ := k2 h.ok
  refine ⟨hs, ha, k1 ▸ h.ok, k3 ▸ h.rc, k4 ▸ h.sw, fun c o => ?_⟩
  rcases eo with eo | eo
  · rw [hs.rdC _ (by omega)] at c; exact absurd c eo
  · obtain ⟨c1, m1⟩ := rd_eq hs h.st (1 - a) (by omega) eo
    unfold ldR
    rw [m1]
    exact h.other (by rw [← c1]; exact c) (by rw [← m1]; exact o)
/-- The second of two installations, and one block erased. -/
theorem damage {ls : List (List UInt8)} {root : D} {g : Int} {ca : Nat} {da : D} {t : Sw} (h : Run ls root g 0 ⟨0, ca, 1, da⟩ t) {s : Sw} (hN : s.N) (hv : s.vld = true) (hg : genu s root g = true) (hn : t.ver < s.ver) {os : List OpV} (ho : os.map opP = insP ls s root g) (k : Nat) (hk : k < 34) {e : OpV} (he : e.blk = (k : Int)) (her : e.er = true) (hed : e.d = []) :
    (((os.map (·.blk)).any (fun b => b == (k : Int))) = true → Lead (runL (runL ls os) [e]) root g 0 t) ∧ (((os.map (·.blk)).any (fun b => b == (k : Int))) = false → Lead (runL (runL ls os) [e]) root g 1 s) ∧ St (runL ls os) ∧ vldO (runL ls os) [e] = true := by
  have hnx := run_next h hN hv hg hn (by show (1 : Nat) < 4294967295; omega) ho
  have e2 := (ins_run h hv hg hn (by show (1 : Nat) < 4294967295; omega)).2
  rw [e2] at ho
  have hb := h.bank
  obtain ⟨c1, c2, c3⟩ := ckN_form s hv
  obtain ⟨hs, hx⟩ := runAll ho h.st (by show 1 - 0 ≤ 1; omega) c2 (by omega) (by rw [rbytes_len]; omega)
  have hr2 := hnx.1
  dsimp only at hx hr2
  have hz : runL (runL ls os) [e] = doOp (runL ls os) e (lenO e.er) := rfl
  have hst3 : St (runL (runL ls os) [e]) := by rw [hz]; exact hs.set _ _
  have h3 : ∀ j, j < 34 → (runL (runL ls os) [e]).getD j [] = if k = j then erasedL else (runL ls os).getD j [] := fun j hj => by
    rw [hz, hs.doAt e _ k he hk j]
    by_cases hkj : k = j
    · rw [if_pos hkj, if_pos hkj, her, show lenO true = 54 from rfl, doN_er _ _ (hs.blk k hk)]
    · rw [if_neg hkj, if_neg hkj]
  have hany : ((os.map (·.blk)).any (fun b => b == (k : Int))) = true ↔ (k = 1 ∨ (18 ≤ k ∧ k < 18 + ckN (form s))) := by
    rw [blks_of ho, List.any_append, Bool.or_eq_true]
    simp only [List.any_map, List.any_cons, List.any_nil, Bool.or_false, beq_iff_eq, List.any_eq_true, List.mem_range, Function.comp]
    constructor
    · rintro (⟨j, hj, e⟩ | e)
      · right; omega
      · left; omega
    · rintro (e | e)
      · right; omega
      · left; exact ⟨k - 18, by omega, by omega⟩
  have hv3 : vldO (runL ls os) [e] = true := by
    rw [vldO_iff]
    refine ⟨hs.1, fun o ho' => ?_⟩
    obtain rfl : o = e := by simpa using ho'
    rw [badO_iff, hs.2, he, hed]
    exact ⟨⟨by omega, by omega⟩, by simp, fun _ => rfl⟩
  refine ⟨fun hh => ?_, fun hh => ?_, hs, hv3⟩
  · rcases hany.1 hh with rfl | ⟨k1, k2⟩
    · refine (Run.keep2 h hst3 ?_ (fun j hj => ?_) (.inl ?_)).lead
      · rw [h3 0 (by omega), if_neg (by omega), hx 0 (by omega), if_neg (by omega), if_neg (by omega)]
      · have hj' : j < ca := hj
        have hca : ca ≤ 16 := hb.2.2
        show (runL (runL ls os) [e]).getD (2 + 16 * 0 + j) [] = ls.getD (2 + 16 * 0 + j) []
        rw [h3 _ (by omega), if_neg (by omega), hx _ (by omega), if_neg (by omega), if_neg (by omega)]
      · rw [h3 1 (by omega), if_pos rfl, readE_erased]; decide
    · -- a chunk is lost: record 1 leads to nothing
      have hca : ca ≤ 16 := hb.2.2
      have ek0 : (runL (runL ls os) [e]).getD 0 [] = ls.getD 0 [] := by rw [h3 0 (by omega), if_neg (by omega), hx 0 (by omega), if_neg (by omega), if_neg (by omega)]
      obtain ⟨q1, q2⟩ := lead_congr h.st hst3 0 (by omega) root g ek0.symm (fun _ j hj => by
        rw [h.rc] at hj ⊢
        have hj' : j < ca := hj
        show ls.getD (2 + 16 * 0 + j) [] = _
        rw [h3 _ (by show 2 + 16 * 0 + j < 34; omega), if_neg (by show ¬ k = 2 + 16 * 0 + j; omega), hx _ (by show 2 + 16 * 0 + j < 34; omega), if_neg (by show ¬ 1 - 0 = 2 + 16 * 0 + j; omega), if_neg (by show ¬ (2 + 16 * (1 - 0) ≤ 2 + 16 * 0 + j ∧ _); omega)])
      obtain ⟨q3, q4⟩ := q2 h.ok
      have n1 : okL (runL (runL ls os) [e]) 1 root g = false := by
        refine okL_gok ?_
        have hrec : ldR (runL (runL ls os) [e]) 1 = ⟨1, ckN (form s), 2, ofL (form s)⟩ := by
          have er1 : (runL (runL ls os) [e]).getD 1 [] = (runL ls os).getD 1 [] := by rw [h3 1 (by omega), if_neg (by omega)]
          obtain ⟨_, m1⟩ := rd_eq hst3 hs 1 (by omega) er1
          have := hr2.rc
          unfold ldR at this ⊢
          rw [m1]
          exact this
        rw [hrec]
        refine gok_no _ _ _ (k - 18) (by show k - 18 < ckN (form s); omega) ?_
        rw [hst3.rdC _ (by show 2 + 16 * 1 + (k - 18) < 34; omega), show 2 + 16 * (⟨1, ckN (form s), 2, ofL (form s)⟩ : Rec).bank + (k - 18) = k by show 2 + 16 * 1 + (k - 18) = k; omega, h3 k hk, if_pos rfl, readE_erased]
        decide
      refine ⟨hst3, ?_, ?_⟩
      · unfold atR; rw [n1, ← q1, h.ok]; rfl
      · rw [← q4]; exact h.sw
  · have hno : ¬ (k = 1 ∨ (18 ≤ k ∧ k < 18 + ckN (form s))) := fun e => by rw [hany.2 e] at hh; cases hh
    refine (Run.keep2 hr2 hst3 ?_ (fun j hj => ?_) ?_).lead
    · rw [h3 _ (by omega), if_neg (by omega)]
    · have hj' : j < ckN (form s) := hj
      show (runL (runL ls os) [e]).getD (2 + 16 * (1 - 0) + j) [] = _
      rw [h3 _ (by omega), if_neg (by omega)]
    · by_cases hk0 : k = 0
      · left
        show readE ((runL (runL ls os) [e]).getD (1 - (1 - 0)) []) ≠ 0
        rw [h3 _ (by omega), if_pos (by omega), readE_erased]; decide
      · right
        rw [h3 _ (by omega), if_neg (by omega)]
end Ld

theorem rn_l {B : Nat} {x : Option Addr} {rs : List Rw} {ls : List (List UInt8)} {root : D64} {g : Int} {a : Nat} {t : Ld.Sw} (c : Nat) (w : World) (h : StoIn B w x rs ls) (hr : Ld.Lead ls root g a t) :
    Calls Try.prog 21 #[.agg #[.slice x 34 c], .int .u64 (num root), .int .i64 g] w (RnR t a w) := by
  have hl := h.len hr.st
  obtain ⟨e1, e2, e3⟩ := hr.rn
  have := running2_any x rs c root g w h.rws (by omega)
  rw [hl, h.eq] at this
  unfold RnOf at this
  rw [e1, e2, e3] at this
  exact this
theorem run34o {B : Nat} {x y : Option Addr} {rs : List Rw} {ls : List (List UInt8)} {os : List OpV} {cy : Nat} (c n : Nat) (w : World) (h : StoIn B w x rs ls) (hs : Ld.St ls) (ho : Ops w y os) (hyn : y = none → cy = 0) (hcy : os.length ≤ cy ∧ cy ≤ 9223372036854775807) (hn : os.length = n) (hm : n ≤ 1000) (hv : vldO ls os = true) :
    Calls Try.prog 18 #[.agg #[.slice x 34 c], .slice y n cy] w (StR (runL ls os) w) := by
  subst hn
  have hl := h.len hs
  have := run_any x rs c y os cy w h.rws (by omega) (h.l54 hs) ho hyn hm hcy
  rw [hl, h.eq, if_pos hv, if_pos hv] at this
  refine this.mono ?_
  rintro e w' ⟨x', c', rs', rfl, hos, he, hb⟩
  have hl' : rs'.length = 34 := by
    have := congrArg List.length he
    rw [List.length_map, runL_len, hs.2] at this
    exact this
  exact ⟨x', c', rs', by rw [hl'], ownsS_sto hos he, hb⟩

/-- What the walk does not see through. -/
structure Stop (p : Prop) : Prop where
  out : p
/-- The walk stops ahead of a load. -/
theorem wpList_stopL {P : Program} {ops : Array Oper} {rest : List Oper} {o : Oper} {a : Act} {w : World} {Q : Exit → Act → World → Prop} (t : TypeId) (p : Operand) (_ho : o.op = .load t p) (h : Stop (wpList P ops Q (o :: rest) a w)) : wpList P ops Q (o :: rest) a w := h.out

end Go.Proofs.Ytapefonhgkjgnaa
