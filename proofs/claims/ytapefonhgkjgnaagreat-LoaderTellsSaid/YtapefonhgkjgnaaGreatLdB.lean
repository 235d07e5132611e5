/- Texts of the layers below, under one roof: SgnN, SgnQ, SgnH, SgnJ, SgnT. -/
import Derived.Laws.IdiomCopy
import Derived.Laws.Rows
import Derived.Laws.Tables
import Derived.OwnWalk
import Derived.Deep.WholeRow
import Derived.LoopTactic
import Derived.Laws.MakeOwn
import Derived.Shelf.Abstract
import Derived.Deep.RegionWith
import Derived.RangeFuncRecord
import Derived.RangeFuncOwn
import Derived.RangeFuncCalls
import Derived.RangeFuncLeaves
import Derived.RangeFuncNested
import Derived.OrdersIn
import Derived.TacticsIn
import Derived.TacticsInMore
import Derived.OwnWalkIn
import Derived.LoopIn
import Derived.LoopNIn
import Derived.Shelf.RegionOpen
import Derived.BigQuiet
import Derived.StillTailTactics
import Derived.Deep.Quiet
import Derived.Below
import Derived.Laws.ResultCell
import Derived.Laws.StructEq
import Derived.Test.YtapefonhgkjgnaaGreatLdA
set_option maxRecDepth 20000
namespace Go.Proofs.YtapefonhgkjgnaaGreat

namespace Sgn
open Dig

/-- Digit i of a number. -/
def dg (d : D) (i : Nat) : Nat := (d >>> (4 * i)).toNat % 16
theorem dg_lt (d : D) (i : Nat) : dg d i < 16 := Nat.mod_lt _ (by decide)
/-- What the first n digits lack of 15. -/
def lack (d : D) : Nat → Nat
  | 0 => 0
  | n + 1 => lack d n + (15 - dg d n)
theorem lack_le (d : D) : ∀ n, lack d n ≤ 15 * n
  | 0 => Nat.le_refl _
  | n + 1 => by have := lack_le d n; show lack d n + _ ≤ _; omega
/-- Digit i of a number, or of its checksum. -/
def dig (d : D) (i : Nat) : Nat := if i < 16 then dg d i else if i = 16 then lack d 16 % 16 else lack d 16 / 16
theorem dig_le (d : D) (i : Nat) : dig d i ≤ 15 := by
  unfold dig
  have := dg_lt d i
  have := lack_le d 16
  split
  · omega
  · split <;> omega
theorem dig_low (d : D) (i : Nat) (h : i < 16) : dig d i = dg d i := if_pos h
theorem dig_16 (d : D) : dig d 16 = lack d 16 % 16 := rfl
theorem dig_17 (d : D) : dig d 17 = lack d 16 / 16 := rfl

theorem dg_bit (d : D) (i k : Nat) (hk : k < 4) : (dg d i).testBit k = d.getLsbD (4 * i + k) := by
  unfold dg
  rw [show (16 : Nat) = 2 ^ 4 from rfl, Nat.testBit_mod_two_pow, decide_eq_true hk, Bool.true_and]
  show (d >>> (4 * i)).getLsbD k = _
  rw [BitVec.getLsbD_ushiftRight]
theorem dg_ext {d e : D} (h : ∀ i, i < 16 → dg d i = dg e i) : d = e := by
  apply BitVec.eq_of_getLsbD_eq
  intro j hj
  have : (dg d (j / 4)).testBit (j % 4) = (dg e (j / 4)).testBit (j % 4) := by rw [h (j / 4) (by omega)]
  rw [dg_bit _ _ _ (Nat.mod_lt _ (by decide)), dg_bit _ _ _ (Nat.mod_lt _ (by decide)), show 4 * (j / 4) + j % 4 = j by omega] at this
  exact this

theorem lack_mono {d e : D} : ∀ n, (∀ i, i < n → dg d i ≤ dg e i) → lack e n ≤ lack d n
  | 0, _ => Nat.le_refl _
  | n + 1, h => by
    have h1 := lack_mono n (fun i hi => h i (by omega))
    have h2 := h n (by omega)
    show lack e n + _ ≤ lack d n + _
    omega
theorem lack_strict {d e : D} : ∀ n, (∀ i, i < n → dg d i ≤ dg e i) → (∃ i, i < n ∧ dg d i < dg e i) → lack e n < lack d n
  | 0, _, h => by obtain ⟨i, hi, _⟩ := h; omega
  | n + 1, h, h3 => by
    have h1 := lack_mono n (fun i hi => h i (by omega))
    have h2 := h n (by omega)
    have hd := dg_lt d n
    have he := dg_lt e n
    show lack e n + _ < lack d n + _
    by_cases h4 : dg d n < dg e n
    · omega
    · obtain ⟨i, hi, hl⟩ := h3
      by_cases h5 : i = n
      · subst h5; exact absurd hl h4
      · have := lack_strict n (fun i hi => h i (by omega)) ⟨i, by omega, hl⟩
        omega
/-- Of two numbers that differ each has a digit that is smaller than the other's. -/
theorem dig_less {d e : D} (h : d ≠ e) : ∃ i, i < 18 ∧ dig d i < dig e i := by
  apply Classical.byContradiction
  intro hn
  have hall : ∀ i, i < 18 → dig e i ≤ dig d i := fun i hi => Classical.byContradiction fun h1 => hn ⟨i, hi, by omega⟩
  have hlow : ∀ i, i < 16 → dg e i ≤ dg d i := fun i hi => by have := hall i (by omega); rwa [dig_low _ _ hi, dig_low _ _ hi] at this
  have h16 := hall 16 (by omega)
  have h17 := hall 17 (by omega)
  rw [dig_16, dig_16] at h16
  rw [dig_17, dig_17] at h17
  have hs : lack e 16 ≤ lack d 16 := by omega
  by_cases hx : ∃ i, i < 16 ∧ dg e i < dg d i
  · have := lack_strict 16 hlow hx
    omega
  · refine h (dg_ext fun i hi => ?_)
    have := hlow i hi
    have : ¬ dg e i < dg d i := fun h2 => hx ⟨i, hi, h2⟩
    omega
/-- The number of its first n digits. -/
def num4 (d : D) : Nat → D
  | 0 => 0#64
  | n + 1 => num4 d n ||| BitVec.ofNat 64 (dg d n) <<< (4 * n)
theorem num4_bit (d : D) (j : Nat) (hj : j < 64) : ∀ n, (num4 d n).getLsbD j = (decide (j < 4 * n) && d.getLsbD j)
  | 0 => by simp [num4]
  | n + 1 => by
    show (num4 d n ||| BitVec.ofNat 64 (dg d n) <<< (4 * n)).getLsbD j = _
    rw [BitVec.getLsbD_or, num4_bit d j hj n, BitVec.getLsbD_shiftLeft]
    by_cases h1 : j < 4 * n
    · simp [h1, show j < 4 * (n + 1) by omega]
    · by_cases h2 : j < 4 * (n + 1)
      · have hk : j - 4 * n < 4 := by omega
        have e : (BitVec.ofNat 64 (dg d n)).getLsbD (j - 4 * n) = d.getLsbD j := by
          rw [BitVec.getLsbD_ofNat, dg_bit _ _ _ hk, show 4 * n + (j - 4 * n) = j by omega]
          simp; omega
        simp [h1, h2, hj, e]
      · have e : (BitVec.ofNat 64 (dg d n)).getLsbD (j - 4 * n) = false := by
          rw [BitVec.getLsbD_ofNat]
          have : (dg d n).testBit (j - 4 * n) = false := Nat.testBit_lt_two_pow (Nat.lt_of_lt_of_le (dg_lt d n) (Nat.pow_le_pow_right (n := 2) (by decide) (show 4 ≤ j - 4 * n by omega)))
          rw [this]; simp
        simp [h1, h2, e]
theorem num4_all (d : D) : num4 d 16 = d := by
  apply BitVec.eq_of_getLsbD_eq
  intro j hj
  rw [num4_bit d j hj, decide_eq_true (by omega), Bool.true_and]

/-! ### Chains -/
def stepS (i k : UInt8) (x : D) : D := ofL (i :: k :: Dig.bytes x)
/-- n steps from position f on. -/
def adv (i : UInt8) (f : Nat) : Nat → D → D
  | 0, x => x
  | n + 1, x => stepS i (UInt8.ofNat (f + n)) (adv i f n x)
theorem adv_add (i : UInt8) (f m : Nat) (x : D) : ∀ n, adv i f (m + n) x = adv i (f + m) n (adv i f m x)
  | 0 => rfl
  | n + 1 => by
    show stepS i (UInt8.ofNat (f + (m + n))) (adv i f (m + n) x) = stepS i (UInt8.ofNat (f + m + n)) _
    rw [adv_add i f m x n, Nat.add_assoc]
/-- The secret of a chain: a, b the two Dig.bytes of the key. -/
def sec (seed : D) (a b i : UInt8) : D := ofL (Dig.bytes seed ++ [a, b, i])
def val (seed : D) (a b : UInt8) (i n : Nat) : D := adv (UInt8.ofNat i) 0 n (sec seed a b (UInt8.ofNat i))
theorem val_add (seed : D) (a b : UInt8) (i m n : Nat) : val seed a b i (m + n) = adv (UInt8.ofNat i) m n (val seed a b i m) := by
  unfold val
  rw [adv_add, Nat.zero_add]
/-- The Dig.bytes of the first n values. -/
def ends (e : Nat → D) : Nat → List UInt8
  | 0 => []
  | n + 1 => ends e n ++ Dig.bytes (e n)
theorem ends_length (e : Nat → D) : ∀ n, (ends e n).length = 8 * n
  | 0 => rfl
  | n + 1 => by show (ends e n ++ Dig.bytes (e n)).length = _; rw [List.length_append, ends_length e n, bytes_length]; omega
theorem ends_congr {e f : Nat → D} : ∀ n, (∀ i, i < n → e i = f i) → ends e n = ends f n
  | 0, _ => rfl
  | n + 1, h => by show ends e n ++ _ = ends f n ++ _; rw [ends_congr n (fun i hi => h i (by omega)), h n (by omega)]
/-- The digest of the last values. -/
def pubE (e : Nat → D) : D := ofL (ends e 18)
theorem pubE_congr {e f : Nat → D} (h : ∀ i, i < 18 → e i = f i) : pubE e = pubE f := by unfold pubE; rw [ends_congr 18 h]
def pub (seed : D) (a b : UInt8) : D := pubE fun i => val seed a b i 15

/-! ### The tree -/
/-- The two low Dig.bytes of a key. -/
def keyA (q : Nat) : UInt8 := UInt8.ofNat q
def keyB (q : Nat) : UInt8 := UInt8.ofNat (q / 256)
def node (seed : D) : Nat → Nat → D
  | 0, q => pub seed (keyA q) (keyB q)
  | l + 1, i => pair (node seed l (2 * i)) (node seed l (2 * i + 1))
/-- The row of a level in a tree of height h. -/
def row (seed : D) (h l : Nat) : List D := (List.range (2 ^ (h - l))).map (node seed l)
theorem row_length (seed : D) (h l : Nat) : (row seed h l).length = 2 ^ (h - l) := by unfold row; simp
theorem row_getD (seed : D) (h l i : Nat) (hi : i < 2 ^ (h - l)) : (row seed h l).getD i 0#64 = node seed l i := by
  unfold row
  rw [List.getD_eq_getElem?_getD, List.getElem?_map, List.getElem?_range hi]; rfl
/-- The neighbour. -/
def sib (q : Nat) : Nat := if q % 2 = 0 then q + 1 else q - 1
def path (seed : D) (h q : Nat) : List D := (List.range h).map fun l => node seed l (sib (q / 2 ^ l))
theorem path_length (seed : D) (h q : Nat) : (path seed h q).length = h := by unfold path; simp
/-- The way up, with the first j of the path. -/
def up (q : Nat) (p : List D) (x : D) : Nat → D
  | 0 => x
  | j + 1 => if q / 2 ^ j % 2 = 0 then pair (up q p x j) (p.getD j 0#64) else pair (p.getD j 0#64) (up q p x j)
theorem up_node (seed : D) (h q : Nat) : ∀ j, j ≤ h → up q (path seed h q) (node seed 0 q) j = node seed j (q / 2 ^ j)
  | 0, _ => by show node seed 0 q = _; rw [Nat.pow_zero, Nat.div_one]
  | j + 1, hj => by
    have hp : (path seed h q).getD j 0#64 = node seed j (sib (q / 2 ^ j)) := by
      unfold path
      rw [List.getD_eq_getElem?_getD, List.getElem?_map, List.getElem?_range (by omega)]; rfl
    show (if q / 2 ^ j % 2 = 0 then _ else _) = _
    rw [up_node seed h q j (by omega), hp]
    have e : q / 2 ^ (j + 1) = q / 2 ^ j / 2 := by rw [Nat.pow_succ, Nat.div_div_eq_div_mul]
    rw [e]
    obtain ⟨t, ht⟩ : ∃ t, q / 2 ^ j = t := ⟨_, rfl⟩
    rw [ht]
    unfold sib
    show _ = pair (node seed j (2 * (t / 2))) (node seed j (2 * (t / 2) + 1))
    by_cases h2 : t % 2 = 0
    · rw [if_pos h2, if_pos h2, show 2 * (t / 2) = t by omega]
    · rw [if_neg h2, if_neg h2, show 2 * (t / 2) = t - 1 by omega, show t - 1 + 1 = t by omega]
theorem up_root (seed : D) (h q : Nat) (hq : q < 2 ^ h) : up q (path seed h q) (node seed 0 q) h = node seed h 0 := by
  rw [up_node seed h q h (Nat.le_refl _), Nat.div_eq_of_lt hq]
end Sgn

section
open Go.RowKit

/-- The cells of an array of 18. -/
def Arr (W : World) (b : Nat) (v : Nat → Value) : Prop := ∀ j, j < 18 → W.cell? ⟨b, j, none⟩ = some (v j) ∧ W.frozen? ⟨b, j, none⟩ = false
theorem Arr.set {W : World} {b : Nat} {v : Nat → Value} (h : Arr W b v) (i : Nat) (_hi : i < 18) (u : Value) : Arr (W.setCell ⟨b, i, none⟩ u) b (fun j => if j = i then u else v j) := by
  intro j hj
  refine ⟨?_, by rw [World.frozen?_setCell]; exact (h j hj).2⟩
  by_cases e : j = i
  · subst e
    show _ = some (if j = j then u else v j)
    rw [if_pos rfl]
    exact World.cell?_setCell_same' _ _ _ (by rw [(h j hj).1]; rfl)
  · show _ = some (if j = i then u else v j)
    rw [if_neg e, World.cell?_setCell_other _ _ _ _ (by simp <;> omega)]
    exact (h j hj).1
theorem Arr.congr {W : World} {b : Nat} {v u : Nat → Value} (h : Arr W b v) (e : ∀ j, j < 18 → v j = u j) : Arr W b u := fun j hj => ⟨by rw [← e j hj]; exact (h j hj).1, (h j hj).2⟩
theorem Arr.other {W : World} {b : Nat} {v : Nat → Value} (h : Arr W b v) {p : Addr} (hp : p.block ≠ b) (u : Value) : Arr (W.setCell p u) b v := fun j hj => ⟨by rw [World.cell?_setCell_other _ _ _ _ (by intro e; subst e; exact hp rfl)]; exact (h j hj).1, by rw [World.frozen?_setCell]; exact (h j hj).2⟩
theorem Arr.later {w w' : World} {b : Nat} {v : Nat → Value} (h : Arr w b v) (hb : Below w.heap.size w w') : Arr w' b v := fun j hj =>
  have hz := World.block_lt_of_cell? _ _ (h j hj).1
  ⟨(hb.cell hz).trans (h j hj).1, (hb.frozen hz).trans (h j hj).2⟩
theorem arr_new (w : World) (v : Nat → Value) (C : Array Value) (t : TypeId) (h : C = ((List.range 18).map v).toArray) : Arr (w.alloc (.cells C t)) w.heap.size v := by
  subst h
  intro j hj
  have e : (w.alloc (.cells ((List.range 18).map v).toArray t)).heap[w.heap.size]? = some (.cells ((List.range 18).map v).toArray t) := by
    show (w.heap.push _)[w.heap.size]? = _
    simp
  constructor
  · unfold World.cell?
    simp only [e]
    simp [hj]
  · unfold World.frozen?
    simp only [e]
    simp
def arrL (v : Nat → Value) : List Value := (List.range 18).map v
/-- The value of an array of 18 cells. -/
def arrA (v : Nat → Value) : Value := .agg (arrL v).toArray
theorem arrL_length (v : Nat → Value) : (arrL v).length = 18 := by simp [arrL]
theorem arrL_get (v : Nat → Value) (j : Nat) (h : j < 18) : (arrL v)[j]? = some (v j) := by simp [arrL, h]
theorem arrA_congr {v u : Nat → Value} (e : ∀ j, j < 18 → v j = u j) : arrA v = arrA u := by
  unfold arrA arrL
  congr 2
  exact List.map_congr_left fun j hj => e j (by simpa using hj)

section
variable {P : Program}
theorem run_loadA {W : World} {b : Nat} {v : Nat → Value} (h : Arr W b v) {t e : TypeId} (hu : P.underlying t = some (.array 18 e)) (hi : (P.info? t).map (·.size) = some 18) : (loadVar t ⟨b, 0, none⟩).run P W = .ok (arrA v) W := by
  have hl := run_loadCells_list (P := P) W ⟨b, 0, none⟩ (arrL v) (fun j u hj => by
    have hj18 : j < 18 := by
      rcases Nat.lt_or_ge j 18 with h | h
      · exact h
      · rw [List.getElem?_eq_none (by rw [arrL_length]; exact h)] at hj; cases hj
    rw [arrL_get v j hj18] at hj
    have hadd : (⟨b, 0, none⟩ : Addr).add j = ⟨b, j, none⟩ := by unfold Addr.add; split <;> simp_all
    rw [hadd, (h j hj18).1]; exact hj)
  rw [arrL_length] at hl
  cases hq : P.info? t with
  | none => simp [hq] at hi
  | some i =>
    have hs : i.size = 18 := by simp [hq] at hi; exact hi
    simp [loadVar, isAgg, run_underlying hu, sizeOf, typeInfo, hq, hs, hl, arrA]
theorem below_setCells {B : Nat} {w0 : World} {b : Nat} (hb : B ≤ b) : ∀ (vs : List Value) (o : Nat) (w : World), Below B w0 w → Below B w0 (w.setCells b o vs)
  | [], _, _, h => h
  | v :: r, o, _w, h => below_setCells hb r (o + 1) _ (h.setCell (p := ⟨b, o, none⟩) hb v)
theorem size_setCells (b : Nat) : ∀ (vs : List Value) (o : Nat) (w : World), (w.setCells b o vs).heap.size = w.heap.size
  | [], _, _ => rfl
  | v :: r, o, w => by rw [World.setCells, size_setCells b r]; simp
/-- What a store of a whole array leaves. -/
structure ArrSet (b : Nat) (v : Nat → Value) (W W2 : World) : Prop where
  arr : Arr W2 b v
  cell : ∀ p : Addr, p.block ≠ b → W2.cell? p = W.cell? p
  frozen : ∀ p : Addr, W2.frozen? p = W.frozen? p
  below : ∀ B w0, B ≤ b → Below B w0 W → Below B w0 W2
  size : W2.heap.size = W.heap.size
theorem ArrSet.other {b c : Nat} {v u : Nat → Value} {W W2 : World} (h : ArrSet b v W W2) (hc : c ≠ b) (ha : Arr W c u) : Arr W2 c u := fun j hj => ⟨(h.cell ⟨c, j, none⟩ hc).trans (ha j hj).1, (h.frozen _).trans (ha j hj).2⟩
theorem run_storeA {W : World} {b : Nat} {v u : Nat → Value} (h : Arr W b u) (h1 : ∀ j, j < 18 → (v j).oneCell' = true) {t : TypeId} (hi : (P.info? t).map (·.size) = some 18) : ∃ W2, (storeVar t ⟨b, 0, none⟩ (arrA v)).run P W = .ok () W2 ∧ ArrSet b v W W2 := by
  have hst := run_storeCells_cells (P := P) b 0 (arrL v) 0 W (fun j hj => by rw [arrL_length] at hj; simp only [Nat.zero_add]; rw [(h j hj).1]; rfl) (fun j hj => by rw [arrL_length] at hj; simp only [Nat.zero_add]; exact (h j hj).2) (fun x hx => by
    obtain ⟨j, hj, rfl⟩ := List.mem_map.1 hx
    exact h1 j (by simpa using hj))
  refine ⟨W.setCells b (0 + 0) (arrL v), ?_, ⟨fun j hj => ⟨?_, by rw [World.frozen?_setCells]; exact (h j hj).2⟩, fun p hp => World.cell?_setCells_out b _ _ W p (fun e => absurd e hp), fun p => World.frozen?_setCells b _ _ W p, fun B w0 hb hB => below_setCells hb _ _ W hB, size_setCells b _ _ W⟩⟩
  · cases hq : P.info? t with
    | none => simp [hq] at hi
    | some i =>
      have hs : i.size = 18 := by simp [hq] at hi; exact hi
      have hsz : (arrL v).toArray.size = 18 := by simp [arrL_length]
      simp [storeVar, sizeOf, typeInfo, hq, hs, arrA, Value.cells, arrL_length]
      exact hst
  · have := World.cell?_setCells_in b (arrL v) (0 + 0) W (fun i hi => by rw [arrL_length] at hi; simp only [Nat.zero_add]; rw [(h i hi).1]; rfl) j (by rw [arrL_length]; exact hj)
    simp only [Nat.zero_add] at this ⊢
    rw [this]
    have e := arrL_get v j hj
    rw [List.getElem?_eq_getElem (by rw [arrL_length]; exact hj)] at e
    exact e

variable {ops : Array Oper} {rest : List Oper} {o : Oper} {a : Act} {w : World} {Q : Exit → Act → World → Prop}
theorem wpList_loadA (hg : o.guard = none) (t : TypeId) (p : Operand) (ho : o.op = .load t p) {b : Nat} (hp : a.eval p = .pointer (some ⟨b, 0, none⟩)) {v : Value} (hrun : (loadVar t ⟨b, 0, none⟩).run P w = .ok v w)
    (h : wpList P ops Q rest (a.put o.dst v) w) : wpList P ops Q (o :: rest) a w :=
  wpList_plain hg fun _ hK => by
    unfold Oper.wp
    simp [execOp, ho, hp, Instr.loadAt, Instr.sureAddr, hrun, Result.andThen]
    exact hK _ _ h
theorem wpList_storeA (hg : o.guard = none) (hd : o.dst = none) (t : TypeId) (p x : Operand) (ho : o.op = .store t p x) {b : Nat} (hp : a.eval p = .pointer (some ⟨b, 0, none⟩)) {w2 : World} (hrun : (storeVar t ⟨b, 0, none⟩ (a.eval x)).run P w = .ok () w2)
    (h : wpList P ops Q rest a w2) : wpList P ops Q (o :: rest) a w :=
  wpList_plain hg fun K hK => by
    unfold Oper.wp
    simp [execOp, ho, hp, Instr.storeAt, Instr.sureAddr, hrun, Result.andThen]
    have e : a.put o.dst undef = a := by rw [hd]; rfl
    show K (a.put o.dst undef) w2
    rw [e]
    exact hK _ _ h
theorem results_cellA {fn : Func} {p : Tmp} {ty : TypeId} (h : fn.results = #[.cell p ty]) {tmps : Array Value} {b : Nat} (hp : tmps.getD p undef = .pointer (some ⟨b, 0, none⟩)) {v : Value} (hrun : (loadVar ty ⟨b, 0, none⟩).run P w = .ok v w) : (results fn tmps).run P w = .ok v w := by
  simp only [results, h]
  have hp' : tmps[p]?.getD undef = .pointer (some ⟨b, 0, none⟩) := by rw [← Array.getD_eq_getD_getElem?]; exact hp
  simp [asAddr, hp', hrun]
end
end

section
open Go.RowKit

theorem arrI_underlying : Tryz.prog.underlying 123 = some (.array 18 3) := by kernel_rfl
theorem arrI_size : (Tryz.prog.info? 123).map (·.size) = some 18 := by kernel_rfl
/-- The value of Digits. -/
def digV (d : D64) (j : Nat) : Value := .int .i64 ((Sgn.dig d j : Nat) : Int)
theorem u64_low4 (x : D64) : bits .and .u64 (num x) 15 = ((x.toNat % 16 : Nat) : Int) := by
  have h : bits .and .u64 (num x) (num 15#64) = num (x &&& 15#64) := u64_and x 15#64
  have e : num 15#64 = 15 := by decide
  rw [e] at h
  rw [h]
  unfold num
  rw [BitVec.toNat_and]
  show ((x.toNat &&& 15 : Nat) : Int) = _
  rw [show (15 : Nat) = 2 ^ 4 - 1 from rfl, Nat.and_two_pow_sub_one_eq_mod]
def DgRel (d : D64) (w : World) (u4 u6 : Value) (wr : World) : Prop :=
  ∃ i : Nat, i ≤ 16 ∧ u6 = .int .i64 (i : Int) ∧ u4 = .int .i64 ((Sgn.lack d i : Nat) : Int) ∧ Below w.heap.size w wr ∧
    Arr wr (w.heap.size + 1) (fun j => if j < i then .int .i64 ((Sgn.dg d j : Nat) : Int) else .int .i64 0) ∧ Arr wr w.heap.size (fun _ => .int .i64 0)

set_option maxHeartbeats 2000000 in
set_option maxRecDepth 20000 in
theorem digits_any (d : D64) (w : World) : Calls Tryz.prog 68 #[.int .u64 (num d)] w fun e w' => e = .returned (arrA (digV d)) ∧ Below w.heap.size w w' := by
  have hB := Below.refl w.heap.size w
  go_enter Tryz.func68, Tryz.ntmps68
  go_wp2_with fail
  go_loopw [4, 6] (fun u4 u6 wr => DgRel d w u4 u6 wr) (fun _ u6 _ => 16 - (intOf u6).toNat)
  case atStart =>
    refine ⟨0, by omega, rfl, rfl, al (al hB _) _, ?_, ?_⟩
    · have := arr_new (w.alloc (.cells #[.int .i64 0, .int .i64 0, .int .i64 0, .int .i64 0, .int .i64 0, .int .i64 0, .int .i64 0, .int .i64 0, .int .i64 0, .int .i64 0, .int .i64 0, .int .i64 0, .int .i64 0, .int .i64 0, .int .i64 0, .int .i64 0, .int .i64 0, .int .i64 0] 123)) (fun _ => .int .i64 0) #[.int .i64 0, .int .i64 0, .int .i64 0, .int .i64 0, .int .i64 0, .int .i64 0, .int .i64 0, .int .i64 0, .int .i64 0, .int .i64 0, .int .i64 0, .int .i64 0, .int .i64 0, .int .i64 0, .int .i64 0, .int .i64 0, .int .i64 0, .int .i64 0] 123 rfl
      rw [World.size_alloc] at this
      exact this
    · exact (arr_new w (fun _ => .int .i64 0) #[.int .i64 0, .int .i64 0, .int .i64 0, .int .i64 0, .int .i64 0, .int .i64 0, .int .i64 0, .int .i64 0, .int .i64 0, .int .i64 0, .int .i64 0, .int .i64 0, .int .i64 0, .int .i64 0, .int .i64 0, .int .i64 0, .int .i64 0, .int .i64 0] 123 rfl).later (al (Below.refl _ _) _)
  case round =>
    clear hB
    obtain ⟨i, hi, rfl, rfl, hB, hA, hR⟩ := hrel
    have hlk := Sgn.lack_le d i
    by_cases hlt : i < 16
    · have hci := hA i (by omega)
      have hdg : (d >>> (4 * i)).toNat % 16 = Sgn.dg d i := rfl
      have hd15 := Sgn.dg_lt d i
      obtain ⟨x, hx⟩ : ∃ x, Sgn.dg d i = x := ⟨_, rfl⟩
      obtain ⟨s, hs⟩ : ∃ s, 4 * i = s := ⟨_, rfl⟩
      have h4i : 4 * (i : Int) = (s : Int) := by omega
      have hs63 : s < 64 := by omega
      obtain ⟨y, hy⟩ : ∃ y, d >>> s = y := ⟨_, rfl⟩
      have hsh : num d / 2 ^ s = num y := by rw [← hy, ← shr_of]; simp
      rw [hs, hy, hx] at hdg
      have hand := u64_low4 y
      rw [hdg] at hand
      have hfi : wr.frozen? ⟨w.heap.size + 1, i, none⟩ = false := hci.2
      have hvi := hci.1
      have HX : Hid (Sgn.lack d (i + 1) = Sgn.lack d i + (15 - x)) := by show _ = _; rw [← hx]; rfl
      have HX2 := Lib.hid hx
      clear hx hci
      go_wp2_with fail
      refine ⟨⟨i + 1, by omega, by go_num, by rw [HX.out]; congr 1; omega, hB.setCell (by simp) _, (hA.set i (by omega) _).congr fun j _ => ?_, hR.other (by simp) _⟩, by simp [intOf]; omega⟩
      by_cases hji : j = i
      · subst hji; simp [HX2.out]
      · by_cases h2 : j < i
        · simp [hji, h2, show j < i + 1 by omega]
        · simp [hji, h2, show ¬ j < i + 1 by omega]
    · obtain rfl : i = 16 := by omega
      have c16 : wr.cell? ⟨w.heap.size + 1, 16, none⟩ = some (.int .i64 0) := (hA 16 (by omega)).1
      have c17 : wr.cell? ⟨w.heap.size + 1, 17, none⟩ = some (.int .i64 0) := (hA 17 (by omega)).1
      have f16 := (hA 16 (by omega)).2
      have f17 := (hA 17 (by omega)).2
      have e16 := Sgn.dig_16 d
      have e17 := Sgn.dig_17 d
      obtain ⟨m, hm⟩ : ∃ m, Sgn.lack d 16 = m := ⟨_, rfl⟩
      obtain ⟨m1, hm1⟩ : ∃ k, m % 16 = k := ⟨_, rfl⟩
      obtain ⟨m2, hm2⟩ : ∃ k, m / 16 = k := ⟨_, rfl⟩
      have hmod : (m : Int) % 16 = (m1 : Int) := by omega
      have hmodt : (m : Int).tmod 16 = (m1 : Int) := by rw [Int.tmod_eq_emod_of_nonneg (by omega)]; omega
      have hdiv : (m : Int) / 16 = (m2 : Int) := by omega
      have hdivt : (m : Int).tdiv 16 = (m2 : Int) := by rw [Int.tdiv_eq_ediv_of_nonneg (by omega)]; omega
      rw [hm] at e16 e17 hlk ⊢
      rw [hm1] at e16
      rw [hm2] at e17
      have hA2 : Arr _ (w.heap.size + 1) (digV d) := ((hA.set 16 (by omega) (.int .i64 (m1 : Int))).set 17 (by omega) (.int .i64 (m2 : Int))).congr fun j hj => by
        unfold digV
        by_cases h17 : j = 17
        · subst h17; simp [e17]
        · by_cases h16 : j = 16
          · subst h16; simp [e16]
          · rw [if_neg h17, if_neg h16, if_pos (by omega), Sgn.dig_low d j (by omega)]
      have hB2 := (hB.setCell (p := ⟨w.heap.size + 1, 16, none⟩) (by simp) (.int .i64 (m1 : Int))).setCell (p := ⟨w.heap.size + 1, 17, none⟩) (by simp) (.int .i64 (m2 : Int))
      have hR2 := (hR.other (p := ⟨w.heap.size + 1, 16, none⟩) (by simp) (.int .i64 (m1 : Int))).other (p := ⟨w.heap.size + 1, 17, none⟩) (by simp) (.int .i64 (m2 : Int))
      obtain ⟨W1, hW1⟩ : ∃ X, (wr.setCell ⟨w.heap.size + 1, 16, none⟩ (.int .i64 (m1 : Int))).setCell ⟨w.heap.size + 1, 17, none⟩ (.int .i64 (m2 : Int)) = X := ⟨_, rfl⟩
      rw [hW1] at hA2 hB2 hR2
      have hl1 := run_loadA (P := Tryz.prog) hA2 arrI_underlying arrI_size
      obtain ⟨W2, hs1, hset⟩ := run_storeA (P := Tryz.prog) hR2 (v := digV d) (fun _ _ => rfl) arrI_size
      have hl2 := run_loadA (P := Tryz.prog) hset.arr arrI_underlying arrI_size
      have hB3 := hset.below _ _ (Nat.le_refl _) hB2
      clear hm hm1 hm2 e16 e17 hA2 hB2 hR2 hA hR hB hset
      go_wp2_with (first | (refine wpList_loadA rfl _ _ rfl (b := w.heap.size + 1) rfl hl1 ?_) | (refine wpList_storeA rfl rfl _ _ _ rfl (b := w.heap.size) rfl hs1 ?_))
      exact bodyPost_ret (v := arrA (digV d)) (results_cellA rfl rfl hl2) rfl ⟨rfl, hB3⟩
end

section
open Go.RowKit

/-- The last byte of an integer. -/
def u8z (v : Int) : UInt8 := UInt8.ofNat (v % 256).toNat
theorem wrap_u8z (v : Int) : IntKind.u8.wrap v = ((u8z v).toNat : Int) := by
  unfold u8z
  rw [UInt8.toNat_ofNat']
  simp [IntKind.wrap, IntKind.bits, IntKind.signed]
  omega
theorem u8z_nat (n : Nat) : u8z (n : Int) = UInt8.ofNat n := by
  unfold u8z
  apply UInt8.toNat_inj.1
  rw [UInt8.toNat_ofNat', UInt8.toNat_ofNat']
  omega
theorem lit2 (w : World) (a b : UInt8) : Bts (w.alloc (.cells #[.int .u8 (a.toNat : Int), .int .u8 (b.toNat : Int)] 5)) (some ⟨w.heap.size, 0, none⟩) [a, b] := bts_new w [a, b] _ (0, 0)
theorem lit3 (w : World) (a b c : UInt8) : Bts (w.alloc (.cells #[.int .u8 (a.toNat : Int), .int .u8 (b.toNat : Int), .int .u8 (c.toNat : Int)] 5)) (some ⟨w.heap.size, 0, none⟩) [a, b, c] := bts_new w [a, b, c] _ (0, 0)

set_option maxHeartbeats 1000000 in
theorem step_any (i k : Int) (x : D64) (w : World) : Calls Tryz.prog 93 #[.int .i64 i, .int .i64 k, .int .u64 (num x)] w (NumOf (Sgn.stepS (u8z i) (u8z k) x) w) := by
  have hwi := wrap_u8z i
  have hwk := wrap_u8z k
  have HP : Hid (num (Dig.ofL (u8z i :: u8z k :: Dig.bytes x)) = num (Sgn.stepS (u8z i) (u8z k) x)) := rfl
  obtain ⟨a, ha⟩ : ∃ a, u8z i = a := ⟨_, rfl⟩
  obtain ⟨b, hb'⟩ : ∃ a, u8z k = a := ⟨_, rfl⟩
  rw [ha] at hwi HP ⊢
  rw [hb'] at hwk HP ⊢
  obtain ⟨lx, hlx⟩ : ∃ l, Dig.bytes x = l := ⟨_, rfl⟩
  have nx : lx.length = 8 := by rw [← hlx]; exact Dig.bytes_length _
  have cx := bytes_any x
  rw [hlx] at cx HP
  have HA := Lib.hid nx
  obtain ⟨l, hl⟩ : ∃ l, [a, b] ++ lx = l := ⟨_, rfl⟩
  rw [show a :: b :: lx = l from hl] at HP
  clear hlx nx ha hb'
  go_enter Tryz.func93, Tryz.ntmps93
  go_wp2_with fail
  refine (cx _).mono ?_
  rintro e w1 ⟨b1, rfl, y1, hb1⟩
  clear cx
  have z1 := (lit2 w a b).later hb1
  have hB := thru (al (Below.refl _ w) _) hb1
  clear hb1
  go_wp2_with (at_builtin; refine wpList_app_full rfl _ _ rfl (l := [a, b]) (cap := 2) rfl z1 (fun h => by cases h) (m := lx) rfl y1 (by have := HA.out; simp; omega) (by have := HA.out; simp; omega) hl ?_; intro x' cap' w3 h1 h2; refine Hid.out ?_)
  unfold Hid
  have y3 := h1.bts
  replace hB := thru hB h2
  have hll : (l.length : Int) ≤ 100000 := by rw [← hl]; have := HA.out; simp; omega
  clear y1 z1 h1 h2 hl
  go_wp2_with fail
  refine (of_any _ l _ _ hll y3).mono ?_
  rintro e w4 ⟨rfl, h4⟩
  rw [HP.out]
  clear y3 hll
  go_wp2_with fail
  go_ret
  exact ⟨rfl, thru hB h4⟩

def AdRel (i f t : Nat) (x : D64) (w : World) (u3 u9 : Value) (wr : World) : Prop :=
  ∃ n : Nat, f + n ≤ t ∧ u9 = .int .i64 ((f + n : Nat) : Int) ∧ u3 = .int .u64 (num (Sgn.adv (UInt8.ofNat i) f n x)) ∧ Below w.heap.size w wr
set_option maxHeartbeats 1000000 in
theorem advance_any (i f t : Nat) (x : D64) (w : World) (hft : f ≤ t) (ht : t ≤ 15) : Calls Tryz.prog 71 #[.int .i64 (i : Int), .int .i64 (f : Int), .int .i64 (t : Int), .int .u64 (num x)] w (NumOf (Sgn.adv (UInt8.ofNat i) f (t - f) x) w) := by
  have hB := Below.refl w.heap.size w
  go_enter Tryz.func71, Tryz.ntmps71
  go_wp2_with fail
  go_loopw [3, 9] (fun u3 u9 wr => AdRel i f t x w u3 u9 wr) (fun _ u9 _ => t - (intOf u9).toNat)
  case atStart => exact ⟨0, by omega, rfl, rfl, hB⟩
  case round =>
    clear hB
    obtain ⟨n, hn, rfl, rfl, hB⟩ := hrel
    by_cases hlt : f + n < t
    · obtain ⟨k, hk⟩ : ∃ k, f + n = k := ⟨_, rfl⟩
      have HX : Hid (Sgn.adv (UInt8.ofNat i) f (n + 1) x = Sgn.stepS (UInt8.ofNat i) (UInt8.ofNat k) (Sgn.adv (UInt8.ofNat i) f n x)) := by show Sgn.stepS _ (UInt8.ofNat (f + n)) _ = _; rw [hk]
      have HK := Lib.hid hk
      obtain ⟨y, hy⟩ : ∃ y, Sgn.adv (UInt8.ofNat i) f n x = y := ⟨_, rfl⟩
      rw [hy] at HX
      rw [hk] at hlt ⊢
      rw [hy]
      have hkt : decide (k < t) = true := decide_eq_true hlt
      clear hk hy hn
      go_wp2_with fail
      refine (step_any (i : Int) (k : Int) y _).mono ?_
      rintro e w1 ⟨rfl, hb⟩
      rw [u8z_nat, u8z_nat, ← HX.out]
      replace hB := thru hB hb
      clear hb
      go_wp2_with fail
      refine ⟨⟨n + 1, by have := HK.out; omega, by have := HK.out; congr 1; omega, rfl, hB⟩, by simp [intOf]; omega⟩
    · have hnn : t - f = n := by omega
      have HNN := Lib.hid hnn
      obtain ⟨k, hk⟩ : ∃ k, f + n = k := ⟨_, rfl⟩
      rw [hk] at hlt ⊢
      have hkt : decide (k < t) = false := decide_eq_false hlt
      clear hk hnn
      go_wp2_with fail
      go_ret
      exact ⟨by rw [HNN.out]; rfl, hB⟩

set_option maxHeartbeats 1000000 in
theorem secret_any (seed : D64) (q i : Int) (w : World) : Calls Tryz.prog 86 #[.int .u64 (num seed), .int .i64 q, .int .i64 i] w (NumOf (Sgn.sec seed (u8z q) (u8z (q / 256)) (u8z i)) w) := by
  have hwq := wrap_u8z q
  have hwp := wrap_u8z (q / 256)
  have hwi := wrap_u8z i
  have HP : Hid (num (Dig.ofL (Dig.bytes seed ++ [u8z q, u8z (q / 256), u8z i])) = num (Sgn.sec seed (u8z q) (u8z (q / 256)) (u8z i))) := rfl
  obtain ⟨a, ha⟩ : ∃ a, u8z q = a := ⟨_, rfl⟩
  obtain ⟨b, hb'⟩ : ∃ a, u8z (q / 256) = a := ⟨_, rfl⟩
  obtain ⟨c, hc⟩ : ∃ a, u8z i = a := ⟨_, rfl⟩
  rw [ha] at hwq HP ⊢
  rw [hb'] at hwp HP ⊢
  rw [hc] at hwi HP ⊢
  obtain ⟨lx, hlx⟩ : ∃ l, Dig.bytes seed = l := ⟨_, rfl⟩
  have nx : lx.length = 8 := by rw [← hlx]; exact Dig.bytes_length _
  have cx := bytes_any seed
  rw [hlx] at cx HP
  have HA := Lib.hid nx
  obtain ⟨l, hl⟩ : ∃ l, lx ++ [a, b, c] = l := ⟨_, rfl⟩
  rw [hl] at HP
  clear hlx nx ha hb' hc
  go_enter Tryz.func86, Tryz.ntmps86
  go_wp2_with fail
  refine (cx _).mono ?_
  rintro e w1 ⟨b1, rfl, y1, hb1⟩
  clear cx
  have z1 := y1.later (al (Below.refl _ w1) (.cells #[.int .u8 (a.toNat : Int), .int .u8 (b.toNat : Int), .int .u8 (c.toNat : Int)] 5))
  go_wp2_with (at_builtin; refine wpList_app_full rfl _ _ rfl (l := lx) (cap := lx.length) rfl z1 (fun h => by cases h) (m := [a, b, c]) rfl (lit3 w1 a b c) (by have := HA.out; simp) (by have := HA.out; simp; omega) hl ?_; intro x' cap' w3 h1 h2; refine Hid.out ?_)
  unfold Hid
  have y3 := h1.bts
  have hB := thru (al hb1 _) h2
  have hll : (l.length : Int) ≤ 100000 := by rw [← hl]; have := HA.out; simp; omega
  clear y1 z1 h1 h2 hl hb1
  go_wp2_with fail
  refine (of_any _ l _ _ hll y3).mono ?_
  rintro e w4 ⟨rfl, h4⟩
  rw [HP.out]
  clear y3 hll
  go_wp2_with fail
  go_ret
  exact ⟨rfl, thru hB h4⟩
end

section
open Go.RowKit

theorem arrW_underlying : Tryz.prog.underlying 24 = some (.array 18 23) := by kernel_rfl
theorem arrW_size : (Tryz.prog.info? 24).map (·.size) = some 18 := by kernel_rfl
/-- The cells of an array of words. -/
def wrdV (f : Nat → D64) (j : Nat) : Value := .int .u64 (num (f j))
def VaRel (f : Nat → D64) (w : World) (u5 : Value) (wr : World) : Prop :=
  ∃ i : Nat, i ≤ 18 ∧ u5 = .int .i64 (i : Int) ∧ Below w.heap.size w wr ∧ Arr wr (w.heap.size + 1) (fun j => if j < i then .int .u64 (num (f j)) else .int .u64 0) ∧ Arr wr w.heap.size (fun _ => .int .u64 0)
theorem zeros18 (w : World) : Arr (w.alloc (.cells #[.int .u64 0, .int .u64 0, .int .u64 0, .int .u64 0, .int .u64 0, .int .u64 0, .int .u64 0, .int .u64 0, .int .u64 0, .int .u64 0, .int .u64 0, .int .u64 0, .int .u64 0, .int .u64 0, .int .u64 0, .int .u64 0, .int .u64 0, .int .u64 0] 24)) w.heap.size (fun _ => .int .u64 0) := arr_new w _ _ _ rfl

set_option maxHeartbeats 1000000 in
theorem values_any (G : Nat) (caps : Array Value) (f : Nat → D64) (w : World) (eg : ∀ args W, (callFunc G args).run Tryz.prog W = .ok (.enter G args) W)
    (hf : ∀ (i : Nat) (W : World), i < 18 → Below w.heap.size w W → Calls Tryz.prog G (#[.int .i64 (i : Int)] ++ caps) W (NumOf (f i) W)) :
    Calls Tryz.prog 66 #[.func (.func G) #[] caps] w fun e w' => e = .returned (arrA (wrdV f)) ∧ Below w.heap.size w w' := by
  have HF := Lib.hid hf
  have hB := Below.refl w.heap.size w
  clear hf
  go_enter Tryz.func66, Tryz.ntmps66
  go_wp2_with fail
  go_loopw [5] (fun u5 wr => VaRel f w u5 wr) (fun u5 _ => 18 - (intOf u5).toNat)
  case atStart =>
    refine ⟨0, by omega, rfl, al (al hB _) _, ?_, (zeros18 w).later (al (Below.refl _ _) _)⟩
    have := zeros18 (w.alloc (.cells #[.int .u64 0, .int .u64 0, .int .u64 0, .int .u64 0, .int .u64 0, .int .u64 0, .int .u64 0, .int .u64 0, .int .u64 0, .int .u64 0, .int .u64 0, .int .u64 0, .int .u64 0, .int .u64 0, .int .u64 0, .int .u64 0, .int .u64 0, .int .u64 0] 24))
    rw [World.size_alloc] at this
    exact this
  case round =>
    clear hB
    obtain ⟨i, hi, rfl, hB, hA, hR⟩ := hrel
    by_cases hlt : i < 18
    · have hki : decide ((i : Int) < 18) = true := by simp; omega
      go_wp2_with fail
      refine (HF.out i _ hlt hB).mono ?_
      rintro e w1 ⟨rfl, hb⟩
      have hA1 := hA.later hb
      have hR1 := hR.later hb
      have hB1 := thru hB hb
      have hvi := (hA1 i hlt).1
      have hfi : w1.frozen? ⟨w.heap.size + 1, i, none⟩ = false := (hA1 i hlt).2
      clear hA hR hB hb
      go_wp2_with fail
      refine ⟨⟨i + 1, by omega, by go_num, hB1.setCell (by simp) _, (hA1.set i (by omega) _).congr fun j _ => ?_, hR1.other (by simp) _⟩, by simp [intOf]; omega⟩
      by_cases hji : j = i
      · subst hji; simp
      · by_cases h2 : j < i
        · simp [hji, h2, show j < i + 1 by omega]
        · simp [hji, h2, show ¬ j < i + 1 by omega]
    · obtain rfl : i = 18 := by omega
      have hA2 : Arr wr (w.heap.size + 1) (wrdV f) := hA.congr fun j hj => by
        unfold wrdV
        rw [if_pos hj]
      have hl1 := run_loadA (P := Tryz.prog) hA2 arrW_underlying arrW_size
      obtain ⟨W2, hs1, hset⟩ := run_storeA (P := Tryz.prog) hR (v := wrdV f) (fun _ _ => rfl) arrW_size
      have hl2 := run_loadA (P := Tryz.prog) hset.arr arrW_underlying arrW_size
      have hB3 := hset.below _ _ (Nat.le_refl _) hB
      clear hA2 hA hR hB hset HF
      go_wp2_with (first | (refine wpList_loadA rfl _ _ rfl (b := w.heap.size + 1) rfl hl1 ?_) | (refine wpList_storeA rfl rfl _ _ _ rfl (b := w.heap.size) rfl hs1 ?_))
      exact bodyPost_ret (v := arrA (wrdV f)) (results_cellA rfl rfl hl2) rfl ⟨rfl, hB3⟩

theorem public1_any (seed : D64) (q : Int) (a b : Nat) (i : Nat) (w : World) (_hi : i < 18) (h0 : w.cell? ⟨a, 0, none⟩ = some (.int .u64 (num seed))) (h1 : w.cell? ⟨b, 0, none⟩ = some (.int .i64 q)) :
    Calls Tryz.prog 105 #[.int .i64 (i : Int), .pointer (some ⟨a, 0, none⟩), .pointer (some ⟨b, 0, none⟩)] w (NumOf (Sgn.val seed (u8z q) (u8z (q / 256)) i 15) w) := by
  have HV : Hid (Sgn.adv (UInt8.ofNat i) 0 15 (Sgn.sec seed (u8z q) (u8z (q / 256)) (UInt8.ofNat i)) = Sgn.val seed (u8z q) (u8z (q / 256)) i 15) := rfl
  go_enter Tryz.func105, Tryz.ntmps105
  go_wp2_with fail
  refine (secret_any seed q (i : Int) _).mono ?_
  rintro e w1 ⟨rfl, hb⟩
  rw [u8z_nat]
  obtain ⟨y, hy⟩ : ∃ y, Sgn.sec seed (u8z q) (u8z (q / 256)) (UInt8.ofNat i) = y := ⟨_, rfl⟩
  rw [hy] at HV ⊢
  clear hy
  go_wp2_with fail
  refine (advance_any i 0 15 y _ (by omega) (by omega)).mono ?_
  rintro e w2 ⟨rfl, hb2⟩
  rw [show 15 - 0 = 15 from rfl, HV.out]
  go_wp2_with fail
  go_ret
  exact ⟨rfl, thru hb hb2⟩
end

section
open Go.RowKit

/-- The first k of some bytes, the others still 0. -/
def fillL (l : List UInt8) (k : Nat) : List UInt8 := l.take k ++ List.replicate (l.length - k) 0
theorem fillL_length (l : List UInt8) (k : Nat) : (fillL l k).length = l.length := by unfold fillL; simp; omega
theorem fillL_zero (l : List UInt8) : fillL l 0 = List.replicate l.length 0 := rfl
theorem fillL_all (l : List UInt8) : fillL l l.length = l := by unfold fillL; simp
theorem fillL_succ (l : List UInt8) (k : Nat) (h : k < l.length) : (fillL l k).set k (l.getD k 0) = fillL l (k + 1) := by
  apply List.ext_getElem
  · rw [List.length_set, fillL_length, fillL_length]
  · intro i h1 h2
    rw [List.length_set, fillL_length] at h1
    have hx : (fillL l (k + 1))[i]? = some (if i < k + 1 then l[i] else 0) := by
      unfold fillL
      by_cases hi : i < k + 1
      · rw [List.getElem?_append_left (by simp; omega), List.getElem?_take, if_pos hi, if_pos hi, List.getElem?_eq_getElem h1]
      · rw [List.getElem?_append_right (by simp; omega), if_neg hi, List.getElem?_replicate, if_pos (by simp; omega)]
    have hy : ((fillL l k).set k (l.getD k 0))[i]? = some (if i < k + 1 then l[i] else 0) := by
      by_cases hk : i = k
      · subst hk
        rw [List.getElem?_set_self (by rw [fillL_length]; exact h), if_pos (by omega), List.getD_eq_getElem?_getD, List.getElem?_eq_getElem h]; rfl
      · rw [List.getElem?_set_ne (by omega)]
        unfold fillL
        by_cases hi : i < k
        · rw [List.getElem?_append_left (by simp; omega), List.getElem?_take, if_pos hi, if_pos (by omega), List.getElem?_eq_getElem h1]
        · rw [List.getElem?_append_right (by simp; omega), if_neg (by omega), List.getElem?_replicate, if_pos (by simp; omega)]
    rw [List.getElem?_eq_getElem (by rw [List.length_set, fillL_length]; exact h1)] at hy
    rw [List.getElem?_eq_getElem h2] at hx
    rw [Option.some.inj hy, Option.some.inj hx]

/-- A row just made whole. -/
theorem OwnsB.whole (B g : Nat) (w : World) (l : List UInt8) (C : Array Value) (hC : C = (l.map encB).toArray) (hB : B ≤ w.heap.size) (hg : w.heap.size = g) (hl : l.length ≤ 10000000) : OwnsB B (w.alloc (.cells C 5)) (some ⟨g, 0, none⟩) l.length l := by
  subst hg hC
  have hm : l.length ≤ maxLen := by unfold maxLen; omega
  exact ⟨by simp, .inr ⟨w.heap.size, l.length, (l.map encB).toArray, rfl, hB, heap_alloc_new w _, Nat.le_refl _, hm, by simp, by simp [List.take_of_length_le]⟩⟩
def zeroB (n : Nat) : Array Value := ((List.replicate n (0 : UInt8)).map encB).toArray
theorem made_zero (n : Nat) : madeCells (Value.cells (.int .u8 0)) n = zeroB n := by
  unfold zeroB
  apply Array.ext
  · rw [size_madeCells]; simp
  · intro i h1 h2
    simp [madeCells, Value.cells, encB, Nat.mod_one]
/-- make([]byte, n) -/
theorem run_zeros (n : Nat) (h : n ≤ 10000000) (w : World) : (Instr.makeSlice 22 (.int .i64 (n : Int)) (.int .i64 (n : Int))).run Tryz.prog w = .ok (.slice (some ⟨w.heap.size, 0, none⟩) n n) (w.alloc (.cells (zeroB n) 5)) := by
  obtain ⟨i0, hi, hz0, hz1, hz2⟩ := info_parts infoByte
  have := run_makeSlice (P := Tryz.prog) w 22 5 i0 (.int .u8 0) Tryz.underlying22 hi hz0 .i64 .i64 (n : Int) (n : Int) (by omega) (Int.le_refl _) (by rw [hz1]; simp; omega) (by rw [hz2]; omega) (by omega)
  rw [this, hz1]
  simp only [Int.toNat_natCast, Nat.mul_one, made_zero]
theorem OwnsB.zeros (B g n : Nat) (w : World) (hB : B ≤ w.heap.size) (hg : w.heap.size = g) (hl : n ≤ 10000000) : OwnsB B (w.alloc (.cells (zeroB n) 5)) (some ⟨g, 0, none⟩) n (List.replicate n 0) := by
  have := OwnsB.whole B g w (List.replicate n 0) (zeroB n) rfl hB hg (by simpa using hl)
  simpa using this
/-- make([]byte, 0, n) -/
theorem run_room (n : Nat) (h : n ≤ 10000000) (w : World) : (Instr.makeSlice 22 (.int .i64 0) (.int .i64 (n : Int))).run Tryz.prog w = .ok (.slice (some ⟨w.heap.size, 0, none⟩) 0 n) (w.alloc (.cells (zeroB n) 5)) := by
  obtain ⟨i0, hi, hz0, hz1, hz2⟩ := info_parts infoByte
  have := run_makeSlice (P := Tryz.prog) w 22 5 i0 (.int .u8 0) Tryz.underlying22 hi hz0 .i64 .i64 0 (n : Int) (Int.le_refl _) (by omega) (by rw [hz1]; simp; omega) (by rw [hz2]; omega) (by omega)
  rw [this, hz1]
  simp only [Int.toNat_natCast, Int.toNat_zero, Nat.mul_one, made_zero]
theorem OwnsB.room (B g n : Nat) (w : World) (hB : B ≤ w.heap.size) (hg : w.heap.size = g) (hl : n ≤ 10000000) : OwnsB B (w.alloc (.cells (zeroB n) 5)) (some ⟨g, 0, none⟩) n [] := by
  subst hg
  exact World.ownsRow_made (base := B) (e := 5) (size := 1) w (zeroB n) n hB (by unfold maxLen; omega) (by simp [zeroB])
theorem Bts.take {w : World} {x : Option Addr} {l : List UInt8} (h : Bts w x l) (n : Nat) : Bts w x (l.take n) := by
  rcases h with h | ⟨b, o, hx, hc⟩
  · subst h; exact .inl (by simp)
  · refine .inr ⟨b, o, hx, fun i hi => ?_⟩
    simp only [List.length_take] at hi
    rw [hc i (by omega)]
    congr 2
    rw [List.getD_eq_getElem?_getD, List.getD_eq_getElem?_getD, List.getElem?_take, if_pos (by omega)]
end

section
open Go.RowKit

def encW (b : D64) : Value := .int .u64 (num b)
/-- The slice that begins at x holds these bytes. -/
def Wts (w : World) (x : Option Addr) (l : List D64) : Prop :=
  l = [] ∨ ∃ b o, x = some ⟨b, o, none⟩ ∧ ∀ i, i < l.length → w.cell? ⟨b, o + i, none⟩ = some (encW (l.getD i 0#64))
theorem Wts.later {w w' : World} {x : Option Addr} {l : List D64} (h : Wts w x l) (hb : Below w.heap.size w w') : Wts w' x l := by
  rcases h with h | ⟨b, o, hx, hc⟩
  · exact .inl h
  · exact .inr ⟨b, o, hx, fun i hi => Go.Proofs.YtapefonhgkjgnaaGreat.later hb (hc i hi)⟩
theorem Wts.nil (w : World) (x : Option Addr) : Wts w x [] := .inl rfl
theorem encW_oneCell (b : D64) : (encW b).oneCell' = true := rfl
theorem infoWord : (Tryz.prog.info? 23).map (fun i => (i.zero, i.size, i.bytes)) = some (some (.int .u64 0), 1, 8) := by kernel_rfl
/-- What is left of a call that hands back a slice of its own: these bytes, from block B on, nothing that was there turned. -/
def OwnsW (B : Nat) (w : World) (x : Option Addr) (cap : Nat) (l : List D64) : Prop := w.ownsRow B 23 1 (.slice x l.length cap) l.length (l.map encW)
theorem Wts.of_owns {B : Nat} {w : World} {x : Option Addr} {cap : Nat} {l : List D64} (h : OwnsW B w x cap l) : Wts w x l := by
  rcases h.2 with ⟨hv, h0⟩ | ⟨g, cap', cur, hv, hB, hg, _, _, _, _⟩
  · exact .inl (List.eq_nil_of_length_eq_zero h0)
  · simp only [Value.slice.injEq] at hv
    refine .inr ⟨g, 0, hv.1, fun i hi => ?_⟩
    have := World.ownsRow.cells h (g := g) (by rw [hv.1]; rfl) i (encW (l.getD i 0#64)) (by simp [List.getElem?_eq_getElem hi])
    have hplain : (⟨g, 0, none⟩ : Addr).add i = ⟨g, 0 + i, none⟩ := by unfold Addr.add; split <;> simp_all
    rw [hplain] at this
    exact this
theorem OwnsW.wts {B : Nat} {w : World} {x : Option Addr} {cap : Nat} {l : List D64} (h : OwnsW B w x cap l) : Wts w x l := Wts.of_owns h
theorem news_of_wts {w : World} {a : Addr} {l : List D64} (h : Wts w (some a) l) : ∀ j u, (l.map encW)[j]? = some u → w.cell? (a.add j) = some u := by
  intro j u hj
  rcases h with h | ⟨b, o, hx, hc⟩
  · subst h; simp at hj
  · cases hx
    have hjl : j < l.length := by
      rcases Nat.lt_or_ge j l.length with h | h
      · exact h
      · simp [List.getElem?_eq_none h] at hj
    have hplain : (⟨b, o, none⟩ : Addr).add j = ⟨b, o + j, none⟩ := by unfold Addr.add; split <;> simp_all
    rw [hplain, hc j hjl]
    simp [List.getElem?_eq_getElem hjl] at hj
    simp [List.getElem?_eq_getElem hjl, hj]
theorem OwnsW.nil (B : Nat) (w : World) : OwnsW B w none 0 [] := World.ownsRow_nil _ _ _ _
theorem oneEncW (l : List D64) : ∀ u ∈ l.map encW, u.oneCell' = true := by
  intro u hu; simp at hu; obtain ⟨b, _, rfl⟩ := hu; rfl
theorem OwnsW.low {B : Nat} {w : World} {x : Option Addr} {cap : Nat} {l : List D64} (h : OwnsW B w x cap l) : ∀ b, RowOf x b → B ≤ b ∧ b < w.heap.size := by
  intro b hb
  rcases h.2 with ⟨hv, _⟩ | ⟨g, cap', cur, hv, hlo, hg, _⟩
  · simp only [Value.slice.injEq] at hv
    rw [hv.1] at hb; cases hb
  · simp only [Value.slice.injEq] at hv
    rw [hv.1] at hb; cases hb
    exact ⟨hlo, (Array.getElem?_eq_some_iff.1 hg).1⟩
theorem OwnsW.turn {B : Nat} {w w' : World} {x : Option Addr} {cap : Nat} {l : List D64} {T : Nat → Prop} (h : OwnsW B w x cap l) (ht : Turns T w w') (hT : ∀ b, RowOf x b → ¬ T b) : OwnsW B w' x cap l := by
  refine ⟨h.1, ?_⟩
  rcases h.2 with h0 | ⟨g, cap', cur, hv, hlo, hg, hr⟩
  · exact .inl h0
  · refine .inr ⟨g, cap', cur, hv, hlo, ?_, hr⟩
    simp only [Value.slice.injEq] at hv
    exact (ht.block g (Array.getElem?_eq_some_iff.1 hg).1 (hT g (by rw [hv.1]; rfl))).trans hg
theorem Wts.turn {w w' : World} {x : Option Addr} {l : List D64} {T : Nat → Prop} (h : Wts w x l) (ht : Turns T w w') (hT : ∀ a, x = some a → ¬ T a.block) : Wts w' x l := by
  rcases h with h | ⟨b, o, hx, hc⟩
  · exact .inl h
  · exact .inr ⟨b, o, hx, fun i hi => ht.cell (show ¬ T b from hT ⟨b, o, none⟩ hx) (hc i hi)⟩
theorem OwnsW.weaken {B B' : Nat} {w : World} {x : Option Addr} {cap : Nat} {l : List D64} (h : OwnsW B w x cap l) (hB : B' ≤ B) : OwnsW B' w x cap l := by
  refine ⟨h.1, ?_⟩
  rcases h.2 with h | ⟨g, cap, cur, h1, h2, h3⟩
  · exact .inl h
  · exact .inr ⟨g, cap, cur, h1, Nat.le_trans hB h2, h3⟩
theorem OwnsW.some_of {B : Nat} {w : World} {x : Option Addr} {cap : Nat} {l : List D64} (h : OwnsW B w x cap l) (h0 : 0 < l.length) : ∃ g, x = some ⟨g, 0, none⟩ := by
  rcases h.2 with ⟨_, hv⟩ | ⟨g, cap', cur, hv, _⟩
  · omega
  · simp only [Value.slice.injEq] at hv; exact ⟨g, hv.1⟩
theorem OwnsW.cell {B : Nat} {w : World} {g cap : Nat} {l : List D64} (h : OwnsW B w (some ⟨g, 0, none⟩) cap l) (i : Nat) (hi : i < l.length) : w.cell? ⟨g, i, none⟩ = some (.int .u64 (num (l.getD i 0#64))) := by
  rw [World.ownsRow.cellAt h i (by omega)]
  simp [List.getElem?_eq_getElem hi, encW]
theorem OwnsW.free {B : Nat} {w : World} {g cap : Nat} {l : List D64} (h : OwnsW B w (some ⟨g, 0, none⟩) cap l) (i : Nat) : w.frozen? ⟨g, i, none⟩ = false := World.ownsRow.frozenAt h i
theorem OwnsW.set {B : Nat} {w : World} {g cap : Nat} {l : List D64} (h : OwnsW B w (some ⟨g, 0, none⟩) cap l) (i : Nat) (v : D64) : OwnsW B (w.setCell ⟨g, i, none⟩ (.int .u64 (num v))) (some ⟨g, 0, none⟩) cap (l.set i v) := by
  have := (World.ownsRow.stored h i (.int .u64 (num v))).1
  have e : (l.map encW).set i (.int .u64 (num v)) = (l.set i v).map encW := by rw [List.map_set]; rfl
  rw [e] at this
  unfold OwnsW
  rw [List.length_set]
  exact this
/-- The bytes of a block just made. -/
theorem wts_new (w : World) (l : List D64) (t : TypeId) (p : Nat × Nat) : Wts (w.alloc (.cells (l.map encW).toArray t p)) (some ⟨w.heap.size, 0, none⟩) l := by
  refine .inr ⟨_, _, rfl, fun i hi => ?_⟩
  have h : (w.alloc (.cells (l.map encW).toArray t p)).heap[w.heap.size]? = some (.cells (l.map encW).toArray t p) := by
    show (w.heap.push _)[w.heap.size]? = _
    simp
  unfold World.cell?
  simp only [h]
  simp [List.getElem?_eq_getElem hi]
theorem wts_one (w : World) (v : D64) (t : TypeId) (p : Nat × Nat) : Wts (w.alloc (.cells #[.int .u64 (num v)] t p)) (some ⟨w.heap.size, 0, none⟩) [v] := wts_new w [v] t p
section
variable {w : World} {o : Oper} {a : Act} {Q : Exit → Act → World → Prop}
theorem wp_appW {K : Act → World → Prop} (s x : Operand) (ho : o.op = .call { callee := .builtin .append, args := #[s, x], argTypes := #[25, 25] })
    {B : Nat} {xa : Option Addr} {cap : Nat} {l : List D64} (hown : OwnsW B w xa cap l) (hs : a.eval s = .slice xa l.length cap)
    {y : Option Addr} {m : List D64} {c : Nat} (hx : a.eval x = .slice y m.length c) (hy : Wts w y m) (hyn : y = none → c = 0) (hl : l.length + m.length ≤ 10000000) {lm : List D64} (hlm : l ++ m = lm) (hB : B ≤ w.heap.size)
    (h : ∀ x' cap' w', OwnsW B w' x' cap' lm → Below B w w' → Turns (RowOf xa) w w' → K (a.put o.dst (.slice x' lm.length cap')) w') : o.wp Tryz.prog a w K Q := by
  subst hlm
  obtain ⟨i0, hi, hz0, hz1, hz2⟩ := info_parts infoWord
  cases y with
  | none =>
    obtain rfl := hyn rfl
    have hm : m = [] := by
      rcases hy with h | ⟨b, o, hx, _⟩
      · exact h
      · cases hx
    subst hm
    have hrun := run_append_owned_none (P := Tryz.prog) (w := w) B 25 o.type 23 i0 1 Tryz.underlying25 hi _ _ _ hown
    have hk := h xa cap w (by rw [List.append_nil]; exact hown) (Below.refl _ _) (Turns.refl _ _)
    rw [List.append_nil] at hk
    simp only [List.length_nil] at hx
    unfold Oper.wp
    simp [execOp, ho, resolve, invoke, builtin, hs, hx, hrun, Result.andThen]
    exact hk
  | some ad =>
    refine wp_append_own w s x 25 ho B 23 i0 (.int .u64 0) 1 8 Tryz.underlying25 hi hz0 hz1 hz2 rfl (by decide) _ _ _ hs hown ad m.length c (m.map encW) hx (by simp) (news_of_wts hy) (oneEncW m) (by unfold maxLen; omega) (by omega) hB (fun v' w' h1 h2 _ => ?_)
    obtain ⟨x', cap', rfl⟩ := owns_form h1
    have hlen : l.length + m.length = (l ++ m).length := by simp
    rw [hlen, ← List.map_append] at h1
    rw [hlen]
    refine h x' cap' w' h1 ((Below.refl _ _).grown h2 hB (fun k e => ?_)) (Turns.of_grownBy h2 (fun b e => ?_))
    · exact (OwnsW.low hown k (by unfold RowOf; cases xa <;> exact e)).1
    · unfold RowOf; cases xa <;> exact e
theorem wpList_appW {ops : Array Oper} {rest : List Oper} (hg : o.guard = none) (s x : Operand) (ho : o.op = .call { callee := .builtin .append, args := #[s, x], argTypes := #[25, 25] })
    {B : Nat} {xa : Option Addr} {cap : Nat} {l : List D64} (hown : OwnsW B w xa cap l) (hs : a.eval s = .slice xa l.length cap)
    {y : Option Addr} {m : List D64} {c : Nat} (hx : a.eval x = .slice y m.length c) (hy : Wts w y m) (hyn : y = none → c = 0) (hl : l.length + m.length ≤ 10000000) {lm : List D64} (hlm : l ++ m = lm) (hB : B ≤ w.heap.size)
    (h : ∀ x' cap' w', OwnsW B w' x' cap' lm → Below B w w' → Turns (RowOf xa) w w' → wpList Tryz.prog ops Q rest (a.put o.dst (.slice x' lm.length cap')) w') : wpList Tryz.prog ops Q (o :: rest) a w :=
  wpList_plain hg fun _ hK => wp_appW s x ho hown hs hx hy hyn hl hlm hB fun x' cap' w' h1 h2 h3 => hK _ _ (h x' cap' w' h1 h2 h3)
end
/-- A row just made whole. -/
theorem OwnsW.whole (B g : Nat) (w : World) (l : List D64) (C : Array Value) (hC : C = (l.map encW).toArray) (hB : B ≤ w.heap.size) (hg : w.heap.size = g) (hl : l.length ≤ 10000000) : OwnsW B (w.alloc (.cells C 23)) (some ⟨g, 0, none⟩) l.length l := by
  subst hg hC
  have hm : l.length ≤ maxLen := by unfold maxLen; omega
  exact ⟨by simp, .inr ⟨w.heap.size, l.length, (l.map encW).toArray, rfl, hB, heap_alloc_new w _, Nat.le_refl _, hm, by simp, by simp [List.take_of_length_le]⟩⟩
def zeroW (n : Nat) : Array Value := ((List.replicate n (0#64 : D64)).map encW).toArray
theorem made_zeroW (n : Nat) : madeCells (Value.cells (.int .u64 0)) n = zeroW n := by
  unfold zeroW
  apply Array.ext
  · rw [size_madeCells]; simp
  · intro i h1 h2
    simp [madeCells, Value.cells, encW, Nat.mod_one]
    rfl
/-- make([]byte, n) -/
theorem run_zerosW (n : Nat) (h : n ≤ 10000000) (w : World) : (Instr.makeSlice 25 (.int .i64 (n : Int)) (.int .i64 (n : Int))).run Tryz.prog w = .ok (.slice (some ⟨w.heap.size, 0, none⟩) n n) (w.alloc (.cells (zeroW n) 23)) := by
  obtain ⟨i0, hi, hz0, hz1, hz2⟩ := info_parts infoWord
  have := run_makeSlice (P := Tryz.prog) w 25 23 i0 (.int .u64 0) Tryz.underlying25 hi hz0 .i64 .i64 (n : Int) (n : Int) (by omega) (Int.le_refl _) (by rw [hz1]; simp; omega) (by rw [hz2]; omega) (by omega)
  rw [this, hz1]
  simp only [Int.toNat_natCast, Nat.mul_one, made_zeroW]
theorem OwnsW.zeros (B g n : Nat) (w : World) (hB : B ≤ w.heap.size) (hg : w.heap.size = g) (hl : n ≤ 10000000) : OwnsW B (w.alloc (.cells (zeroW n) 23)) (some ⟨g, 0, none⟩) n (List.replicate n 0#64) := by
  have := OwnsW.whole B g w (List.replicate n 0#64) (zeroW n) rfl hB hg (by simpa using hl)
  simpa using this
theorem OwnsW.later {B : Nat} {w w' : World} {x : Option Addr} {cap : Nat} {l : List D64} (h : OwnsW B w x cap l) (hb : Below w.heap.size w w') : OwnsW B w' x cap l :=
  h.turn (Turns.of_below hb (Nat.le_refl _)) (fun _ _ h => h)
theorem OwnsW.none_cap {B : Nat} {w : World} {x : Option Addr} {cap : Nat} {l : List D64} (h : OwnsW B w x cap l) : x = none → cap = 0 := by
  rintro rfl
  rcases h.2 with ⟨hv, _⟩ | ⟨g, cap', cur, hv, _⟩
  · simp only [Value.slice.injEq] at hv; exact hv.2.2
  · simp only [Value.slice.injEq] at hv; cases hv.1
end

section
open Go.RowKit

@[go_sem] theorem arrA_cells (v : Nat → Value) : (arrA v).cells = (arrL v).toArray := rfl
theorem run_indexW {W : World} (f : Nat → D64) (i : Nat) (hi : i < 18) : (Instr.index 24 (arrA (wrdV f)) (.int .i64 (i : Int))).run Tryz.prog W = .ok (.int .u64 (num (f i))) W := by
  obtain ⟨i0, h1, h2, h3, h4⟩ := info_parts infoWord
  have hu : Tryz.prog.underlying 23 = some (.int .u64) := by kernel_rfl
  have hd : (0 : Int) ≤ (i : Int) ∧ (i : Int) < 18 := by omega
  have hg := arrL_get (wrdV f) i hi
  simp [Instr.index, asIntOf, run_underlying arrW_underlying, arrA, hd, sizeOf, typeInfo, h1, h3, part, isAgg, run_underlying hu, hg, hi]
  rfl
theorem wpList_indexW {ops : Array Oper} {rest : List Oper} {o : Oper} {a : Act} {w : World} {Q : Exit → Act → World → Prop} (hg : o.guard = none) (p x : Operand) (ho : o.op = .index 24 p x) {f : Nat → D64} (hp : a.eval p = arrA (wrdV f)) (i : Nat) (hx : a.eval x = .int .i64 (i : Int)) (hi : i < 18)
    (h : wpList Tryz.prog ops Q rest (a.put o.dst (.int .u64 (num (f i)))) w) : wpList Tryz.prog ops Q (o :: rest) a w :=
  wpList_plain hg fun _ hK => by
    have hr := run_indexW (W := w) f i hi
    unfold Oper.wp
    simp [execOp, ho, hp, hx, hr, Result.andThen]
    exact hK _ _ h

def PuRel (f : Nat → D64) (sb : Nat) (w : World) (u8 : Value) (wr : World) : Prop :=
  ∃ i : Nat, i ≤ 18 ∧ u8 = .int .i64 (i : Int) ∧ Below w.heap.size w wr ∧ wr.cell? ⟨sb, 0, none⟩ = some (.int .u64 (num (Dig.addL Dig.start (Sgn.ends f i)))) ∧ wr.cell? ⟨sb, 1, none⟩ = some (.int .i64 ((8 * i : Nat) : Int)) ∧
    wr.frozen? ⟨sb, 0, none⟩ = false ∧ wr.frozen? ⟨sb, 1, none⟩ = false

set_option maxHeartbeats 1000000 in
theorem public_any (f : Nat → D64) (w : World) : Calls Tryz.prog 69 #[arrA (wrdV f)] w (NumOf (Sgn.pubE f) w) := by
  have HP : Hid (num (Dig.fin (Dig.addL Dig.start (Sgn.ends f 18)) 144) = num (Sgn.pubE f)) := by
    show _ = num (Dig.fin (Dig.addL Dig.start (Sgn.ends f 18)) ((Sgn.ends f 18).length : Int))
    rw [Sgn.ends_length]; rfl
  have hB := Below.refl w.heap.size w
  show Calls Tryz.prog 69 #[.agg (arrL (wrdV f)).toArray] w _
  go_enter Tryz.func69, Tryz.ntmps69
  go_wp2_with fail
  refine (new_any _).mono ?_
  rintro e w1 ⟨rfl, hb⟩
  have hA := (arr_new w (wrdV f) (arrL (wrdV f)).toArray 24 rfl).later hb
  replace hB := thru (al hB _) hb
  have hl1' := run_loadA (P := Tryz.prog) ((hA.later (al (Below.refl _ w1) (.cells #[.int .u64 (num Dig.start), .int .i64 0] 116)))) arrW_underlying arrW_size
  go_wp2_with (refine wpList_loadA rfl _ _ rfl (b := w.heap.size) rfl hl1' ?_)
  have hle := hB.size
  replace hB := al hB (.cells #[.int .u64 (num Dig.start), .int .i64 0] 116)
  have k0 : (w1.alloc (.cells #[.int .u64 (num Dig.start), .int .i64 0] 116)).cell? ⟨w1.heap.size, 0, none⟩ = some (.int .u64 (num Dig.start)) := by go_simp
  have k1 : (w1.alloc (.cells #[.int .u64 (num Dig.start), .int .i64 0] 116)).cell? ⟨w1.heap.size, 1, none⟩ = some (.int .i64 0) := by go_simp
  have z0 : (w1.alloc (.cells #[.int .u64 (num Dig.start), .int .i64 0] 116)).frozen? ⟨w1.heap.size, 0, none⟩ = false := by go_simp
  have z1 : (w1.alloc (.cells #[.int .u64 (num Dig.start), .int .i64 0] 116)).frozen? ⟨w1.heap.size, 1, none⟩ = false := by go_simp
  obtain ⟨sb, hsb⟩ : ∃ b, w1.heap.size = b := ⟨_, rfl⟩
  rw [hsb] at k0 k1 z0 z1 hle ⊢
  clear hsb hl1' hA hb
  go_loopw [8] (fun u8 wr => PuRel f sb w u8 wr) (fun u8 _ => 18 - (intOf u8).toNat)
  case atStart => exact ⟨0, by omega, rfl, hB, k0, k1, z0, z1⟩
  case round =>
    clear hB k0 k1 z0 z1
    obtain ⟨i, hi, rfl, hB, c0, c1, f0, f1⟩ := hrel
    by_cases hlt : i < 18
    · have hki : decide ((i : Int) < 18) = true := by simp; omega
      obtain ⟨x, hx⟩ : ∃ x, Dig.addL Dig.start (Sgn.ends f i) = x := ⟨_, rfl⟩
      obtain ⟨lx, hlx⟩ : ∃ l, Dig.bytes (f i) = l := ⟨_, rfl⟩
      have nx : lx.length = 8 := by rw [← hlx]; exact Dig.bytes_length _
      have HX : Hid (Dig.addL Dig.start (Sgn.ends f (i + 1)) = Dig.addL x lx) := by
        show Dig.addL Dig.start (Sgn.ends f i ++ Dig.bytes (f i)) = _
        rw [Dig.addL_append, hx, hlx]
      have cx := bytes_any (f i)
      rw [hlx] at cx
      rw [hx] at c0
      obtain ⟨n8, hn8⟩ : ∃ n, 8 * i = n := ⟨_, rfl⟩
      rw [hn8] at c1
      have HN := Lib.hid hn8
      have HL := Lib.hid nx
      have HW := Lib.hid (show wrap64 ((n8 : Int) + (lx.length : Int)) = ((8 * (i + 1) : Nat) : Int) by rw [IntWalk.wrap64_in _ (by omega)]; omega)
      have hlx9 : (lx.length : Int) ≤ 9223372036854775807 := by omega
      have hn9 : -9223372036854775808 ≤ (n8 : Int) ∧ (n8 : Int) ≤ 9223372036854775807 := by omega
      have HN9 := Lib.hid hn9
      have HL9 := Lib.hid hlx9
      have hsb := World.block_lt_of_cell? _ _ c0
      clear hx hlx nx hn8 hn9 hlx9
      go_wp2_with (refine wpList_indexW rfl _ _ rfl rfl i rfl hlt ?_)
      go_region_with (first | (go_at_call 64; refine (cx _).mono ?_; rintro e w2 ⟨b2, rfl, y2, hb2⟩; have d0 := later hb2 (a := ⟨sb, 0, none⟩) (v := .int .u64 (num x)) (by go_simp); have d1 := later hb2 (a := ⟨sb, 1, none⟩) (v := .int .i64 (n8 : Int)) (by go_simp); have q0 := (Below.frozen hb2 (p := ⟨sb, 0, none⟩) (by simp <;> omega)).trans (show _ = false by go_simp); have q1 := (Below.frozen hb2 (p := ⟨sb, 1, none⟩) (by simp <;> omega)).trans (show _ = false by go_simp)) | (go_at_call 61; refine (add_any x (n8 : Int) _ lx _ _ HN9.out HL9.out y2).mono ?_; rintro e w3 ⟨rfl, hb3⟩; have e0 := later hb3 d0; have e1 := later hb3 d1; have p0 := (Below.frozen hb3 (World.block_lt_of_cell? _ _ d0)).trans q0; have p1 := (Below.frozen hb3 (World.block_lt_of_cell? _ _ d1)).trans q1))
      all_goals (
        have hB3 := thru (thru hB.drew hb2) hb3
        rw [HW.out, ← HX.out]
        go_wp2_with fail
        refine ⟨⟨i + 1, by omega, by go_num, (hB3.setCell (p := ⟨sb, 0, none⟩) hle _).setCell (p := ⟨sb, 1, none⟩) hle _, by go_simp, by go_simp, by go_simp, by go_simp⟩, by simp [intOf]; omega⟩)
    · obtain rfl : i = 18 := by omega
      obtain ⟨x, hx⟩ : ∃ x, Dig.addL Dig.start (Sgn.ends f 18) = x := ⟨_, rfl⟩
      rw [hx] at c0 HP
      have c2 : wr.cell? ⟨sb, 1, none⟩ = some (.int .i64 144) := c1
      clear hx c1
      go_wp2_with fail
      refine (fin_any x 144 _).mono ?_
      rintro e w4 ⟨rfl, hb4⟩
      rw [HP.out]
      go_wp2_with fail
      go_ret
      exact ⟨rfl, thru hB hb4⟩

theorem Public_any (seed : D64) (q : Int) (w : World) : Calls Tryz.prog 84 #[.int .u64 (num seed), .int .i64 q] w (NumOf (Sgn.pub seed (u8z q) (u8z (q / 256))) w) := by
  have HE : Hid (Sgn.pubE (fun i => Sgn.val seed (u8z q) (u8z (q / 256)) i 15) = Sgn.pub seed (u8z q) (u8z (q / 256))) := rfl
  have hmf : ∀ (fn : Fn) (first cap : Array Value) (w : World), (Instr.makeFunc fn first cap).run Tryz.prog w = .ok (.func fn first cap) w := fun _ _ _ _ => rfl
  go_enter Tryz.func84, Tryz.ntmps84
  go_wp2_with fail
  have k0 : ((w.alloc (.cells #[.int .u64 (num seed)] 23)).alloc (.cells #[.int .i64 q] 3)).cell? ⟨w.heap.size, 0, none⟩ = some (.int .u64 (num seed)) := by go_simp
  have k1 : ((w.alloc (.cells #[.int .u64 (num seed)] 23)).alloc (.cells #[.int .i64 q] 3)).cell? ⟨w.heap.size + 1, 0, none⟩ = some (.int .i64 q) := by go_simp
  refine (values_any 105 #[.pointer (some ⟨w.heap.size, 0, none⟩), .pointer (some ⟨w.heap.size + 1, 0, none⟩)] (fun i => Sgn.val seed (u8z q) (u8z (q / 256)) i 15) _ (enters_of Tryz.func105 (by kernel_rfl) rfl) (fun i W hi hb => public1_any seed q _ _ i W hi (later hb k0) (later hb k1))).mono ?_
  rintro e w1 ⟨rfl, hb⟩
  clear k0 k1
  go_wp2_with fail
  refine (public_any _ _).mono ?_
  rintro e w2 ⟨rfl, hb2⟩
  rw [HE.out]
  go_wp2_with fail
  go_ret
  exact ⟨rfl, thru (thru (al (al (Below.refl _ w) _) _) hb) hb2⟩
end

section
open Go.RowKit

theorem Turns.putObj {T : Nat → Prop} {a b : World} (h : Turns T a b) {l : Nat} (hp : l < a.heap.size → T l) (o : Obj) : Turns T a (b.putObj l o) :=
  Turns.trans' h (T' := fun i => i = l) ⟨rfl, rfl, rfl, by simp, fun k _ hk => World.putObj_heap_other hk⟩ (fun i hi e => by cases e; exact hp hi)

section
variable {P : Program}

/-- The iterator g (with captured values lb), called in a world that has grown out of w: it hands out x 0, x 1 .. x (len - 1), and turns only the boxes T of what lies; J: what holds when k rounds are over, the body owning the blocks S; Jx: after a round that has said 'no more'. -/
def Yields {α : Type} (n : Nat) (P : Program) (g : Nat) (lb : Array Value) (encs : α → Array Value) (len : Nat) (x : Nat → α) (stops : Prop) (T : Nat → Prop) (w : World) : Prop :=
  ∀ (l : Nat) (J Jx : Nat → List Nat → World → Prop) (S0 : List Nat) (W : World), Turns (fun _ => False) w W → w.heap.size ≤ l → l < W.heap.size →
    (∀ k S A B, J k S A → Turns T A B → J k S B) → (∀ k S A B, Jx k S A → Turns T A B → Jx k S B) →
    (∀ k S A, J k S A → ∀ b, b ∈ S → b < A.heap.size ∧ ¬ T b) →
    (stops ∨ ∀ S A, J len S A → False) →
    (∀ k S W1, k < len → J k S W1 → YieldAt Fence.wide (n - 1) P l (encs (x k)) W1 fun e W' =>
      ∃ S', (∀ b, b ∈ S' → b ∈ S ∨ W1.heap.size ≤ b) ∧ Turns (fun b => b ∈ S ∨ b = l) W1 W' ∧
        ((e = .returned (.bool true) ∧ J (k + 1) S' W') ∨ (e = .returned (.bool false) ∧ Jx (k + 1) S' W'))) →
    J 0 S0 W →
    CallsIn Fence.wide n P g (#[.func (.yield l) #[] #[]] ++ lb) W fun e W' => (∃ v, e = .returned v) ∧ ((∃ S, J len S W') ∨ (∃ k S, k < len ∧ Jx (k + 1) S W'))

theorem Yields.of {α β : Type} {n : Nat} {g : Nat} {lb : Array Value} {encs : α → Array Value} {encs' : β → Array Value} {len : Nat} {x : Nat → α} {x' : Nat → β} {stops : Prop} {T : Nat → Prop} {w : World}
    (h : Yields n P g lb encs len x stops T w) (he : ∀ k, k < len → encs' (x' k) = encs (x k)) : Yields n P g lb encs' len x' stops T w :=
  fun l J Jx S0 W a b c d e f g' hY h0 => h l J Jx S0 W a b c d e f g' (fun k S W1 hk hj => by rw [← he k hk]; exact hY k S W1 hk hj) h0

/-- How the body of a round may be left. -/
def roundEnd (S : List Nat) (I : Nat → List Nat → World → Prop) (Ix : Code → Nat → List Nat → World → Prop) (k : Nat) (W : World) : Exit → Act → World → Prop
  | .normal, _, W' => ∃ S', (∀ b, b ∈ S' → b < W'.heap.size ∧ (b ∈ S ∨ W.heap.size ≤ b)) ∧ Turns (fun b => b ∈ S) W W' ∧ I (k + 1) S' W'
  | .ret, _, W' => ∃ S', (∀ b, b ∈ S' → b < W'.heap.size ∧ (b ∈ S ∨ W.heap.size ≤ b)) ∧ Turns (fun b => b ∈ S) W W' ∧ Ix .ret (k + 1) S' W'
  | .exit id, _, W' => ∃ S', (∀ b, b ∈ S' → b < W'.heap.size ∧ (b ∈ S ∨ W.heap.size ≤ b)) ∧ Turns (fun b => b ∈ S) W W' ∧ Ix (.exit id) (k + 1) S' W'
  | .goto t, _, W' => ∃ S', (∀ b, b ∈ S' → b < W'.heap.size ∧ (b ∈ S ∨ W.heap.size ≤ b)) ∧ Turns (fun b => b ∈ S) W W' ∧ Ix (.goto t) (k + 1) S' W'
  | .panic _, _, _ => False
  | .outgrown, _, _ => False

/-- A function that ranged over a function returns: its one mark is taken up. -/
theorem ret_mark {n : Nat} {fn : Func} {R : Ending → World → Prop} {tmps : Array Value} {D : Nat} {W : World} (v : Value) (hK : W.heap[D]? = some (.deferred (some [])))
    (h : ∀ W', Turns (fun b => b = D) W W' → (results fn tmps).run P W' = .ok v W' ∧ R (.returned v) W') :
    bodyPostM Fence.wide n P fn R .ret { tmps := tmps, defers := [{ target := .collected D, args := #[] }] } W :=
  have ht := h (W.putObj D (.deferred none)) ((Turns.refl (fun b => b = D) W).putObj (fun _ => rfl) _)
  ⟨by simp, .inl ⟨_, _, rfl, run_takeDeferred hK, v, ht.1, ht.2⟩⟩
theorem ret_plain {n : Nat} {fn : Func} {R : Ending → World → Prop} {tmps : Array Value} {W : World} (v : Value) (h : (results fn tmps).run P W = .ok v W) (hR : R (.returned v) W) :
    bodyPostM Fence.wide n P fn R .ret { tmps := tmps, defers := [] } W := ⟨v, h, hR⟩

/-- THE STATEMENT 'for .. := range g { .. }'. -/
theorem wpIn_range {α : Type} {n : Nat} {g : Operand} {ps : Array Tmp} {assign body : Code} {Q : Exit → Act → World → Prop} {a : Act} {w : World}
    {gf : Nat} {lb : Array Value} (hg : a.eval g = .func (.func gf) #[] lb) (eg : ∀ args w, (callFunc gf args).run P w = .ok (.enter gf args) w)
    {encs : α → Array Value} {len : Nat} {x : Nat → α} {stops : Prop} {T : Nat → Prop} (hT : ∀ b, T b → b < w.heap.size)
    (hseq : Yields (n - 1) P gf lb encs len x stops T w) (hps : ∀ x, (encs x).size = ps.size)
    (I : Nat → List Nat → World → Prop) (Ix : Code → Nat → List Nat → World → Prop) (S0 : List Nat) (hS0 : ∀ b, b ∈ S0 → b < w.heap.size ∧ ¬ T b)
    (hI : ∀ k S A B, I k S A → Turns (fun b => T b ∨ b = w.heap.size ∨ b = w.heap.size + 1) A B → I k S B)
    (hIx : ∀ c k S A B, Ix c k S A → Turns (fun b => T b ∨ b = w.heap.size ∨ b = w.heap.size + 1) A B → Ix c k S B)
    (hend : stops ∨ ∀ S A, I len S A → False)
    (h0 : I 0 S0 w) (a₁ : α → Act)
    (hassign : ∀ (x : α) (W : World) (K : Act → World → Prop), K (a₁ x) W →
      assign.wpIn (Fence.wide.inRound (w.heap.size + 1)) (n - 1 - 1) P (Exit.then K (fun _ _ _ => False)) { tmps := (ps.zip (encs x)).foldl (fun t (p, v) => t.setIfInBounds p v) a.tmps, defers := [] } W)
    (hbody : ∀ (k : Nat) (S : List Nat) (W : World), k < len → w.heap.size + 1 < W.heap.size → I k S W → (∀ b, b ∈ S → b < W.heap.size) → body.wpIn (Fence.wide.inRound (w.heap.size + 1)) (n - 1 - 1) P (roundEnd S I Ix k W) (a₁ (x k)) W)
    (hdone : ∀ (S : List Nat) (W : World), w.heap.size < W.heap.size → I len S W → W.heap[w.heap.size]? = some (.deferred (some [])) → Q .normal { a with defers := { target := .collected w.heap.size, args := #[] } :: a.defers } W)
    (hstop : ∀ (c : Code) (k : Nat) (S : List Nat) (W : World), k < len → w.heap.size < W.heap.size → Ix c (k + 1) S W → W.heap[w.heap.size]? = some (.deferred (some [])) → c.wpIn Fence.wide n P Q { a with defers := { target := .collected w.heap.size, args := #[] } :: a.defers } W) :
    (Code.rangeFunc g ps assign body).wpIn Fence.wide n P Q a w := by
  refine wpIn_rangeFunc ?_
  intro fn hfn
  obtain ⟨rec, hrec⟩ : ∃ rec : LoopState → Option Code → Loop, rec = fun st pe => { state := st, pending := pe, fn, tmps := a.tmps, params := ps, assign, body, defers := w.heap.size } := ⟨_, rfl⟩
  obtain ⟨W1, hW1⟩ : ∃ W1, (w.alloc (.deferred (some []))).alloc (.loop (rec .ready none)) = W1 := ⟨_, rfl⟩
  have hL1 : W1.heap[w.heap.size + 1]? = some (.loop (rec .ready none)) := by
    rw [← hW1]; have := World.alloc_heap_new (w.alloc (.deferred (some []))) (.loop (rec .ready none)); rwa [World.size_alloc] at this
  have hK1 : W1.heap[w.heap.size]? = some (.deferred (some [])) := by
    rw [← hW1]; exact (Below.heap_alloc _ _ _ (by simp)).trans (World.alloc_heap_new w _)
  have hw1 : ∀ T, Turns T w W1 := fun T => by rw [← hW1]; exact ((Turns.refl T w).alloc _).alloc _
  have hI1 : I 0 S0 W1 := hI _ _ _ _ h0 (hw1 _)
  have hz1 : w.heap.size + 1 < W1.heap.size := by rw [← hW1]; simp
  refine ⟨w.heap.size + 1, [{ target := .collected w.heap.size, args := #[] }], W1, { target := .fn (.func gf) lb, args := #[.func (.yield (w.heap.size + 1)) #[] #[]] }, W1, gf,
    #[.func (.yield (w.heap.size + 1)) #[] #[]] ++ lb, W1, ?_, ?_, ?_, ?_, fun h => by simp [Fence.wide] at h, ?_⟩
  · rw [← hW1, hrec]; exact run_enterLoop_outer _ _ _ _ _
  · simp only [resolve, hg]
    simp [go_sem]
  · intro f' _; trivial
  · simp [invoke, go_sem, eg]
  · have hD : ¬ T w.heap.size := fun e => Nat.lt_irrefl _ (hT _ e)
    have hl : ¬ T (w.heap.size + 1) := fun e => by have := hT _ e; omega
    refine (hseq (w.heap.size + 1)
      (fun k S W => I k S W ∧ (∀ b, b ∈ S → b < W.heap.size ∧ ¬ T b ∧ b ≠ w.heap.size ∧ b ≠ w.heap.size + 1) ∧ W.heap[w.heap.size + 1]? = some (.loop (rec .ready none)) ∧ W.heap[w.heap.size]? = some (.deferred (some [])))
      (fun k S W => ∃ c, Ix c k S W ∧ W.heap[w.heap.size + 1]? = some (.loop (rec .done (some c))) ∧ W.heap[w.heap.size]? = some (.deferred (some [])))
      S0 W1 (hw1 _) (by omega) hz1 ?_ ?_ (fun k S A h b hb => ⟨(h.2.1 b hb).1, (h.2.1 b hb).2.1⟩) (hend.imp id (fun h S A hh => h S A hh.1)) ?_ ⟨hI1, fun b hb => ?_, hL1, hK1⟩).mono ?_
    · rintro k S A B ⟨h1, h2, h3, h4⟩ ht
      exact ⟨hI _ _ _ _ h1 (ht.mono fun i _ h => .inl h), fun b hb => ⟨Nat.lt_of_lt_of_le (h2 b hb).1 ht.size, (h2 b hb).2⟩, ht.obj hl h3, ht.obj hD h4⟩
    · rintro k S A B ⟨c, h1, h3, h4⟩ ht
      exact ⟨c, hIx _ _ _ _ _ h1 (ht.mono fun i _ h => .inl h), ht.obj hl h3, ht.obj hD h4⟩
    · -- one round
      rintro k S W hk ⟨hi, hS, hl1, hk1⟩
      have hlt : w.heap.size + 1 < W.heap.size := (Array.getElem?_eq_some_iff.1 hl1).1
      have hy := run_yield (P := P) (args := encs (x k)) hl1 (by rw [hrec]; exact hps _)
      rw [hrec] at hy
      refine ⟨fn, _, assign, body, hy, roundIn_of_wpIn hfn (hassign _ W _ ⟨_, run_beginRound hl1 (by rw [hrec]), ?_⟩)⟩
      obtain ⟨Wb, hWb⟩ : ∃ Wb, W.putObj (w.heap.size + 1) (.loop { rec .ready none with state := .busy }) = Wb := ⟨_, rfl⟩
      have hl2 : Wb.heap[w.heap.size + 1]? = some (.loop { rec .ready none with state := .busy }) := by rw [← hWb]; exact World.putObj_heap_same hlt
      have hk2 : Wb.heap[w.heap.size]? = some (.deferred (some [])) := by rw [← hWb]; exact (World.putObj_heap_other (by omega)).trans hk1
      have hzb : Wb.heap.size = W.heap.size := by rw [← hWb]; simp
      have hwb : ∀ T : Nat → Prop, T (w.heap.size + 1) → Turns T W Wb := fun T ht => by rw [← hWb]; exact (Turns.refl _ _).putObj (fun _ => ht) _
      rw [hWb]
      refine wpIn_mono (hbody k S Wb hk (by omega) (hI _ _ _ _ hi (hwb _ (.inr (.inr rfl)))) (fun b hb => by rw [hzb]; exact (hS b hb).1)) ?_
      have fin : ∀ (jump : Option Code) (S' : List Nat) (W3 : World), (∀ b, b ∈ S' → b < W3.heap.size ∧ (b ∈ S ∨ Wb.heap.size ≤ b)) → Turns (fun b => b ∈ S) Wb W3 →
          (Instr.endRound (w.heap.size + 1) jump).run P W3 = .ok (.bool jump.isNone) (W3.putObj (w.heap.size + 1) (.loop (rec (if jump.isNone then .ready else .done) jump))) ∧
          (W3.putObj (w.heap.size + 1) (.loop (rec (if jump.isNone then .ready else .done) jump))).heap[w.heap.size + 1]? = some (.loop (rec (if jump.isNone then .ready else .done) jump)) ∧
          (W3.putObj (w.heap.size + 1) (.loop (rec (if jump.isNone then .ready else .done) jump))).heap[w.heap.size]? = some (.deferred (some [])) ∧
          Turns (fun b => b ∈ S ∨ b = w.heap.size + 1) W (W3.putObj (w.heap.size + 1) (.loop (rec (if jump.isNone then .ready else .done) jump))) ∧
          (∀ b, b ∈ S' → b ∈ S ∨ W.heap.size ≤ b) ∧ (∀ b, b ∈ S' → b < W3.heap.size ∧ ¬ T b ∧ b ≠ w.heap.size ∧ b ≠ w.heap.size + 1) ∧
          Turns (fun b => T b ∨ b = w.heap.size ∨ b = w.heap.size + 1) W3 (W3.putObj (w.heap.size + 1) (.loop (rec (if jump.isNone then .ready else .done) jump))) := fun jump S' W3 hS' ht3 => by
        have hl3 := ht3.obj (fun e => (hS _ e).2.2.2 rfl) hl2
        have := run_endRound (P := P) jump hl3
        rw [hrec] at this ⊢
        refine ⟨this, World.putObj_heap_same (Array.getElem?_eq_some_iff.1 hl3).1, (World.putObj_heap_other (by omega)).trans (ht3.obj (fun e => (hS _ e).2.2.1 rfl) hk2), ?_, fun b hb => ?_, fun b hb => ?_, (Turns.refl _ _).putObj (fun _ => .inr (.inr rfl)) _⟩
        · exact ((hwb _ (.inr rfl)).trans (ht3.mono fun i _ h => .inl h)).putObj (fun _ => .inr rfl) _
        · rw [← hzb]; exact (hS' b hb).2
        · refine ⟨(hS' b hb).1, ?_⟩
          rcases (hS' b hb).2 with h | h
          · exact (hS b h).2
          · exact ⟨fun e => by have := hT _ e; omega, by omega, by omega⟩
      rintro e a3 W3 hp
      cases e with
      | normal =>
        obtain ⟨S', hS', ht3, hi3⟩ := hp
        obtain ⟨hr, hl4, hk4, ht4, hs4, hs5, ht5⟩ := fin none S' W3 hS' ht3
        exact ⟨_, _, hr, S', hs4, ht4, .inl ⟨rfl, hI _ _ _ _ hi3 ht5, fun b hb => by simpa using hs5 b hb, hl4, hk4⟩⟩
      | ret =>
        obtain ⟨S', hS', ht3, hi3⟩ := hp
        obtain ⟨hr, hl4, hk4, ht4, hs4, hs5, ht5⟩ := fin (some .ret) S' W3 hS' ht3
        exact ⟨_, _, hr, S', hs4, ht4, .inr ⟨rfl, .ret, hIx _ _ _ _ _ hi3 ht5, hl4, hk4⟩⟩
      | exit id =>
        obtain ⟨S', hS', ht3, hi3⟩ := hp
        obtain ⟨hr, hl4, hk4, ht4, hs4, hs5, ht5⟩ := fin (some (.exit id)) S' W3 hS' ht3
        exact ⟨_, _, hr, S', hs4, ht4, .inr ⟨rfl, .exit id, hIx _ _ _ _ _ hi3 ht5, hl4, hk4⟩⟩
      | goto t =>
        obtain ⟨S', hS', ht3, hi3⟩ := hp
        obtain ⟨hr, hl4, hk4, ht4, hs4, hs5, ht5⟩ := fin (some (.goto t)) S' W3 hS' ht3
        exact ⟨_, _, hr, S', hs4, ht4, .inr ⟨rfl, .goto t, hIx _ _ _ _ _ hi3 ht5, hl4, hk4⟩⟩
      | panic ch => exact hp.elim
      | outgrown => exact hp.elim
    · have := hS0 b hb
      exact ⟨by omega, this.2, by omega, by omega⟩
    · -- behind the iterator
      rintro e W2 ⟨⟨v, rfl⟩, (⟨S, hi, _, hl, hk⟩ | ⟨k, S, hkl, c, hi, hl, hk⟩)⟩
      · have hz := (Array.getElem?_eq_some_iff.1 hk).1
        exact ⟨none, _, by have := run_endLoop (P := P) hl (by rw [hrec]; simp); rw [hrec] at this; exact this, hdone S _ (by simpa using hz) (hI _ _ _ _ hi ((Turns.refl _ _).putObj (fun _ => .inr (.inr rfl)) _)) ((World.putObj_heap_other (by omega)).trans hk)⟩
      · have hz := (Array.getElem?_eq_some_iff.1 hk).1
        exact ⟨some c, _, by have := run_endLoop (P := P) hl (by rw [hrec]; simp); rw [hrec] at this; exact this, hstop c k S _ hkl (by simpa using hz) (hIx _ _ _ _ _ hi ((Turns.refl _ _).putObj (fun _ => .inr (.inr rfl)) _)) ((World.putObj_heap_other (by omega)).trans hk)⟩

end
end

section
open Go.RowKit

section
variable {P : Program}

/-- The iterator g (with captured values lb), called in a world that has grown out of w: it hands out at most len values, the k-th one with V k, and turns only the boxes T of what lies; J: what holds when k rounds are over, the body owning the blocks S; Jx: after a round that has said 'no more'. -/
def YieldsV {α : Type} (n : Nat) (P : Program) (g : Nat) (lb : Array Value) (encs : α → Array Value) (len : Nat) (V : Nat → α → World → Prop) (stops : Prop) (T : Nat → Prop) (w : World) : Prop :=
  ∀ (l : Nat) (J Jx : Nat → List Nat → World → Prop) (S0 : List Nat) (W : World), Turns (fun _ => False) w W → w.heap.size ≤ l → l < W.heap.size →
    (∀ k S A B, J k S A → Turns T A B → J k S B) → (∀ k S A B, Jx k S A → Turns T A B → Jx k S B) →
    (∀ k S A, J k S A → ∀ b, b ∈ S → b < A.heap.size ∧ ¬ T b) →
    (stops ∨ ∀ S A, J len S A → False) →
    (∀ k S v W1, k < len → V k v W1 → J k S W1 → YieldAt Fence.wide (n - 1) P l (encs v) W1 fun e W' =>
      ∃ S', (∀ b, b ∈ S' → b ∈ S ∨ W1.heap.size ≤ b) ∧ Turns (fun b => b ∈ S ∨ b = l) W1 W' ∧
        ((e = .returned (.bool true) ∧ J (k + 1) S' W') ∨ (e = .returned (.bool false) ∧ Jx (k + 1) S' W'))) →
    J 0 S0 W →
    CallsIn Fence.wide n P g (#[.func (.yield l) #[] #[]] ++ lb) W fun e W' => (∃ v, e = .returned v) ∧ ((∃ S, J len S W') ∨ (∃ k S, k < len ∧ Jx (k + 1) S W'))

/-- THE STATEMENT 'for .. := range g { .. }'. -/
theorem wpIn_rangeV {α : Type} {n : Nat} {g : Operand} {ps : Array Tmp} {assign body : Code} {Q : Exit → Act → World → Prop} {a : Act} {w : World}
    {gf : Nat} {lb : Array Value} (hg : a.eval g = .func (.func gf) #[] lb) (eg : ∀ args w, (callFunc gf args).run P w = .ok (.enter gf args) w)
    {encs : α → Array Value} {len : Nat} {V : Nat → α → World → Prop} {stops : Prop} {T : Nat → Prop} (hT : ∀ b, T b → b < w.heap.size)
    (hseq : YieldsV (n - 1) P gf lb encs len V stops T w)
    (hV : ∀ k v A B, V k v A → (∃ r, A.heap[w.heap.size + 1]? = some (.loop r)) → Turns (fun b => b = w.heap.size + 1) A B → V k v B) (hps : ∀ x, (encs x).size = ps.size)
    (I : Nat → List Nat → World → Prop) (Ix : Code → Nat → List Nat → World → Prop) (S0 : List Nat) (hS0 : ∀ b, b ∈ S0 → b < w.heap.size ∧ ¬ T b)
    (hI : ∀ k S A B, I k S A → Turns (fun b => T b ∨ b = w.heap.size ∨ b = w.heap.size + 1) A B → I k S B)
    (hIx : ∀ c k S A B, Ix c k S A → Turns (fun b => T b ∨ b = w.heap.size ∨ b = w.heap.size + 1) A B → Ix c k S B)
    (hend : stops ∨ ∀ S A, I len S A → False)
    (h0 : I 0 S0 w) (a₁ : α → Act)
    (hassign : ∀ (x : α) (W : World) (K : Act → World → Prop), K (a₁ x) W →
      assign.wpIn (Fence.wide.inRound (w.heap.size + 1)) (n - 1 - 1) P (Exit.then K (fun _ _ _ => False)) { tmps := (ps.zip (encs x)).foldl (fun t (p, v) => t.setIfInBounds p v) a.tmps, defers := [] } W)
    (hbody : ∀ (k : Nat) (S : List Nat) (v : α) (W : World), k < len → w.heap.size + 1 < W.heap.size → V k v W → I k S W → (∀ b, b ∈ S → b < W.heap.size) → body.wpIn (Fence.wide.inRound (w.heap.size + 1)) (n - 1 - 1) P (roundEnd S I Ix k W) (a₁ v) W)
    (hdone : ∀ (S : List Nat) (W : World), w.heap.size < W.heap.size → I len S W → W.heap[w.heap.size]? = some (.deferred (some [])) → Q .normal { a with defers := { target := .collected w.heap.size, args := #[] } :: a.defers } W)
    (hstop : ∀ (c : Code) (k : Nat) (S : List Nat) (W : World), k < len → w.heap.size < W.heap.size → Ix c (k + 1) S W → W.heap[w.heap.size]? = some (.deferred (some [])) → c.wpIn Fence.wide n P Q { a with defers := { target := .collected w.heap.size, args := #[] } :: a.defers } W) :
    (Code.rangeFunc g ps assign body).wpIn Fence.wide n P Q a w := by
  refine wpIn_rangeFunc ?_
  intro fn hfn
  obtain ⟨rec, hrec⟩ : ∃ rec : LoopState → Option Code → Loop, rec = fun st pe => { state := st, pending := pe, fn, tmps := a.tmps, params := ps, assign, body, defers := w.heap.size } := ⟨_, rfl⟩
  obtain ⟨W1, hW1⟩ : ∃ W1, (w.alloc (.deferred (some []))).alloc (.loop (rec .ready none)) = W1 := ⟨_, rfl⟩
  have hL1 : W1.heap[w.heap.size + 1]? = some (.loop (rec .ready none)) := by
    rw [← hW1]; have := World.alloc_heap_new (w.alloc (.deferred (some []))) (.loop (rec .ready none)); rwa [World.size_alloc] at this
  have hK1 : W1.heap[w.heap.size]? = some (.deferred (some [])) := by
    rw [← hW1]; exact (Below.heap_alloc _ _ _ (by simp)).trans (World.alloc_heap_new w _)
  have hw1 : ∀ T, Turns T w W1 := fun T => by rw [← hW1]; exact ((Turns.refl T w).alloc _).alloc _
  have hI1 : I 0 S0 W1 := hI _ _ _ _ h0 (hw1 _)
  have hz1 : w.heap.size + 1 < W1.heap.size := by rw [← hW1]; simp
  refine ⟨w.heap.size + 1, [{ target := .collected w.heap.size, args := #[] }], W1, { target := .fn (.func gf) lb, args := #[.func (.yield (w.heap.size + 1)) #[] #[]] }, W1, gf,
    #[.func (.yield (w.heap.size + 1)) #[] #[]] ++ lb, W1, ?_, ?_, ?_, ?_, fun h => by simp [Fence.wide] at h, ?_⟩
  · rw [← hW1, hrec]; exact run_enterLoop_outer _ _ _ _ _
  · simp only [resolve, hg]
    simp [go_sem]
  · intro f' _; trivial
  · simp [invoke, go_sem, eg]
  · have hD : ¬ T w.heap.size := fun e => Nat.lt_irrefl _ (hT _ e)
    have hl : ¬ T (w.heap.size + 1) := fun e => by have := hT _ e; omega
    refine (hseq (w.heap.size + 1)
      (fun k S W => I k S W ∧ (∀ b, b ∈ S → b < W.heap.size ∧ ¬ T b ∧ b ≠ w.heap.size ∧ b ≠ w.heap.size + 1) ∧ W.heap[w.heap.size + 1]? = some (.loop (rec .ready none)) ∧ W.heap[w.heap.size]? = some (.deferred (some [])))
      (fun k S W => ∃ c, Ix c k S W ∧ W.heap[w.heap.size + 1]? = some (.loop (rec .done (some c))) ∧ W.heap[w.heap.size]? = some (.deferred (some [])))
      S0 W1 (hw1 _) (by omega) hz1 ?_ ?_ (fun k S A h b hb => ⟨(h.2.1 b hb).1, (h.2.1 b hb).2.1⟩) (hend.imp id (fun h S A hh => h S A hh.1)) ?_ ⟨hI1, fun b hb => ?_, hL1, hK1⟩).mono ?_
    · rintro k S A B ⟨h1, h2, h3, h4⟩ ht
      exact ⟨hI _ _ _ _ h1 (ht.mono fun i _ h => .inl h), fun b hb => ⟨Nat.lt_of_lt_of_le (h2 b hb).1 ht.size, (h2 b hb).2⟩, ht.obj hl h3, ht.obj hD h4⟩
    · rintro k S A B ⟨c, h1, h3, h4⟩ ht
      exact ⟨c, hIx _ _ _ _ _ h1 (ht.mono fun i _ h => .inl h), ht.obj hl h3, ht.obj hD h4⟩
    · -- one round
      rintro k S v W hk hv ⟨hi, hS, hl1, hk1⟩
      have hlt : w.heap.size + 1 < W.heap.size := (Array.getElem?_eq_some_iff.1 hl1).1
      have hy := run_yield (P := P) (args := encs v) hl1 (by rw [hrec]; exact hps _)
      rw [hrec] at hy
      refine ⟨fn, _, assign, body, hy, roundIn_of_wpIn hfn (hassign _ W _ ⟨_, run_beginRound hl1 (by rw [hrec]), ?_⟩)⟩
      obtain ⟨Wb, hWb⟩ : ∃ Wb, W.putObj (w.heap.size + 1) (.loop { rec .ready none with state := .busy }) = Wb := ⟨_, rfl⟩
      have hl2 : Wb.heap[w.heap.size + 1]? = some (.loop { rec .ready none with state := .busy }) := by rw [← hWb]; exact World.putObj_heap_same hlt
      have hk2 : Wb.heap[w.heap.size]? = some (.deferred (some [])) := by rw [← hWb]; exact (World.putObj_heap_other (by omega)).trans hk1
      have hzb : Wb.heap.size = W.heap.size := by rw [← hWb]; simp
      have hwb : ∀ T : Nat → Prop, T (w.heap.size + 1) → Turns T W Wb := fun T ht => by rw [← hWb]; exact (Turns.refl _ _).putObj (fun _ => ht) _
      rw [hWb]
      refine wpIn_mono (hbody k S v Wb hk (by omega) (hV _ _ _ _ hv ⟨_, hl1⟩ (hwb _ rfl)) (hI _ _ _ _ hi (hwb _ (.inr (.inr rfl)))) (fun b hb => by rw [hzb]; exact (hS b hb).1)) ?_
      have fin : ∀ (jump : Option Code) (S' : List Nat) (W3 : World), (∀ b, b ∈ S' → b < W3.heap.size ∧ (b ∈ S ∨ Wb.heap.size ≤ b)) → Turns (fun b => b ∈ S) Wb W3 →
          (Instr.endRound (w.heap.size + 1) jump).run P W3 = .ok (.bool jump.isNone) (W3.putObj (w.heap.size + 1) (.loop (rec (if jump.isNone then .ready else .done) jump))) ∧
          (W3.putObj (w.heap.size + 1) (.loop (rec (if jump.isNone then .ready else .done) jump))).heap[w.heap.size + 1]? = some (.loop (rec (if jump.isNone then .ready else .done) jump)) ∧
          (W3.putObj (w.heap.size + 1) (.loop (rec (if jump.isNone then .ready else .done) jump))).heap[w.heap.size]? = some (.deferred (some [])) ∧
          Turns (fun b => b ∈ S ∨ b = w.heap.size + 1) W (W3.putObj (w.heap.size + 1) (.loop (rec (if jump.isNone then .ready else .done) jump))) ∧
          (∀ b, b ∈ S' → b ∈ S ∨ W.heap.size ≤ b) ∧ (∀ b, b ∈ S' → b < W3.heap.size ∧ ¬ T b ∧ b ≠ w.heap.size ∧ b ≠ w.heap.size + 1) ∧
          Turns (fun b => T b ∨ b = w.heap.size ∨ b = w.heap.size + 1) W3 (W3.putObj (w.heap.size + 1) (.loop (rec (if jump.isNone then .ready else .done) jump))) := fun jump S' W3 hS' ht3 => by
        have hl3 := ht3.obj (fun e => (hS _ e).2.2.2 rfl) hl2
        have := run_endRound (P := P) jump hl3
        rw [hrec] at this ⊢
        refine ⟨this, World.putObj_heap_same (Array.getElem?_eq_some_iff.1 hl3).1, (World.putObj_heap_other (by omega)).trans (ht3.obj (fun e => (hS _ e).2.2.1 rfl) hk2), ?_, fun b hb => ?_, fun b hb => ?_, (Turns.refl _ _).putObj (fun _ => .inr (.inr rfl)) _⟩
        · exact ((hwb _ (.inr rfl)).trans (ht3.mono fun i _ h => .inl h)).putObj (fun _ => .inr rfl) _
        · rw [← hzb]; exact (hS' b hb).2
        · refine ⟨(hS' b hb).1, ?_⟩
          rcases (hS' b hb).2 with h | h
          · exact (hS b h).2
          · exact ⟨fun e => by have := hT _ e; omega, by omega, by omega⟩
      rintro e a3 W3 hp
      cases e with
      | normal =>
        obtain ⟨S', hS', ht3, hi3⟩ := hp
        obtain ⟨hr, hl4, hk4, ht4, hs4, hs5, ht5⟩ := fin none S' W3 hS' ht3
        exact ⟨_, _, hr, S', hs4, ht4, .inl ⟨rfl, hI _ _ _ _ hi3 ht5, fun b hb => by simpa using hs5 b hb, hl4, hk4⟩⟩
      | ret =>
        obtain ⟨S', hS', ht3, hi3⟩ := hp
        obtain ⟨hr, hl4, hk4, ht4, hs4, hs5, ht5⟩ := fin (some .ret) S' W3 hS' ht3
        exact ⟨_, _, hr, S', hs4, ht4, .inr ⟨rfl, .ret, hIx _ _ _ _ _ hi3 ht5, hl4, hk4⟩⟩
      | exit id =>
        obtain ⟨S', hS', ht3, hi3⟩ := hp
        obtain ⟨hr, hl4, hk4, ht4, hs4, hs5, ht5⟩ := fin (some (.exit id)) S' W3 hS' ht3
        exact ⟨_, _, hr, S', hs4, ht4, .inr ⟨rfl, .exit id, hIx _ _ _ _ _ hi3 ht5, hl4, hk4⟩⟩
      | goto t =>
        obtain ⟨S', hS', ht3, hi3⟩ := hp
        obtain ⟨hr, hl4, hk4, ht4, hs4, hs5, ht5⟩ := fin (some (.goto t)) S' W3 hS' ht3
        exact ⟨_, _, hr, S', hs4, ht4, .inr ⟨rfl, .goto t, hIx _ _ _ _ _ hi3 ht5, hl4, hk4⟩⟩
      | panic ch => exact hp.elim
      | outgrown => exact hp.elim
    · have := hS0 b hb
      exact ⟨by omega, this.2, by omega, by omega⟩
    · -- behind the iterator
      rintro e W2 ⟨⟨v, rfl⟩, (⟨S, hi, _, hl, hk⟩ | ⟨k, S, hkl, c, hi, hl, hk⟩)⟩
      · have hz := (Array.getElem?_eq_some_iff.1 hk).1
        exact ⟨none, _, by have := run_endLoop (P := P) hl (by rw [hrec]; simp); rw [hrec] at this; exact this, hdone S _ (by simpa using hz) (hI _ _ _ _ hi ((Turns.refl _ _).putObj (fun _ => .inr (.inr rfl)) _)) ((World.putObj_heap_other (by omega)).trans hk)⟩
      · have hz := (Array.getElem?_eq_some_iff.1 hk).1
        exact ⟨some c, _, by have := run_endLoop (P := P) hl (by rw [hrec]; simp); rw [hrec] at this; exact this, hstop c k S _ hkl (by simpa using hz) (hIx _ _ _ _ _ hi ((Turns.refl _ _).putObj (fun _ => .inr (.inr rfl)) _)) ((World.putObj_heap_other (by omega)).trans hk)⟩

end
end

section
open Go.RowKit

/-- The world x where it has kept what lies below B; else w. -/
noncomputable def plusB (B : Nat) (w x : World) : World := @ite _ (Below B w x) (Classical.propDecidable _) x w

theorem plusB_below (B : Nat) (w x : World) : Below B w (plusB B w x) := by
  unfold plusB
  split
  · assumption
  · exact Below.refl _ _

theorem plusB_of {B : Nat} {w w' : World} (h : Below B w w') : w' = plusB B w w' := by
  unfold plusB; rw [if_pos h]

theorem plusB_cell {B : Nat} {w : World} {a : Addr} {v : Value} (h : w.cell? a = some v) (ha : a.block < B) (x : World) : (plusB B w x).cell? a = some v := ((plusB_below B w x).cell ha).trans h

@[go_sem] def OutB (B : Nat) (w w' : World) : Prop := ∃ x, w' = plusB B w x

theorem OutB.mk {B : Nat} {w w' : World} (h : Below B w w') : OutB B w w' := ⟨w', plusB_of h⟩

section
variable {B : Nat} {P : Program} {ops : Array Oper} {Q : Exit → Act → World → Prop} {md : Region.Mode}

/-- An operation that may make memory, where it comes up. -/
def HeavyB (B : Nat) (P : Program) (ops : Array Oper) (Q : Exit → Act → World → Prop) (o : Oper) (K : Act → World → Prop) (a : Act) (w : World) : Prop :=
  if Region.wanted o (yielded ops a.tmps) = true then o.wp P a w (fun a' w' => Below B w w' ∧ K a' w') Q else K (a.put o.dst undef) w

/-- The walk of a schedule. -/
def wpSchedB (B : Nat) (P : Program) (ops : Array Oper) (Q : Exit → Act → World → Prop) : Sched → Act → World → Prop
  | .done l, a, w => wpQuiet P ops (OutB B w) (fun a' => Q .normal a' w) (l.map (pick ops)) a
  | .one l h s, a, w => wpQuiet P ops (OutB B w) (fun a' => HeavyB B P ops Q (pick ops h) (wpSchedB B P ops Q s) a' w) (l.map (pick ops)) a
  | .two l h s h' s', a, w => wpQuiet P ops (OutB B w) (fun a' => HeavyB B P ops Q (pick ops h) (wpSchedB B P ops Q s) a' w ∧ HeavyB B P ops Q (pick ops h') (wpSchedB B P ops Q s') a' w) (l.map (pick ops)) a
  | .three l h s h' s' h'' s'', a, w => wpQuiet P ops (OutB B w) (fun a' => HeavyB B P ops Q (pick ops h) (wpSchedB B P ops Q s) a' w ∧ HeavyB B P ops Q (pick ops h') (wpSchedB B P ops Q s') a' w ∧ HeavyB B P ops Q (pick ops h'') (wpSchedB B P ops Q s'') a' w) (l.map (pick ops)) a

theorem yieldsIfB_of_yieldsIn {o : Oper} {a : Act} {w : World} {v : Value} (hl : lightOp o.op = true) (h : YieldsIn P ops (OutB B w) o v a) : YieldsIf P ops (fun w' => Below B w w') o v a := by
  rcases h with ⟨hw, hv⟩ | h
  · refine .inl ⟨hw, fun w' hw' => ?_⟩
    have h1 := hv w' (OutB.mk hw')
    unfold Oper.quietAt at h1
    revert h1
    generalize hr : (execOp a.eval o).run P w' = r
    intro h1
    cases r with
    | ok n w2 =>
      obtain ⟨u, rfl⟩ := light_value hl hr
      simp only [Oper.quietUpon] at h1
      rw [h1.1, h1.2]
    | halt x w2 => simp only [Oper.quietUpon] at h1
  · exact .inr h

/-- The light operations, taken one after the other. -/
theorem take_lightsB (hs : Region.noSelect ops = true) (hQ : ∀ c a d v w, Q (.panic c) (Act.put a d v) w → Q (.panic c) a w) (K : Act → Prop) (w : World) :
    ∀ (l : List Nat) (listed t : Array Bool) (fuel : Nat) (a : Act), okLights md ops l listed = some t → wpQuiet P ops (OutB B w) K (l.map (pick ops)) a →
      (∀ a', K a' → wpAnyH P md ops Q (fun w' => Below B w w') fuel t a' w) → wpAnyH P md ops Q (fun w' => Below B w w') (fuel + l.length) listed a w
  | [], listed, t, fuel, a, hok, hw, hK => by
    simp only [okLights, Option.some.injEq] at hok
    subst hok
    exact hK a hw
  | i :: r, listed, t, fuel, a, hok, hw, hK => by
    simp only [okLights] at hok
    split at hok
    · rename_i hc
      simp only [Bool.and_eq_true] at hc
      obtain ⟨o, ho⟩ := mem_ready_some (by simpa using hc.1.1 : i ∈ Region.ready md ops listed)
      have hp := pick_of ho
      have hl : lightOp o.op = true := by rw [← hp]; exact hc.2
      have hq : qOp P ops (OutB B w) i (wpQuiet P ops (OutB B w) K (r.map (pick ops))) a := by
        unfold qOp; simp only [ho]
        have := hw
        simp only [List.map_cons, hp] at this
        exact this
      obtain ⟨v, hy, hk⟩ := yieldsIn_of_qOp ho hq
      exact wpAnyH_take ho hs hc.1.2 (by simpa using hc.1.1) (fun c a w => hQ c a o.dst v w) (yieldsIfB_of_yieldsIn hl hy) (Below.refl _ _) (take_lightsB hs hQ K w r _ t fuel _ hok hk hK)
    · cases hok

theorem heavyB_wpOp {o : Oper} {h : Nat} {K : Act → World → Prop} {fuel : Nat} {t : Array Bool} {a : Act} {w : World} (ho : ops[h]? = some o) (hh : HeavyB B P ops Q (pick ops h) K a w)
    (hK : ∀ a' w', K a' w' → wpAnyH P md ops Q (fun x => Below B w' x) fuel t a' w') :
    wpOp P ops Q h (fun a' w' => Below B w w' ∧ wpAnyH P md ops Q (fun x => Below B w x) fuel t a' w') a w := by
  rw [pick_of ho] at hh
  unfold HeavyB at hh
  unfold wpOp
  simp only [ho]
  split
  · rename_i hw
    rw [if_pos hw] at hh
    exact .inl (Oper.wp_mono (fun a' w' hb => ⟨hb.1, wpAnyH_weaken (fun x hx => hb.1.trans hx) fuel t a' w' (hK a' w' hb.2)⟩) hh)
  · rename_i hw
    rw [if_neg hw] at hh
    exact ⟨Below.refl _ _, hK _ _ hh⟩

theorem wpAnyH_of_schedB (hs : Region.noSelect ops = true) (hQ : ∀ c a d v w, Q (.panic c) (Act.put a d v) w → Q (.panic c) a w) :
    ∀ (s : Sched) (listed : Array Bool) (a : Act) (w : World), okSched md ops s listed = true → wpSchedB B P ops Q s a w → wpAnyH P md ops Q (fun x => Below B w x) (lenSched s) listed a w
  | .done l, listed, a, w, hok, hw => by
    simp only [okSched] at hok
    split at hok
    · rename_i t ht
      have := take_lightsB (fuel := 0) hs hQ _ w l listed t a ht hw (fun a' ha => ⟨by simpa using hok, ha⟩)
      rwa [Nat.zero_add] at this
    · cases hok
  | .one l h s, listed, a, w, hok, hw => by
    simp only [okSched] at hok
    split at hok
    · rename_i t ht
      simp only [Bool.and_eq_true, decide_eq_true_eq] at hok
      refine take_lightsB (fuel := lenSched s + 1) hs hQ _ w l listed t a ht hw (fun a' ha => ?_)
      refine wpAnyH_all hok.1 (by simp) (fun i hi => ?_)
      obtain ⟨o, ho⟩ := mem_ready_some (by rw [hok.1]; exact hi : i ∈ Region.ready md ops t)
      obtain rfl : i = h := by simpa using hi
      exact heavyB_wpOp ho ha (fun a2 w2 h2 => wpAnyH_of_schedB hs hQ s _ a2 w2 hok.2 h2)
    · cases hok
  | .two l h s h' s', listed, a, w, hok, hw => by
    simp only [okSched] at hok
    split at hok
    · rename_i t ht
      simp only [Bool.and_eq_true, decide_eq_true_eq] at hok
      refine take_lightsB (fuel := lenSched s + 1) hs hQ _ w l listed t a ht hw (fun a' ha => ?_)
      refine wpAnyH_all hok.1.1.1 (by simp) (fun i hi => ?_)
      obtain ⟨o, ho⟩ := mem_ready_some (by rw [hok.1.1.1]; exact hi : i ∈ Region.ready md ops t)
      simp only [List.mem_cons, List.not_mem_nil, or_false] at hi
      rcases hi with rfl | rfl
      · exact heavyB_wpOp ho ha.1 (fun a2 w2 h2 => wpAnyH_of_schedB hs hQ s _ a2 w2 hok.1.2 h2)
      · exact heavyB_wpOp ho ha.2 (fun a2 w2 h2 => by rw [← hok.1.1.2]; exact wpAnyH_of_schedB hs hQ s' _ a2 w2 hok.2 h2)
    · cases hok
  | .three l h s h' s' h'' s'', listed, a, w, hok, hw => by
    simp only [okSched] at hok
    split at hok
    · rename_i t ht
      simp only [Bool.and_eq_true, decide_eq_true_eq] at hok
      refine take_lightsB (fuel := lenSched s + 1) hs hQ _ w l listed t a ht hw (fun a' ha => ?_)
      refine wpAnyH_all hok.1.1.1.1 (by simp) (fun i hi => ?_)
      obtain ⟨o, ho⟩ := mem_ready_some (by rw [hok.1.1.1.1]; exact hi : i ∈ Region.ready md ops t)
      simp only [List.mem_cons, List.not_mem_nil, or_false] at hi
      rcases hi with rfl | rfl | rfl
      · exact heavyB_wpOp ho ha.1 (fun a2 w2 h2 => wpAnyH_of_schedB hs hQ s _ a2 w2 hok.1.1.2 h2)
      · exact heavyB_wpOp ho ha.2.1 (fun a2 w2 h2 => by rw [← hok.1.1.1.2.1]; exact wpAnyH_of_schedB hs hQ s' _ a2 w2 hok.1.2 h2)
      · exact heavyB_wpOp ho ha.2.2 (fun a2 w2 h2 => by rw [← hok.1.1.1.2.2]; exact wpAnyH_of_schedB hs hQ s'' _ a2 w2 hok.2 h2)
    · cases hok

/-- ONE SCHEDULE SERVES EVERY ORDER. What is known of the world at the region's head goes on as F. -/
theorem wp_region_schedB {id : Nat} {a : Act} {w : World} (F : World → Prop) (s : Sched) (hm : P.follows .mixedOrders = true)
    (hok : (Region.noSelect ops && okSched .any ops s (Array.replicate ops.size false) && decide (lenSched s = ops.size)) = true)
    (hQ0 : ∀ c (a : Act) t v w, Q (.panic c) (Act.mk (a.tmps.setIfInBounds t v) a.defers) w → Q (.panic c) a w) (hF : F w.drew)
    (h : ∀ W, F W → wpSchedB B P ops Q s a W) : (Code.region id ops true).wp P Q a w := by
  have hQ : ∀ c a d v w, Q (.panic c) (Act.put a d v) w → Q (.panic c) a w := fun c a d v w hq => by
    cases d with
    | none => exact hq
    | some t => exact hQ0 c a t v w hq
  simp only [Bool.and_eq_true, decide_eq_true_eq] at hok
  refine wp_region_held (S := fun _ => True) hm ?_
  have := wpAnyH_of_schedB hok.1.1 hQ s _ a w.drew hok.1.2 (h _ hF)
  rw [hok.2] at this
  exact wpAnyH_weaken (S' := fun x => Below B w.drew x) (fun _ _ => trivial) _ _ _ _ this

theorem heavyB_want {o : Oper} {K : Act → World → Prop} {a : Act} {w : World} (hw : Region.wanted o (yielded ops a.tmps) = true)
    (h : ∀ K' : Act → World → Prop, (∀ a' w', Below B w w' → K a' w' → K' a' w') → o.wp P a w K' Q) : HeavyB B P ops Q o K a w := by
  unfold HeavyB; rw [if_pos hw]; exact h _ (fun a' w' h1 h2 => ⟨h1, h2⟩)

theorem heavyB_skip {o : Oper} {K : Act → World → Prop} {a : Act} {w : World} (hw : Region.wanted o (yielded ops a.tmps) = false) (h : K (a.put o.dst undef) w) : HeavyB B P ops Q o K a w := by
  unfold HeavyB; rw [if_neg (by rw [hw]; exact Bool.false_ne_true)]; exact h

end

/-- A cut behind a piece of code that ends normally. -/
theorem wp_cut {P : Program} {c : Code} {Q : Exit → Act → World → Prop} {a : Act} {w : World} (R : Act → World → Prop) (h1 : c.wp P (fun e a' w' => e = .normal ∧ R a' w') a w) (h2 : ∀ a' w', R a' w' → Q .normal a' w') : c.wp P Q a w :=
  wp_mono h1 fun e a' w' h => by obtain ⟨rfl, hr⟩ := h; exact h2 _ _ hr
end

section
open Go.RowKit

section
variable {P : Program} {ops : Array Oper} {Q : Exit → Act → World → Prop} {md : Region.Mode} {n : Nat}

theorem op_inW {o : Oper} {a : Act} {w : World} {K : Act → World → Prop} (h : o.wp P a w K Q) : o.wpIn Fence.wide n P a w K Q := by
  refine ⟨fun f _ => trivial, ?_⟩
  show o.uponIn Fence.wide n P a K Q ((Oper.semAt none a.eval o).run P w)
  rw [Oper.semAt_none]
  unfold Oper.wp at h
  revert h
  generalize (execOp a.eval o).run P w = r
  intro h
  cases r with
  | ok x w' =>
    cases x <;> first
      | exact h
      | exact ⟨fun e => by simp [Fence.wide] at e, callsIn_wide.2 h⟩
      | exact ⟨fun e => by simp [Fence.wide] at e, fun c cs _ => by obtain ⟨v, w2, hr, hs⟩ := h c cs; exact ⟨v, w2, hr, stepsIn_wide.2 hs⟩⟩
      | exact h.elim
  | halt x w' => cases x <;> first | exact h | exact h.elim

def noDeferW (ops : Array Oper) : Bool := ops.all fun o => match o.op with | .defer _ => false | _ => true
theorem noDefer_ofW {i : Nat} {o : Oper} (h : noDeferW ops = true) (ho : ops[i]? = some o) : ∀ c, o.op ≠ .defer c := fun c e => by
  have hm := Array.all_eq_true'.1 h o (Array.mem_of_getElem? ho)
  rw [e] at hm
  cases hm

theorem any_inW (hd : noDeferW ops = true) (hlo : ¬ LetsOut Q) : ∀ (fuel : Nat) (listed : Array Bool) (a : Act) (w : World), wpAny P md ops Q fuel listed a w → wpAnyIn Fence.wide n P md ops Q fuel listed a w
  | 0, _, _, _, h => h
  | fuel + 1, listed, a, w, h => by
    refine ⟨h.1, fun i hi => ?_⟩
    have h2 := h.2 i hi
    unfold wpOp at h2
    unfold wpOpIn
    cases ho : ops[i]? with
    | none => rw [ho] at h2; exact any_inW hd hlo fuel _ _ _ h2
    | some o =>
      rw [ho] at h2
      simp only at h2 ⊢
      split
      · rename_i hw
        rw [if_pos hw] at h2
        exact op_inW (Oper.wp_mono (fun a' w' h' => any_inW hd hlo fuel _ _ _ h') (h2.resolve_right fun h' => hlo h'.2))
      · rename_i hw
        rw [if_neg hw] at h2
        exact ⟨fun f _ => trivial, any_inW hd hlo fuel _ _ _ h2⟩

/-- A schedule, at the wide fence. -/
theorem wpIn_region_schedBW {B : Nat} {id : Nat} {a : Act} {w : World} (F : World → Prop) (s : Sched) (hm : P.follows .mixedOrders = true)
    (hok : (Region.noSelect ops && noDeferW ops && okSched .any ops s (Array.replicate ops.size false) && decide (lenSched s = ops.size)) = true) (hlo : ¬ LetsOut Q)
    (hQ0 : ∀ c (a : Act) t v w, Q (.panic c) (Act.mk (a.tmps.setIfInBounds t v) a.defers) w → Q (.panic c) a w) (hF : F w.drew)
    (h : ∀ W, F W → wpSchedB B P ops Q s a W) : (Code.region id ops true).wpIn Fence.wide n P Q a w := by
  have hQ : ∀ c a d v w, Q (.panic c) (Act.put a d v) w → Q (.panic c) a w := fun c a d v w hq => by
    cases d with
    | none => exact hq
    | some t => exact hQ0 c a t v w hq
  simp only [Bool.and_eq_true, decide_eq_true_eq] at hok
  refine wpIn_region_any hm (any_inW hok.1.1.2 hlo _ _ _ _ ?_)
  have := wpAnyH_of_schedB hok.1.1.1 hQ s _ a w.drew hok.1.2 (h _ hF)
  rw [hok.2] at this
  exact wpAny_of_held (S := fun x => Below B w.drew x) _ _ _ _ this

end
end

section
open Go.RowKit

def vldG (h q : Int) : Bool := decide (0 ≤ h ∧ h ≤ 6 ∧ 0 ≤ q ∧ q < 2 ^ h.toNat)
theorem svalid_any (h q : Int) (w : World) : Calls Tryz.prog 52 #[.int .i64 h, .int .i64 q] w fun e w' => e = .returned (.bool (vldG h q)) ∧ w' = w := by
  by_cases h0 : 0 ≤ h
  · by_cases h6 : h ≤ 6
    · by_cases q0 : 0 ≤ q
      · have HV : Hid (vldG h q = decide (q < 2 ^ h.toNat)) := by
          show vldG h q = _
          unfold vldG
          simp [h0, h6, q0]
        have d0 : decide (0 ≤ h) = true := decide_eq_true h0
        have d6 : decide (h ≤ 6) = true := decide_eq_true h6
        have dq : decide (0 ≤ q) = true := decide_eq_true q0
        clear HV d0 d6 dq
        rcases (show h = 0 ∨ h = 1 ∨ h = 2 ∨ h = 3 ∨ h = 4 ∨ h = 5 ∨ h = 6 by omega) with rfl | rfl | rfl | rfl | rfl | rfl | rfl
        · by_cases hq : q < 1
          · have e : vldG 0 q = true := by unfold vldG; simp; omega
            have dq : decide (0 ≤ q) = true := decide_eq_true q0
            have dl : decide (q < 1) = true := decide_eq_true hq
            rw [e]
            go_enter Tryz.func52, Tryz.ntmps52
            go_wp2
            go_ret
            exact ⟨rfl, rfl⟩
          · have e : vldG 0 q = false := by unfold vldG; simp; omega
            have dq : decide (0 ≤ q) = true := decide_eq_true q0
            have dl : decide (q < 1) = false := decide_eq_false hq
            rw [e]
            go_enter Tryz.func52, Tryz.ntmps52
            go_wp2
            go_ret
            exact ⟨rfl, rfl⟩
        · by_cases hq : q < 2
          · have e : vldG 1 q = true := by unfold vldG; simp; omega
            have dq : decide (0 ≤ q) = true := decide_eq_true q0
            have dl : decide (q < 2) = true := decide_eq_true hq
            rw [e]
            go_enter Tryz.func52, Tryz.ntmps52
            go_wp2
            go_ret
            exact ⟨rfl, rfl⟩
          · have e : vldG 1 q = false := by unfold vldG; simp; omega
            have dq : decide (0 ≤ q) = true := decide_eq_true q0
            have dl : decide (q < 2) = false := decide_eq_false hq
            rw [e]
            go_enter Tryz.func52, Tryz.ntmps52
            go_wp2
            go_ret
            exact ⟨rfl, rfl⟩
        · by_cases hq : q < 4
          · have e : vldG 2 q = true := by unfold vldG; simp; omega
            have dq : decide (0 ≤ q) = true := decide_eq_true q0
            have dl : decide (q < 4) = true := decide_eq_true hq
            rw [e]
            go_enter Tryz.func52, Tryz.ntmps52
            go_wp2
            go_ret
            exact ⟨rfl, rfl⟩
          · have e : vldG 2 q = false := by unfold vldG; simp; omega
            have dq : decide (0 ≤ q) = true := decide_eq_true q0
            have dl : decide (q < 4) = false := decide_eq_false hq
            rw [e]
            go_enter Tryz.func52, Tryz.ntmps52
            go_wp2
            go_ret
            exact ⟨rfl, rfl⟩
        · by_cases hq : q < 8
          · have e : vldG 3 q = true := by unfold vldG; simp; omega
            have dq : decide (0 ≤ q) = true := decide_eq_true q0
            have dl : decide (q < 8) = true := decide_eq_true hq
            rw [e]
            go_enter Tryz.func52, Tryz.ntmps52
            go_wp2
            go_ret
            exact ⟨rfl, rfl⟩
          · have e : vldG 3 q = false := by unfold vldG; simp; omega
            have dq : decide (0 ≤ q) = true := decide_eq_true q0
            have dl : decide (q < 8) = false := decide_eq_false hq
            rw [e]
            go_enter Tryz.func52, Tryz.ntmps52
            go_wp2
            go_ret
            exact ⟨rfl, rfl⟩
        · by_cases hq : q < 16
          · have e : vldG 4 q = true := by unfold vldG; simp; omega
            have dq : decide (0 ≤ q) = true := decide_eq_true q0
            have dl : decide (q < 16) = true := decide_eq_true hq
            rw [e]
            go_enter Tryz.func52, Tryz.ntmps52
            go_wp2
            go_ret
            exact ⟨rfl, rfl⟩
          · have e : vldG 4 q = false := by unfold vldG; simp; omega
            have dq : decide (0 ≤ q) = true := decide_eq_true q0
            have dl : decide (q < 16) = false := decide_eq_false hq
            rw [e]
            go_enter Tryz.func52, Tryz.ntmps52
            go_wp2
            go_ret
            exact ⟨rfl, rfl⟩
        · by_cases hq : q < 32
          · have e : vldG 5 q = true := by unfold vldG; simp; omega
            have dq : decide (0 ≤ q) = true := decide_eq_true q0
            have dl : decide (q < 32) = true := decide_eq_true hq
            rw [e]
            go_enter Tryz.func52, Tryz.ntmps52
            go_wp2
            go_ret
            exact ⟨rfl, rfl⟩
          · have e : vldG 5 q = false := by unfold vldG; simp; omega
            have dq : decide (0 ≤ q) = true := decide_eq_true q0
            have dl : decide (q < 32) = false := decide_eq_false hq
            rw [e]
            go_enter Tryz.func52, Tryz.ntmps52
            go_wp2
            go_ret
            exact ⟨rfl, rfl⟩
        · by_cases hq : q < 64
          · have e : vldG 6 q = true := by unfold vldG; simp; omega
            have dq : decide (0 ≤ q) = true := decide_eq_true q0
            have dl : decide (q < 64) = true := decide_eq_true hq
            rw [e]
            go_enter Tryz.func52, Tryz.ntmps52
            go_wp2
            go_ret
            exact ⟨rfl, rfl⟩
          · have e : vldG 6 q = false := by unfold vldG; simp; omega
            have dq : decide (0 ≤ q) = true := decide_eq_true q0
            have dl : decide (q < 64) = false := decide_eq_false hq
            rw [e]
            go_enter Tryz.func52, Tryz.ntmps52
            go_wp2
            go_ret
            exact ⟨rfl, rfl⟩
      · have e : vldG h q = false := by unfold vldG; simp; omega
        have d0 : decide (0 ≤ h) = true := decide_eq_true h0
        have d6 : decide (h ≤ 6) = true := decide_eq_true h6
        have dq : decide (0 ≤ q) = false := decide_eq_false q0
        rw [e]
        go_enter Tryz.func52, Tryz.ntmps52
        go_wp2
        go_ret
        exact ⟨rfl, rfl⟩
    · have e : vldG h q = false := by unfold vldG; simp; omega
      have d0 : decide (0 ≤ h) = true := decide_eq_true h0
      have d6 : decide (h ≤ 6) = false := decide_eq_false h6
      rw [e]
      go_enter Tryz.func52, Tryz.ntmps52
      go_wp2
      go_ret
      exact ⟨rfl, rfl⟩
  · have e : vldG h q = false := by unfold vldG; simp; omega
    have d0 : decide (0 ≤ h) = false := decide_eq_false h0
    rw [e]
    go_enter Tryz.func52, Tryz.ntmps52
    go_wp2
    go_ret
    exact ⟨rfl, rfl⟩

theorem levels_any (seed : D64) (h : Int) (w : World) : Calls Tryz.prog 53 #[.int .u64 (num seed), .int .i64 h] w fun e w' => e = .returned (.func (.func 83) #[] #[.pointer (some ⟨w.heap.size + 1, 0, none⟩), .pointer (some ⟨w.heap.size, 0, none⟩)]) ∧ w' = (w.alloc (.cells #[.int .u64 (num seed)] 23)).alloc (.cells #[.int .i64 h] 3) := by
  have hmf : ∀ (fn : Fn) (first cap : Array Value) (w : World), (Instr.makeFunc fn first cap).run Tryz.prog w = .ok (.func fn first cap) w := fun _ _ _ _ => rfl
  go_enter Tryz.func53, Tryz.ntmps53
  go_wp2_with fail
  go_ret
  exact ⟨rfl, rfl⟩

def rowE (a : Nat × Nat) : Array Value := #[.slice (some ⟨a.1, 0, none⟩) a.2 a.2]
def RowV (seed : D64) (h k : Nat) (a : Nat × Nat) (W : World) : Prop := a.2 = 2 ^ (h - k) ∧ Wts W (some ⟨a.1, 0, none⟩) (Sgn.row seed h k)
/-- n cells of words at the head of a block. -/
def RowA (W : World) (b n : Nat) (v : Nat → D64) : Prop := ∀ j, j < n → W.cell? ⟨b, j, none⟩ = some (.int .u64 (num (v j))) ∧ W.frozen? ⟨b, j, none⟩ = false
theorem RowA.set {W : World} {b n : Nat} {v : Nat → D64} (h : RowA W b n v) (i : Nat) (u : D64) : RowA (W.setCell ⟨b, i, none⟩ (.int .u64 (num u))) b n (fun j => if j = i then u else v j) := by
  intro j hj
  refine ⟨?_, by rw [World.frozen?_setCell]; exact (h j hj).2⟩
  by_cases e : j = i
  · subst e
    simp only [if_true]
    exact World.cell?_setCell_same' _ _ _ (by rw [(h j hj).1]; rfl)
  · simp only [if_neg e]
    rw [World.cell?_setCell_other _ _ _ _ (by simp <;> omega)]
    exact (h j hj).1
theorem RowA.congr {W : World} {b n : Nat} {v u : Nat → D64} (h : RowA W b n v) (e : ∀ j, j < n → v j = u j) : RowA W b n u := fun j hj => ⟨by rw [← e j hj]; exact (h j hj).1, (h j hj).2⟩
theorem RowA.turn {W W' : World} {b n : Nat} {v : Nat → D64} {T : Nat → Prop} (h : RowA W b n v) (ht : Turns T W W') (hb : ¬ T b) : RowA W' b n v := fun j hj =>
  ⟨ht.cell (p := ⟨b, j, none⟩) hb (h j hj).1, ht.frozen (p := ⟨b, j, none⟩) hb (World.block_lt_of_cell? _ _ (h j hj).1) (h j hj).2⟩
theorem RowA.later {W W' : World} {b n : Nat} {v : Nat → D64} (h : RowA W b n v) (hb : Below W.heap.size W W') : RowA W' b n v := h.turn (Turns.of_below hb (Nat.le_refl _) (T := fun _ => False)) (fun e => e)
theorem rowA_zeros (W : World) (n : Nat) (hn : n ≤ 10000000) : RowA (W.alloc (.cells (zeroW n) 23)) W.heap.size n (fun _ => 0#64) := fun j hj =>
  have h := OwnsW.zeros W.heap.size W.heap.size n W (Nat.le_refl _) rfl hn
  ⟨by have := h.cell j (by simpa using hj); simpa [List.getD_eq_getElem?_getD, hj] using this, h.free j⟩
theorem RowA.wts {W : World} {b n : Nat} {v : Nat → D64} (h : RowA W b n v) {l : List D64} (hl : l.length = n) (he : ∀ j, j < n → l.getD j 0#64 = v j) : Wts W (some ⟨b, 0, none⟩) l :=
  .inr ⟨b, 0, rfl, fun i hi => by rw [he i (by omega), Nat.zero_add]; exact (h i (by omega)).1⟩
theorem RowA.other {W : World} {b n : Nat} {v : Nat → D64} (h : RowA W b n v) {p : Addr} (hp : p.block ≠ b) (u : Value) : RowA (W.setCell p u) b n v := fun j hj => ⟨by rw [World.cell?_setCell_other _ _ _ _ (by intro e; subst e; exact hp rfl)]; exact (h j hj).1, by rw [World.frozen?_setCell]; exact (h j hj).2⟩
def L1Rel (seed : D64) (N : Nat) (_hb sb : Nat) (A : World) (u13 : Value) (wr : World) : Prop :=
  ∃ q : Nat, q ≤ N ∧ u13 = .int .i64 (q : Int) ∧ Turns (fun _ => False) A wr ∧ wr.cell? ⟨sb, 0, none⟩ = some (.int .u64 (num seed)) ∧ RowA wr A.heap.size N (fun j => if j < q then Sgn.node seed 0 j else 0#64) ∧ A.heap.size < wr.heap.size
def sliceLen : Value → Nat
  | .slice _ n _ => n
  | _ => 0
def L2Rel (seed : D64) (h l : Nat) (J : Nat → List Nat → World → Prop) (u4 : Value) (wr : World) : Prop :=
  ∃ (k : Nat) (S : List Nat) (rb : Nat), k ≤ h ∧ u4 = .slice (some ⟨rb, 0, none⟩) (2 ^ (h - k)) (2 ^ (h - k)) ∧ J k S wr ∧ RowA wr rb (2 ^ (h - k)) (Sgn.node seed k) ∧ ¬ rb ∈ S ∧ ¬ rb = l ∧ l < wr.heap.size ∧ rb < wr.heap.size
def L3Rel (seed : D64) (k M rb : Nat) (A : World) (u37 : Value) (wr : World) : Prop :=
  ∃ i : Nat, i ≤ M ∧ u37 = .int .i64 (i : Int) ∧ Turns (fun _ => False) A wr ∧ RowA wr rb (2 * M) (Sgn.node seed k) ∧ RowA wr A.heap.size M (fun j => if j < i then Sgn.node seed (k + 1) j else 0#64) ∧ A.heap.size < wr.heap.size

set_option maxRecDepth 100000 in
set_option maxHeartbeats 2000000 in
theorem levels1_in (n : Nat) (hn : 1 ≤ n) (hb sb : Nat) (seed : D64) (h : Nat) (w : World) (h6 : h ≤ 6) (c0 : w.cell? ⟨hb, 0, none⟩ = some (.int .i64 (h : Int))) (c1 : w.cell? ⟨sb, 0, none⟩ = some (.int .u64 (num seed))) :
    YieldsV n Tryz.prog 83 #[.pointer (some ⟨hb, 0, none⟩), .pointer (some ⟨sb, 0, none⟩)] rowE (h + 1) (RowV seed h) True (fun _ => False) w := by
  intro l J Jx S0 W hW hl0 hl hJ hJx hS hst hY h0
  have d0 := hW.cell (fun e => e) c0
  have d1 := hW.cell (fun e => e) c1
  have hsb := World.block_lt_of_cell? _ _ d1
  clear c0 c1 hst
  obtain ⟨N, hN⟩ : ∃ N, 2 ^ h = N := ⟨_, rfl⟩
  have hN64 : 1 ≤ N ∧ N ≤ 64 := by
    rw [← hN]
    exact ⟨Nat.one_le_two_pow, Nat.pow_le_pow_right (n := 2) (by decide) h6⟩
  have hsh : wrap64 (2 ^ h) = (N : Int) := by
    have e : (2 : Int) ^ h = (N : Int) := by rw [← hN, Int.natCast_pow]; rfl
    rw [e]
    exact IntWalk.wrap64_in _ (by omega)
  have hmk := fun W => run_zerosW N (by omega) W
  have hz := rowA_zeros W N (by omega)
  have htz : Turns (fun _ => False) W (W.alloc (.cells (zeroW N) 23)) := (Turns.refl _ _).alloc _
  have hsz : W.heap.size < (W.alloc (.cells (zeroW N) 23)).heap.size := by simp
  have d2 := htz.cell (p := ⟨sb, 0, none⟩) (fun e => e) d1
  refine callsIn_of_wp Tryz.func83 rfl trivial ?_ rfl
  simp only [Tryz.ntmps83, List.size_toArray, List.length_cons, List.length_nil, Nat.reduceAdd, Nat.reduceSub, Array.replicate_succ, Array.replicate_zero, List.push_toArray, List.append_toArray, List.nil_append, List.cons_append]
  gi_wp2_with fail
  clear hmk hsh d0 d1
  gi_loopw [13] (fun u13 wr => L1Rel seed N hb sb W u13 wr) (fun u13 _ => N - (intOf u13).toNat)
  case atStart => exact ⟨0, by omega, rfl, htz, d2, hz.congr fun j _ => by simp, hsz⟩
  case round =>
    clear htz d2 hz hsz
    obtain ⟨q, hq, rfl, ht, d2, hR, hsz⟩ := hrel
    by_cases hlt : q < N
    · have hkq : decide (q < N) = true := decide_eq_true hlt
      have HQ : Hid (Sgn.pub seed (u8z (q : Int)) (u8z ((q : Int) / 256)) = Sgn.node seed 0 q) := by
        show Sgn.pub seed _ _ = Sgn.pub seed (UInt8.ofNat q) (UInt8.ofNat (q / 256))
        rw [u8z_nat, show (q : Int) / 256 = ((q / 256 : Nat) : Int) by omega, u8z_nat]
      gi_wp2_with (refine ⟨trivial, ?_⟩; gi_at_call 84; refine (callsIn_wide.2 (Public_any seed (q : Int) _)).mono ?_; rintro e w1 ⟨rfl, hb1⟩; have hR1 := hR.later hb1; have r0 := (hR1 q hlt).1; have r1 : w1.frozen? ⟨W.heap.size, q, none⟩ = false := (hR1 q hlt).2)
      rw [HQ.out]
      refine ⟨⟨q + 1, by omega, by go_num, (ht.trans (Turns.of_below hb1 (Nat.le_refl _))).setCell (fun e => absurd e (by simp)) _, (World.cell?_setCell_other _ _ _ _ (by simp <;> omega)).trans (later hb1 d2), (hR1.set q _).congr fun j _ => ?_, by have := hb1.size; simp; omega⟩, by simp [intOf]; omega⟩
      by_cases hji : j = q
      · subst hji; simp
      · by_cases h2 : j < q
        · simp [hji, h2, show j < q + 1 by omega]
        · simp [hji, h2, show ¬ j < q + 1 by omega]
    · obtain rfl : q = N := by omega
      have hS00 := hS _ _ _ h0
      have hj0 := hJ _ _ _ _ h0 ht
      gi_wp2_with fail
      gi_loopw [4] (fun u4 wr => L2Rel seed h l J u4 wr) (fun u4 _ => sliceLen u4)
      case atStart => exact ⟨0, S0, W.heap.size, by omega, by rw [Nat.sub_zero, hN], hj0, by rw [Nat.sub_zero, hN]; exact hR.congr fun j hj => by simp [hj], fun e => Nat.lt_irrefl _ (hS00 _ e).1, by omega, by omega, hsz⟩
      case round =>
        clear hR hj0 hS00 d2 ht
        obtain ⟨k, S, rb, hk, rfl, hj, hR, hns, hnl, hlz, hrb⟩ := hrel
        obtain ⟨L, hL⟩ : ∃ L, 2 ^ (h - k) = L := ⟨_, rfl⟩
        have hL64 : 1 ≤ L ∧ L ≤ 64 := by
          rw [← hL]
          exact ⟨Nat.one_le_two_pow, Nat.pow_le_pow_right (n := 2) (by decide) (show h - k ≤ 6 by omega)⟩
        have hV : RowV seed h k (rb, L) wr := ⟨hL.symm, (hL ▸ hR).wts (by rw [Sgn.row_length, hL]) (fun j hj => Sgn.row_getD _ _ _ _ (by rw [hL]; exact hj))⟩
        rw [hL] at hR ⊢
        obtain ⟨fn, tmps, assign, body, hy, hRr⟩ := hY k S (rb, L) wr (by omega) hV hj
        simp only [rowE] at hy
        clear hV
        gi_wp2_with fail
        refine hRr.mono ?_
        rintro e W' ⟨S', hs1, htt, (⟨rfl, hj3⟩ | ⟨rfl, hj3⟩)⟩
        · have hR' := hR.turn htt (fun e => e.elim hns hnl)
          have hS3 := hS _ _ _ hj3
          have hzz := htt.size
          clear hR hRr hy
          by_cases hkh : k < h
          · obtain ⟨M, hM⟩ : ∃ M, 2 ^ (h - (k + 1)) = M := ⟨_, rfl⟩
            have hLM : L = 2 * M := by rw [← hL, ← hM, show h - k = (h - (k + 1)) + 1 by omega, Nat.pow_succ]; omega
            have hM1 : 1 ≤ M := by rw [← hM]; exact Nat.one_le_two_pow
            subst hLM
            have dL : decide ((1 : Int) < 2 * (M : Int)) = true := decide_eq_true (by omega)
            have hmk := fun W => run_zerosW M (by omega) W
            have hz := rowA_zeros W' M (by omega)
            have hR2 : RowA (W'.alloc (.cells (zeroW M) 23)) rb (2 * M) (Sgn.node seed k) := hR'.later (al (Below.refl _ _) _)
            have ht0 : Turns (fun _ => False) W' (W'.alloc (.cells (zeroW M) 23)) := (Turns.refl _ _).alloc _
            have hz0 : W'.heap.size < (W'.alloc (.cells (zeroW M) 23)).heap.size := by simp
            have hrb' : rb < W'.heap.size := by omega
            clear hR'
            gi_wp2_with fail
            clear hmk
            gi_loopw [37] (fun u37 wr => L3Rel seed k M rb W' u37 wr) (fun u37 _ => M - (intOf u37).toNat)
            case atStart => exact ⟨0, by omega, rfl, ht0, hR2, hz.congr fun j _ => by simp, hz0⟩
            case round =>
              clear hR2 ht0 hz hz0
              obtain ⟨i, hi, rfl, ht3, hRr, hRn, hszn⟩ := hrel
              by_cases hlt3 : i < M
              · have dki : decide (i < M) = true := decide_eq_true hlt3
                obtain ⟨e, he⟩ : ∃ e, 2 * i = e := ⟨_, rfl⟩
                have h2i : 2 * (i : Int) = (e : Int) := by omega
                have heM : e + 1 < 2 * M := by omega
                have x0 := (hRr e (by omega)).1
                have x1 := (hRr (e + 1) heM).1
                have HN : Hid (Sgn.node seed (k + 1) i = Dig.pair (Sgn.node seed k e) (Sgn.node seed k (e + 1))) := by show Dig.pair (Sgn.node seed k (2 * i)) (Sgn.node seed k (2 * i + 1)) = _; rw [he]
                obtain ⟨va, hva⟩ : ∃ v, Sgn.node seed k e = v := ⟨_, rfl⟩
                obtain ⟨vb, hvb⟩ : ∃ v, Sgn.node seed k (e + 1) = v := ⟨_, rfl⟩
                rw [hva] at x0 HN
                rw [hvb] at x1 HN
                clear he hva hvb
                gi_wp2_with fail
                refine wpIn_region_schedBW (B := W'.heap.size) (fun X => X.cell? ⟨rb, e, none⟩ = some (.int .u64 (num va)) ∧ X.cell? ⟨rb, e + 1, none⟩ = some (.int .u64 (num vb)) ∧ RowA X rb (2 * M) (Sgn.node seed k) ∧ RowA X W'.heap.size M (fun j => if j < i then Sgn.node seed (k + 1) j else 0#64) ∧ Turns (fun _ => False) W' X ∧ W'.heap.size < X.heap.size) (.one [0, 1, 2, 3, 4, 5, 6, 7, 8, 9, 10, 11, 12] 13 (.one [14] 15 (.done []))) (by kernel_rfl) (by kernel_rfl) (fun ⟨_, _, hh⟩ => by obtain ⟨⟨v, hv⟩, _⟩ := hh; cases hv) (fun _ _ _ _ _ h => h) ⟨x0, x1, hRr, hRn, ht3.drew, hszn⟩ ?_
                clear x0 x1 hRr hRn ht3 hszn
                rintro X ⟨x0, x1, hRr, hRn, ht3, hszn⟩
                rw [wpSchedB]
                simp only [pick, List.map_cons, List.map_nil, Array.getD_eq_getD_getElem?, List.getElem?_toArray, List.getElem?_cons_succ, List.getElem?_cons_zero, Option.getD_some]
                have kq0 := plusB_cell x0 (by simpa using hrb')
                have kq1 := plusB_cell x1 (by simpa using hrb')
                repeat (first | go_big_quiet_step (fail) | quiet_step (fail))
                refine wpQuiet_nil ?_
                clear kq0 kq1 x0 x1
                refine heavyB_want (by rfl) (fun K' hK' => ?_)
                go_simp
                refine (pair_any va vb _).mono ?_
                rintro e X1 ⟨rfl, hb1⟩
                refine hK' _ _ (hb1.mono (by omega)) ?_
                clear hK' K'
                rw [← HN.out]
                replace hRr := hRr.later hb1
                replace hRn := hRn.later hb1
                replace ht3 := ht3.trans (Turns.of_below hb1 (Nat.le_refl _))
                replace hszn : W'.heap.size < X1.heap.size := by have := hb1.size; omega
                have y0 := (hRn i hlt3).1
                have y1 : X1.frozen? ⟨W'.heap.size, i, none⟩ = false := (hRn i hlt3).2
                clear hb1
                try simp only [Act.put, List.setIfInBounds_toArray, List.set_cons_zero, List.set_cons_succ]
                rw [wpSchedB]
                simp only [pick, List.map_cons, List.map_nil, Array.getD_eq_getD_getElem?, List.getElem?_toArray, List.getElem?_cons_succ, List.getElem?_cons_zero, Option.getD_some]
                repeat (first | go_big_quiet_step (fail) | quiet_step (fail))
                refine wpQuiet_nil ?_
                refine heavyB_want (by rfl) (fun K' hK' => ?_)
                go_simp
                refine hK' _ _ ((Below.refl _ _).setCell (p := ⟨W'.heap.size, i, none⟩) (Nat.le_refl _) _) ?_
                clear hK' K' y0 y1
                try simp only [Act.put, List.setIfInBounds_toArray, List.set_cons_zero, List.set_cons_succ]
                rw [wpSchedB]
                simp only [List.map_nil]
                refine wpQuiet_nil ?_
                gi_wp2_with fail
                refine ⟨⟨i + 1, by omega, by go_num, ht3.setCell (fun e => absurd e (by simp)) _, hRr.other (by simp <;> omega) _, (hRn.set i _).congr fun j _ => ?_, by simpa using hszn⟩, by simp [intOf]; omega⟩
                by_cases hji : j = i
                · subst hji; simp
                · by_cases h2 : j < i
                  · simp [hji, h2, show j < i + 1 by omega]
                  · simp [hji, h2, show ¬ j < i + 1 by omega]
              · obtain rfl : i = M := by omega
                have dki : decide (i < i) = false := by simp
                have hj4 := hJ _ _ _ _ hj3 ht3
                gi_wp2_with fail
                exact ⟨⟨k + 1, S', W'.heap.size, by omega, by rw [hM], hj4, by rw [hM]; exact hRn.congr fun j hj => by simp [hj], fun e => Nat.lt_irrefl _ (hS3 _ e).1, by omega, by omega, hszn⟩, by simp [sliceLen]; omega⟩
          · obtain rfl : k = h := by omega
            have hL1 : L = 1 := by rw [← hL, Nat.sub_self]
            have dL : decide ((1 : Int) < (L : Int)) = false := decide_eq_false (by omega)
            clear hL1
            gi_wp2_with fail
            go_end0
            exact ⟨⟨_, rfl⟩, .inl ⟨_, hj3⟩⟩
        · gi_wp2_with fail
          go_end0
          exact ⟨⟨_, rfl⟩, .inr ⟨k, S', by omega, hj3⟩⟩
end

section
open Go.RowKit

attribute [local go_sem] Oper.semAt_some
theorem valid_yes (h : Nat) (q : Int) (h6 : h ≤ 6) (q0 : 0 ≤ q) (hq : q < 2 ^ h) (w : World) : Calls Tryz.prog 52 #[.int .i64 (h : Int), .int .i64 q] w fun e w' => e = .returned (.bool true) ∧ w' = w := by
  have e : vldG (h : Int) q = true := by
    unfold vldG
    have h2 : (2 : Int) ^ ((h : Int).toNat) = 2 ^ h := by rw [Int.toNat_natCast]
    rw [h2]
    exact decide_eq_true ⟨by omega, by omega, q0, hq⟩
  rw [← e]
  exact svalid_any _ _ _
theorem valid_no (h q : Int) (hn : vldG h q = false) (w : World) : Calls Tryz.prog 52 #[.int .i64 h, .int .i64 q] w fun e w' => e = .returned (.bool false) ∧ w' = w := by
  rw [← hn]; exact svalid_any _ _ _
theorem rowV_loop {L : Nat} {seed : D64} {h : Nat} (k : Nat) (v : Nat × Nat) (A B : World) (hv : RowV seed h k v A) (hl : ∃ r, A.heap[L]? = some (.loop r)) (ht : Turns (fun b => b = L) A B) : RowV seed h k v B := by
  obtain ⟨r, hr⟩ := hl
  obtain ⟨h1, h2⟩ := hv
  refine ⟨h1, ?_⟩
  rcases h2 with h2 | ⟨b, o, hx, hc⟩
  · exact .inl h2
  · refine .inr ⟨b, o, hx, fun i hi => ht.cell ?_ (hc i hi)⟩
    rintro rfl
    have := hc i hi
    unfold World.cell? at this
    simp [hr] at this
theorem rowV_first {seed : D64} {h k : Nat} {v : Nat × Nat} {W : World} (hv : RowV seed h k v W) : W.cell? ⟨v.1, 0, none⟩ = some (.int .u64 (num (Sgn.node seed k 0))) ∧ 0 < v.2 := by
  obtain ⟨h1, h2⟩ := hv
  have hp : 0 < 2 ^ (h - k) := Nat.two_pow_pos _
  rcases h2 with h2 | ⟨b, o, hx, hc⟩
  · have := Sgn.row_length seed h k
    rw [h2] at this
    simp at this
    omega
  · cases hx
    have := hc 0 (by rw [Sgn.row_length]; exact hp)
    rw [Sgn.row_getD _ _ _ _ hp] at this
    exact ⟨this, by omega⟩

theorem root_bad (seed : D64) (h : Int) (hn : vldG h 0 = false) (w : World) : Calls Tryz.prog 22 #[.int .u64 (num seed), .int .i64 h] w fun e w' => e = .returned (.tuple #[.int .u64 0, .int .i64 2]) ∧ Below w.heap.size w w' := by
  refine (callsIn_wide (n := 5)).1 ?_
  refine callsIn_of_wp_marks Tryz.func22 rfl trivial ?_ rfl
  simp only [Tryz.ntmps22, List.size_toArray, List.length_cons, List.length_nil, Nat.reduceAdd, Nat.reduceSub, Array.replicate_succ, Array.replicate_zero, List.push_toArray, List.append_toArray, List.nil_append, List.cons_append]
  gi_wp2_with (refine ⟨trivial, ?_⟩; gi_at_call 52; refine (callsIn_wide.2 (valid_no h 0 hn _)).mono ?_; rintro e w1 ⟨rfl, hw⟩; obtain rfl : w = w1 := hw.symm)
  exact ret_plain (.tuple #[.int .u64 0, .int .i64 2]) (by simp [results, Tryz.f22, go_sem]) ⟨rfl, Below.refl _ _⟩

def RoI (seed : D64) (w : World) (k : Nat) (S : List Nat) (W : World) : Prop :=
  S = [w.heap.size] ∧ Below w.heap.size w W ∧ W.cell? ⟨w.heap.size, 0, none⟩ = some (.int .u64 (num (if k = 0 then 0#64 else Sgn.node seed (k - 1) 0))) ∧ W.frozen? ⟨w.heap.size, 0, none⟩ = false
theorem RoI.turn {seed : D64} {w : World} {k : Nat} {S : List Nat} {A B : World} {T : Nat → Prop} (h : RoI seed w k S A) (ht : Turns T A B) (hT : ∀ b, T b → w.heap.size + 1 ≤ b) : RoI seed w k S B := by
  obtain ⟨hS, hB, c0, f0⟩ := h
  have ne : ∀ b, b < w.heap.size + 1 → ¬ T b := fun b hb e => by have := hT b e; omega
  exact ⟨hS, hB.trans (ht.below hB.size (fun i hi => ne i (by omega))), ht.cell (ne w.heap.size (by omega)) c0, ht.frozen (ne w.heap.size (by omega)) (World.block_lt_of_cell? _ _ c0) f0⟩

set_option maxHeartbeats 1000000 in
theorem root_ok (seed : D64) (h : Nat) (h6 : h ≤ 6) (w : World) : Calls Tryz.prog 22 #[.int .u64 (num seed), .int .i64 (h : Int)] w fun e w' => e = .returned (.tuple #[.int .u64 (num (Sgn.node seed h 0)), .int .i64 0]) ∧ Below w.heap.size w w' := by
  have hq : (0 : Int) < 2 ^ h := by
    have : (0 : Int) < ((2 ^ h : Nat) : Int) := by exact_mod_cast Nat.two_pow_pos h
    simpa using this
  refine (callsIn_wide (n := 5)).1 ?_
  refine callsIn_of_wp_marks Tryz.func22 rfl trivial ?_ rfl
  simp only [Tryz.ntmps22, List.size_toArray, List.length_cons, List.length_nil, Nat.reduceAdd, Nat.reduceSub, Array.replicate_succ, Array.replicate_zero, List.push_toArray, List.append_toArray, List.nil_append, List.cons_append]
  gi_wp2_with (first | (refine ⟨trivial, ?_⟩; gi_at_call 52; refine (callsIn_wide.2 (valid_yes h 0 h6 (by omega) hq _)).mono ?_; rintro e w1 ⟨rfl, hw⟩; obtain rfl : w = w1 := hw.symm) | (refine ⟨trivial, ?_⟩; gi_at_call 53; refine (callsIn_wide.2 (levels_any seed (h : Int) _)).mono ?_; rintro e w1 ⟨rfl, rfl⟩))
  clear hq
  have hb : (((w.alloc (.cells #[.int .u64 0] 23)).alloc (.cells #[.int .u64 (num seed)] 23)).alloc (.cells #[.int .i64 (h : Int)] 3)).cell? ⟨w.heap.size + 1 + 1, 0, none⟩ = some (.int .i64 (h : Int)) := by go_simp
  have sb : (((w.alloc (.cells #[.int .u64 0] 23)).alloc (.cells #[.int .u64 (num seed)] 23)).alloc (.cells #[.int .i64 (h : Int)] 3)).cell? ⟨w.heap.size + 1, 0, none⟩ = some (.int .u64 (num seed)) := by go_simp
  have hB0 := al (al (al (Below.refl _ w) (.cells #[.int .u64 0] 23)) (.cells #[.int .u64 (num seed)] 23)) (.cells #[.int .i64 (h : Int)] 3)
  refine wpIn_rangeV (α := Nat × Nat) (encs := rowE) (len := h + 1) (V := RowV seed h) (stops := True) (T := fun _ => False) (gf := 83) (lb := #[.pointer (some ⟨w.heap.size + 1 + 1, 0, none⟩), .pointer (some ⟨w.heap.size + 1, 0, none⟩)]) rfl (enters_of Tryz.func83 (by kernel_rfl) rfl) (fun _ e => e.elim)
    (levels1_in (5 - 1) (by omega) _ _ seed h _ h6 hb sb) (fun k v A B h hl ht => rowV_loop k v A B h hl ht) (fun _ => rfl) (RoI seed w) (fun _ _ _ _ => False) [w.heap.size] (fun b hb => by simp at hb ⊢; omega) ?hI (fun _ _ _ _ _ h => h.elim) (.inl trivial) ?h0
    (fun v => { tmps := #[.int .u64 (num seed), .int .i64 (h : Int), undef, undef, .int .u64 0, .int .i64 0, .pointer (some ⟨w.heap.size, 0, none⟩), .slice (some ⟨v.1, 0, none⟩) v.2 v.2, .int .i64 (h : Int), .bool true, .bool false, .int .u64 (num seed), .int .i64 (h : Int), .func (.func 83) #[] #[.pointer (some ⟨w.heap.size + 1 + 1, 0, none⟩), .pointer (some ⟨w.heap.size + 1, 0, none⟩)], .slice (some ⟨v.1, 0, none⟩) v.2 v.2, undef, undef, undef, undef], defers := [] }) ?assign ?body ?done ?stop
  case hI =>
    intro k S A B h ht
    exact h.turn ht (by rintro b (h | rfl | rfl) <;> first | exact h.elim | (simp <;> omega))
  case h0 => exact ⟨rfl, hB0, by go_simp; rfl, by go_simp⟩
  case assign =>
    intro x W K hK
    simp only [rowE]
    gi_wp2_with fail
    exact hK
  case body =>
    rintro k S v W hk hz hv ⟨rfl, hB, c0, f0⟩ hS
    clear hb sb hB0
    obtain ⟨r0, r1⟩ := rowV_first hv
    have d1 : decide ((0 : Int) < (v.2 : Int)) = true := by simp; omega
    gi_wp2_with fail
    exact ⟨_, fun b hb => ⟨by have := hS b hb; simpa using this, .inl hb⟩, (Turns.refl _ W).setCell (fun _ => by simp) _, rfl, hB.setCell (p := ⟨w.heap.size, 0, none⟩) (by simp) _, by simp only [Nat.add_sub_cancel, Nat.add_one_ne_zero, if_false]; go_simp, by go_simp⟩
  case done =>
    rintro S W hz ⟨rfl, hB, c0, f0⟩ hK
    clear hb sb hB0
    simp only [Nat.add_sub_cancel, Nat.add_one_ne_zero, if_false] at c0
    have hs0 : w.heap.size < W.heap.size := World.block_lt_of_cell? _ _ c0
    gi_wp2_with fail
    refine ret_mark (.tuple #[.int .u64 (num (Sgn.node seed h 0)), .int .i64 0]) hK (fun W3 ht3 => ?_)
    refine ⟨by simp [results, Tryz.f22, go_sem], rfl, hB.trans (ht3.below (by omega) (fun i hi e => by simp at e; omega))⟩
  case stop =>
    rintro c k S W hk hz h hK
    exact h.elim
end

section
open Go.RowKit

def Blk (W : World) (b o n : Nat) (v : Nat → Value) : Prop := ∀ j, j < n → W.cell? ⟨b, o + j, none⟩ = some (v j) ∧ W.frozen? ⟨b, o + j, none⟩ = false
theorem Blk.congr {W : World} {b o n : Nat} {v u : Nat → Value} (h : Blk W b o n v) (e : ∀ j, j < n → v j = u j) : Blk W b o n u := fun j hj => ⟨by rw [← e j hj]; exact (h j hj).1, (h j hj).2⟩
theorem Blk.later {w w' : World} {b o n : Nat} {v : Nat → Value} (h : Blk w b o n v) (hb : Below w.heap.size w w') : Blk w' b o n v := fun j hj =>
  have hz := World.block_lt_of_cell? _ _ (h j hj).1
  ⟨(hb.cell hz).trans (h j hj).1, (hb.frozen hz).trans (h j hj).2⟩
theorem Blk.sub {W : World} {b o n : Nat} {v : Nat → Value} (h : Blk W b o n v) (i m : Nat) (hm : i + m ≤ n) : Blk W b (o + i) m (fun j => v (i + j)) := fun j hj => by
  have := h (i + j) (by omega)
  rwa [← Nat.add_assoc] at this
theorem Blk.at {W : World} {b n : Nat} {v : Nat → Value} (h : Blk W b 0 n v) (i : Nat) (hi : i < n) : W.cell? ⟨b, i, none⟩ = some (v i) ∧ W.frozen? ⟨b, i, none⟩ = false := by
  have := h i hi
  rwa [Nat.zero_add] at this
theorem Arr.blk {W : World} {b : Nat} {v : Nat → Value} (h : Arr W b v) : Blk W b 0 18 v := fun j hj => by rw [Nat.zero_add]; exact h j hj
theorem Blk.arr {W : World} {b : Nat} {v : Nat → Value} (h : Blk W b 0 18 v) : Arr W b v := fun j hj => h.at j hj
def aggN (n : Nat) (v : Nat → Value) : Value := .agg ((List.range n).map v).toArray
theorem aggN_arr (v : Nat → Value) : aggN 18 v = arrA v := rfl
theorem aggN_congr {n : Nat} {v u : Nat → Value} (e : ∀ j, j < n → v j = u j) : aggN n v = aggN n u := by
  unfold aggN
  congr 2
  exact List.map_congr_left fun j hj => e j (by simpa using hj)
theorem listN_get (n : Nat) (v : Nat → Value) (j : Nat) (h : j < n) : ((List.range n).map v)[j]? = some (v j) := by simp [h]
theorem blk_new (w : World) (n : Nat) (v : Nat → Value) (C : Array Value) (t : TypeId) (h : C = ((List.range n).map v).toArray) : Blk (w.alloc (.cells C t)) w.heap.size 0 n v := by
  subst h
  intro j hj
  rw [Nat.zero_add]
  have e : (w.alloc (.cells ((List.range n).map v).toArray t)).heap[w.heap.size]? = some (.cells ((List.range n).map v).toArray t) := by
    show (w.heap.push _)[w.heap.size]? = _
    simp
  constructor
  · unfold World.cell?
    simp only [e]
    simp [hj]
  · unfold World.frozen?
    simp only [e]
    simp

/-- What a store of n cells at offset o of block b leaves. -/
structure BlkSet (b o n : Nat) (v : Nat → Value) (W W2 : World) : Prop where
  blk : Blk W2 b o n v
  cell : ∀ p : Addr, (p.block = b → p.spot = none → p.off < o ∨ o + n ≤ p.off) → W2.cell? p = W.cell? p
  frozen : ∀ p : Addr, W2.frozen? p = W.frozen? p
  below : ∀ B w0, B ≤ b → Below B w0 W → Below B w0 W2
  turns : ∀ T w0, (b < w0.heap.size → T b) → Turns T w0 W → Turns T w0 W2
  size : W2.heap.size = W.heap.size
theorem BlkSet.other {b o n c q m : Nat} {v u : Nat → Value} {W W2 : World} (h : BlkSet b o n v W W2) (hc : c ≠ b ∨ q + m ≤ o ∨ o + n ≤ q) (ha : Blk W c q m u) : Blk W2 c q m u := fun j hj =>
  ⟨(h.cell ⟨c, q + j, none⟩ (fun e _ => by
    rcases hc with hc | hc | hc
    · exact absurd e hc
    · left; show q + j < o; omega
    · right; show o + n ≤ q + j; omega)).trans (ha j hj).1, (h.frozen _).trans (ha j hj).2⟩

theorem turns_setCells {T : Nat → Prop} {w0 : World} {b : Nat} (hb : b < w0.heap.size → T b) : ∀ (vs : List Value) (o : Nat) (w : World), Turns T w0 w → Turns T w0 (w.setCells b o vs)
  | [], _, _, h => h
  | v :: r, o, _w, h => turns_setCells hb r (o + 1) _ (h.setCell (p := ⟨b, o, none⟩) hb v)

section
variable {P : Program}
theorem run_loadN {W : World} {b o n : Nat} {v : Nat → Value} (h : Blk W b o n v) {t : TypeId} {d : TypeDesc} (hu : P.underlying t = some d) (hd : (match d with | .struct _ | .array _ _ => true | _ => false) = true) (hi : (P.info? t).map (·.size) = some n) : (loadVar t ⟨b, o, none⟩).run P W = .ok (aggN n v) W := by
  have hl := run_loadCells_list (P := P) W ⟨b, o, none⟩ ((List.range n).map v) (fun j u hj => by
    have hjn : j < n := by
      rcases Nat.lt_or_ge j n with h | h
      · exact h
      · rw [List.getElem?_eq_none (by simpa using h)] at hj; cases hj
    rw [listN_get n v j hjn] at hj
    have hadd : (⟨b, o, none⟩ : Addr).add j = ⟨b, o + j, none⟩ := by unfold Addr.add; split <;> simp_all
    rw [hadd, (h j hjn).1]; exact hj)
  rw [show ((List.range n).map v).length = n by simp] at hl
  cases hq : P.info? t with
  | none => simp [hq] at hi
  | some i =>
    have hs : i.size = n := by simp [hq] at hi; exact hi
    cases d <;> simp at hd <;> simp [loadVar, isAgg, run_underlying hu, sizeOf, typeInfo, hq, hs, hl, aggN]
theorem run_storeN {W : World} {b o n : Nat} {v u : Nat → Value} (h : Blk W b o n u) (h1 : ∀ j, j < n → (v j).oneCell' = true) {t : TypeId} (hi : (P.info? t).map (·.size) = some n) : ∃ W2, (storeVar t ⟨b, o, none⟩ (aggN n v)).run P W = .ok () W2 ∧ BlkSet b o n v W W2 := by
  have hlen : ((List.range n).map v).length = n := by simp
  have hst := run_storeCells_cells (P := P) b o ((List.range n).map v) 0 W (fun j hj => by rw [hlen] at hj; rw [Nat.add_zero, (h j hj).1]; rfl) (fun j hj => by rw [hlen] at hj; rw [Nat.add_zero]; exact (h j hj).2) (fun x hx => by
    obtain ⟨j, hj, rfl⟩ := List.mem_map.1 hx
    exact h1 j (by simpa using hj))
  rw [Nat.add_zero] at hst
  refine ⟨W.setCells b o ((List.range n).map v), ?_, ⟨fun j hj => ⟨?_, by rw [World.frozen?_setCells]; exact (h j hj).2⟩, fun p hp => World.cell?_setCells_out b _ _ W p (by rw [hlen]; exact hp), fun p => World.frozen?_setCells b _ _ W p, fun B w0 hb hB => below_setCells hb _ _ W hB, fun T w0 hb ht => turns_setCells hb _ _ W ht, size_setCells b _ _ W⟩⟩
  · cases hq : P.info? t with
    | none => simp [hq] at hi
    | some i =>
      have hs : i.size = n := by simp [hq] at hi; exact hi
      simp [storeVar, sizeOf, typeInfo, hq, hs, aggN, Value.cells]
      exact hst
  · have := World.cell?_setCells_in b ((List.range n).map v) o W (fun i hi => by rw [hlen] at hi; rw [(h i hi).1]; rfl) j (by rw [hlen]; exact hj)
    rw [this]
    simp

variable {ops : Array Oper} {rest : List Oper} {o : Oper} {a : Act} {w : World} {Q : Exit → Act → World → Prop}
theorem wpList_loadN (hg : o.guard = none) (t : TypeId) (p : Operand) (ho : o.op = .load t p) {b q : Nat} (hp : a.eval p = .pointer (some ⟨b, q, none⟩)) {v : Value} (hrun : (loadVar t ⟨b, q, none⟩).run P w = .ok v w)
    (h : wpList P ops Q rest (a.put o.dst v) w) : wpList P ops Q (o :: rest) a w :=
  wpList_plain hg fun _ hK => by
    unfold Oper.wp
    simp [execOp, ho, hp, Instr.loadAt, Instr.sureAddr, hrun, Result.andThen]
    exact hK _ _ h
theorem wpList_storeN (hg : o.guard = none) (hd : o.dst = none) (t : TypeId) (p x : Operand) (ho : o.op = .store t p x) {b q : Nat} (hp : a.eval p = .pointer (some ⟨b, q, none⟩)) {w2 : World} (hrun : (storeVar t ⟨b, q, none⟩ (a.eval x)).run P w = .ok () w2)
    (h : wpList P ops Q rest a w2) : wpList P ops Q (o :: rest) a w :=
  wpList_plain hg fun K hK => by
    unfold Oper.wp
    simp [execOp, ho, hp, Instr.storeAt, Instr.sureAddr, hrun, Result.andThen]
    have e : a.put o.dst undef = a := by rw [hd]; rfl
    show K (a.put o.dst undef) w2
    rw [e]
    exact hK _ _ h
end
end

section
open Go.RowKit

theorem wp_tail {P : Program} {id : Nat} {Q : Exit → Act → World → Prop} {a : Act} {w : World} {l : List Oper} (n : Nat) (F : World → Prop) (hm : P.follows .mixedOrders = true) (hB : Region.lexTailB .any l.toArray n = true) (hF : F w.drew)
    (h : ∀ W, F W → wpStill P l.toArray W (fun a' => wpList P l.toArray Q (l.drop n) a' W) (l.take n) a) : (Code.region id l.toArray true).wp P Q a w := wp_region_still_tail n hm hB (h _ hF)
end

section
open Go.RowKit

section
variable {P : Program} {ops : Array Oper} {Q : Exit → Act → World → Prop} {md : Region.Mode} {l n : Nat}

theorem op_in {o : Oper} {a : Act} {w : World} {K : Act → World → Prop} (hd : ∀ c, o.op ≠ .defer c) (h : o.wp P a w K Q) : o.wpIn (Fence.wide.inRound l) n P a w K Q := by
  refine ⟨fun f _ => trivial, ?_⟩
  show o.uponIn (Fence.wide.inRound l) n P a K Q ((Oper.semAt (some l) a.eval o).run P w)
  rw [Oper.semAt_some l _ o hd]
  unfold Oper.wp at h
  revert h
  generalize (execOp a.eval o).run P w = r
  intro h
  cases r with
  | ok x w' =>
    cases x <;> first
      | exact h
      | exact ⟨fun e => by simp [Fence.wide] at e, CallsIn.inRound _ (callsIn_wide.2 h)⟩
      | exact ⟨fun e => by simp [Fence.wide] at e, fun c cs _ => by obtain ⟨v, w2, hr, hs⟩ := h c cs; exact ⟨v, w2, hr, stepsIn_wide.2 hs⟩⟩
      | exact h.elim
  | halt x w' => cases x <;> first | exact h | exact h.elim

def noDefer (ops : Array Oper) : Bool := ops.all fun o => match o.op with | .defer _ => false | _ => true
theorem noDefer_of {i : Nat} {o : Oper} (h : noDefer ops = true) (ho : ops[i]? = some o) : ∀ c, o.op ≠ .defer c := fun c e => by
  have hm := Array.all_eq_true'.1 h o (Array.mem_of_getElem? ho)
  rw [e] at hm
  cases hm

theorem any_in (hd : noDefer ops = true) (hlo : ¬ LetsOut Q) : ∀ (fuel : Nat) (listed : Array Bool) (a : Act) (w : World), wpAny P md ops Q fuel listed a w → wpAnyIn (Fence.wide.inRound l) n P md ops Q fuel listed a w
  | 0, _, _, _, h => h
  | fuel + 1, listed, a, w, h => by
    refine ⟨h.1, fun i hi => ?_⟩
    have h2 := h.2 i hi
    unfold wpOp at h2
    unfold wpOpIn
    cases ho : ops[i]? with
    | none => rw [ho] at h2; exact any_in hd hlo fuel _ _ _ h2
    | some o =>
      rw [ho] at h2
      simp only at h2 ⊢
      split
      · rename_i hw
        rw [if_pos hw] at h2
        exact op_in (noDefer_of hd ho) (Oper.wp_mono (fun a' w' h' => any_in hd hlo fuel _ _ _ h') (h2.resolve_right fun h' => hlo h'.2))
      · rename_i hw
        rw [if_neg hw] at h2
        exact ⟨fun f _ => trivial, any_in hd hlo fuel _ _ _ h2⟩

/-- A schedule, in a round. -/
theorem wpIn_region_schedB {B : Nat} {id : Nat} {a : Act} {w : World} (F : World → Prop) (s : Sched) (hm : P.follows .mixedOrders = true)
    (hok : (Region.noSelect ops && noDefer ops && okSched .any ops s (Array.replicate ops.size false) && decide (lenSched s = ops.size)) = true) (hlo : ¬ LetsOut Q)
    (hQ0 : ∀ c (a : Act) t v w, Q (.panic c) (Act.mk (a.tmps.setIfInBounds t v) a.defers) w → Q (.panic c) a w) (hF : F w.drew)
    (h : ∀ W, F W → wpSchedB B P ops Q s a W) : (Code.region id ops true).wpIn (Fence.wide.inRound l) n P Q a w := by
  have hQ : ∀ c a d v w, Q (.panic c) (Act.put a d v) w → Q (.panic c) a w := fun c a d v w hq => by
    cases d with
    | none => exact hq
    | some t => exact hQ0 c a t v w hq
  simp only [Bool.and_eq_true, decide_eq_true_eq] at hok
  refine wpIn_region_any hm (any_in hok.1.1.2 hlo _ _ _ _ ?_)
  have := wpAnyH_of_schedB hok.1.1.1 hQ s _ a w.drew hok.1.2 (h _ hF)
  rw [hok.2] at this
  exact wpAny_of_held (S := fun x => Below B w.drew x) _ _ _ _ this

/-- Reads, then a few operations in one forced order, in a round. -/
theorem wpIn_tail {id : Nat} {a : Act} {w : World} {ops : List Oper} (k : Nat) (F : World → Prop) (hm : P.follows .mixedOrders = true) (hB : (Region.lexTailB .any ops.toArray k && noDefer ops.toArray) = true) (hlo : ¬ LetsOut Q) (hF : F w.drew)
    (h : ∀ W, F W → wpStill P ops.toArray W (fun a' => wpList P ops.toArray Q (ops.drop k) a' W) (ops.take k) a) : (Code.region id ops.toArray true).wpIn (Fence.wide.inRound l) n P Q a w := by
  simp only [Bool.and_eq_true] at hB
  obtain ⟨hL, hd⟩ := hB
  simp only [Region.lexTailB, Bool.and_eq_true, decide_eq_true_eq] at hL
  obtain ⟨⟨⟨⟨e1, e2⟩, e3⟩, e4⟩, e5⟩ := hL
  have hk : k < ops.length := by simpa using e2
  have n1 : (ops.take k).length = k := by rw [List.length_take]; omega
  have n2 : (ops.drop k).length = ops.toArray.size - k := by simp
  have start : HeadInv .any ops.toArray k (Array.replicate ops.toArray.size false) :=
    { size := by simp, closed := fun j _ _ hl => (by rw [getD_replicate_false] at hl; cases hl), tail := fun t _ ht => getD_in (by simpa using ht) (getD_replicate_false _ _) }
  have head := wpAnyL_lex (P := P) (md := .any) (g := ops.toArray.size - k) e1 e3 e4 e2 (ops.take k) 0 _ a (fun j hj => by rw [n1] at hj; simp [hj]) (by rw [n1]; omega) start (by rw [n1]; exact e5) (h _ hF)
  have whole := wpAny_of_head (Q' := Q) (g := ops.toArray.size - k) (fun listed a' hL => by
    have := wpAny_of_seq (md := .any) (Q' := Q) (ops.drop k) k listed a' w.drew (fun j => by simp [List.getElem?_drop]) (by rw [n2]; exact hL.1) hL.2
    rwa [n2] at this) _ _ _ head
  rw [n1, show k + (ops.toArray.size - k) = ops.toArray.size by omega] at whole
  exact wpIn_region_any hm (any_in hd hlo _ _ _ _ whole)

end
end

section
open Go.RowKit

attribute [local go_sem] Oper.semAt_some
set_option maxHeartbeats 1000000 in
theorem sign1_any (d seed : D64) (q : Int) (i b1 b2 b3 : Nat) (w : World) (hi : i < 18) (h1 : Arr w b1 (digV d)) (c2 : w.cell? ⟨b2, 0, none⟩ = some (.int .u64 (num seed))) (c3 : w.cell? ⟨b3, 0, none⟩ = some (.int .i64 q)) :
    Calls Tryz.prog 85 #[.int .i64 (i : Int), .pointer (some ⟨b1, 0, none⟩), .pointer (some ⟨b2, 0, none⟩), .pointer (some ⟨b3, 0, none⟩)] w (NumOf (Sgn.val seed (u8z q) (u8z (q / 256)) i (Sgn.dig d i)) w) := by
  have c1 := (h1 i hi).1
  unfold digV at c1
  have hx15 := Sgn.dig_le d i
  have HV0 : Hid (Sgn.adv (UInt8.ofNat i) 0 (Sgn.dig d i) (Sgn.sec seed (u8z q) (u8z (q / 256)) (UInt8.ofNat i)) = Sgn.val seed (u8z q) (u8z (q / 256)) i (Sgn.dig d i)) := rfl
  obtain ⟨z, hz⟩ : ∃ z, Sgn.val seed (u8z q) (u8z (q / 256)) i (Sgn.dig d i) = z := ⟨_, rfl⟩
  rw [hz] at HV0 ⊢
  obtain ⟨x, hx⟩ : ∃ x, Sgn.dig d i = x := ⟨_, rfl⟩
  obtain ⟨y, hy⟩ : ∃ y, Sgn.sec seed (u8z q) (u8z (q / 256)) (UInt8.ofNat i) = y := ⟨_, rfl⟩
  rw [hx] at c1 hx15 HV0
  rw [hy] at HV0
  have HV : Hid (Sgn.adv (UInt8.ofNat i) 0 x y = z) := HV0
  have HS := Lib.hid hy
  have hi18 : decide ((i : Int) < 18) = true := by simp; omega
  clear hz hx hy HV0 h1
  have hB := Below.refl w.heap.size w
  go_enter Tryz.func85, Tryz.ntmps85
  go_wp2_with fail
  refine wp_region_sched (fun W => W.cell? ⟨b1, i, none⟩ = some (.int .i64 (x : Int)) ∧ W.cell? ⟨b2, 0, none⟩ = some (.int .u64 (num seed)) ∧ W.cell? ⟨b3, 0, none⟩ = some (.int .i64 q) ∧ Below w.heap.size w W) (.one [0, 1, 2, 3, 4, 5, 6] 7 (.one [] 8 (.done [9]))) (by kernel_rfl) (by kernel_rfl) (fun _ _ _ _ _ h => h) ⟨(by go_simp), (by go_simp), (by go_simp), hB.drew⟩ ?_
  clear hB c1 c2 c3
  rintro W ⟨g1_0, g1_1, g1_2, hB⟩
  rw [wpSched]
  simp only [pick, List.map_cons, List.map_nil, Array.getD_eq_getD_getElem?, List.getElem?_toArray, List.getElem?_cons_succ, List.getElem?_cons_zero, Option.getD_some]
  have kg1_0 := plusW_cell g1_0
  have kg1_1 := plusW_cell g1_1
  have kg1_2 := plusW_cell g1_2
  repeat (first | go_big_quiet_step (fail) | quiet_step (fail))
  refine wpQuiet_nil ?_
  clear kg1_0 kg1_1 kg1_2
  refine heavy_want (by rfl) (fun K' hK' => ?_)
  go_simp
  refine (secret_any seed q (i : Int) _).mono ?_
  rintro e W1 ⟨rfl, hb⟩
  refine hK' _ _ hb ?_
  clear hK' K'
  rw [u8z_nat, HS.out]
  have hq := thru (Below.refl _ W) hb
  clear hb
  have g2_0 := later hq g1_0
  have g2_1 := later hq g1_1
  have g2_2 := later hq g1_2
  replace hB := thru hB hq
  clear hq g1_0 g1_1 g1_2
  try simp only [Act.put, List.setIfInBounds_toArray, List.set_cons_zero, List.set_cons_succ]
  rw [wpSched]
  simp only [pick, List.map_nil, Array.getD_eq_getD_getElem?, List.getElem?_toArray, List.getElem?_cons_succ, List.getElem?_cons_zero, Option.getD_some]
  refine wpQuiet_nil ?_
  refine heavy_want (by rfl) (fun K' hK' => ?_)
  go_simp
  refine (advance_any i 0 x y _ (by omega) (by omega)).mono ?_
  rintro e W2 ⟨rfl, hb⟩
  refine hK' _ _ hb ?_
  clear hK' K'
  rw [Nat.sub_zero, HV.out]
  have hq := thru (Below.refl _ W1) hb
  clear hb
  have g3_0 := later hq g2_0
  have g3_1 := later hq g2_1
  have g3_2 := later hq g2_2
  replace hB := thru hB hq
  clear hq g2_0 g2_1 g2_2
  try simp only [Act.put, List.setIfInBounds_toArray, List.set_cons_zero, List.set_cons_succ]
  rw [wpSched]
  simp only [pick, List.map_cons, List.map_nil, Array.getD_eq_getD_getElem?, List.getElem?_toArray, List.getElem?_cons_succ, List.getElem?_cons_zero, Option.getD_some]
  repeat (first | go_big_quiet_step (fail) | quiet_step (fail))
  refine wpQuiet_nil ?_
  go_wp2_with fail
  go_ret
  exact ⟨rfl, hB⟩

/-- The cells of a signature. -/
def sigV (key : Int) (f : Nat → D64) (x : Option Addr) (n c : Nat) (j : Nat) : Value := if j = 0 then .int .i64 key else if j < 19 then .int .u64 (num (f (j - 1))) else .slice x n c
theorem sig_one (key : Int) (f : Nat → D64) (x : Option Addr) (n c j : Nat) : (sigV key f x n c j).oneCell' = true := by
  unfold sigV
  split
  · rfl
  · split <;> rfl
theorem sig_struct : (match Tryz.prog.underlying 27 with | some (.struct _) => true | _ => false) = true := by kernel_rfl
theorem sig_size : (Tryz.prog.info? 27).map (·.size) = some 20 := by kernel_rfl
theorem run_loadS {W : World} {b : Nat} {v : Nat → Value} (h : Blk W b 0 20 v) : (loadVar 27 ⟨b, 0, none⟩).run Tryz.prog W = .ok (aggN 20 v) W := by
  have hs := sig_struct
  cases hq : Tryz.prog.underlying 27 with
  | none => rw [hq] at hs; cases hs
  | some d =>
    rw [hq] at hs
    exact run_loadN h hq (by cases d <;> first | rfl | (simp at hs)) sig_size
theorem run_storeS {W : World} {b : Nat} {u : Nat → Value} (h : Blk W b 0 20 u) (key : Int) (f : Nat → D64) (x : Option Addr) (n c : Nat) : ∃ W2, (storeVar 27 ⟨b, 0, none⟩ (aggN 20 (sigV key f x n c))).run Tryz.prog W = .ok () W2 ∧ BlkSet b 0 20 (sigV key f x n c) W W2 :=
  run_storeN h (fun j _ => sig_one _ _ _ _ _ j) sig_size
def zeroS : Nat → Value := sigV 0 (fun _ => 0#64) none 0 0
end

section
open Go.RowKit

section
variable {P : Program} {n : Nat} {ops : Array Oper} {rest : List Oper} {o : Oper} {a : Act} {w : World} {Q : Exit → Act → World → Prop}
theorem wpListIn_loadN (hg : o.guard = none) (t : TypeId) (p : Operand) (ho : o.op = .load t p) {b q : Nat} (hp : a.eval p = .pointer (some ⟨b, q, none⟩)) {v : Value} (hrun : (loadVar t ⟨b, q, none⟩).run P w = .ok v w)
    (h : wpListIn Fence.wide n P ops Q rest (a.put o.dst v) w) : wpListIn Fence.wide n P ops Q (o :: rest) a w :=
  wpListIn_plain hg fun K hK => by
    refine ⟨fun _ _ => trivial, ?_⟩
    show o.uponIn Fence.wide n P a K Q ((Oper.semAt none a.eval o).run P w)
    rw [Oper.semAt_none]
    have e : (execOp a.eval o).run P w = .ok (.value v) w := by simp [execOp, ho, hp, Instr.loadAt, Instr.sureAddr, hrun, Result.andThen]
    rw [e]
    exact hK _ _ h
theorem wpListIn_storeN (hg : o.guard = none) (hd : o.dst = none) (t : TypeId) (p x : Operand) (ho : o.op = .store t p x) {b q : Nat} (hp : a.eval p = .pointer (some ⟨b, q, none⟩)) {w2 : World} (hrun : (storeVar t ⟨b, q, none⟩ (a.eval x)).run P w = .ok () w2)
    (h : wpListIn Fence.wide n P ops Q rest a w2) : wpListIn Fence.wide n P ops Q (o :: rest) a w :=
  wpListIn_plain hg fun K hK => by
    refine ⟨fun _ _ => trivial, ?_⟩
    show o.uponIn Fence.wide n P a K Q ((Oper.semAt none a.eval o).run P w)
    rw [Oper.semAt_none]
    have e : (execOp a.eval o).run P w = .ok .skip w2 := by simp [execOp, ho, hp, Instr.storeAt, Instr.sureAddr, hrun, Result.andThen]
    rw [e]
    have e2 : a.put o.dst undef = a := by rw [hd]; rfl
    show K (a.put o.dst undef) w2
    rw [e2]
    exact hK _ _ h
end
end

section
open Go.RowKit

/-- The block of a row, as a list. -/
def rowS : Option Addr → List Nat
  | some a => [a.block]
  | none => []
theorem rowS_of {x : Option Addr} {b : Nat} (h : b ∈ rowS x) : RowOf x b := by
  cases x with
  | none => simp [rowS] at h
  | some a => simp [rowS] at h; subst h; rfl

section
variable {P : Program} (w : World)
theorem owns_grown (B : Nat) (e : TypeId) (xs news : List Value) (n m old : Nat) (z : Value) (hz : z.cells.size = 1) (hx : xs.length = n) (hn : news.length = m) (hB : B ≤ w.heap.size) (hm : n + m ≤ maxLen) :
    (w.drew.alloc (.cells (xs.toArray ++ news.toArray ++ Builtin.zeroCells z.cells (grownCap w (n + m) old e - (n + m))) e)).ownsRow B e 1 (.slice (some ⟨w.heap.size, 0, none⟩) (n + m) (grownCap w (n + m) old e)) (n + m) (xs ++ news) := by
  have hge := grownCap_ge w (n + m) old e
  have hcm := grownCap_le_maxLen w (n + m) old e hm
  refine ⟨by simp [hx, hn], .inr ⟨w.heap.size, _, _, rfl, hB, heap_alloc_new w.drew _, hge, hcm, ?_, ?_⟩⟩
  · simp only [Array.size_append, List.size_toArray, size_zeroCells, hz, hx, hn]
    omega
  · simp only [Array.toList_append, List.append_assoc, Nat.mul_one]
    rw [← List.append_assoc, ← show (xs ++ news).length = n + m by simp [hx, hn]]
    exact List.take_left
end

section
variable {w : World} {o : Oper} {a : Act} {Q : Exit → Act → World → Prop}
theorem wp_appWX {K : Act → World → Prop} (s x : Operand) (ho : o.op = .call { callee := .builtin .append, args := #[s, x], argTypes := #[25, 25] })
    {B : Nat} {xa : Option Addr} {cap : Nat} {l : List D64} (hown : OwnsW B w xa cap l) (hs : a.eval s = .slice xa l.length cap)
    {ad : Addr} {u : D64} {c : Nat} (hx : a.eval x = .slice (some ad) 1 c) (hy : w.cell? (ad.add 0) = some (.int .u64 (num u))) (hl : l.length ≤ 100000) (hB : B ≤ w.heap.size)
    (h : ∀ x' cap' w', OwnsW B w' x' cap' (l ++ [u]) → Below B w w' → Turns (RowOf xa) w w' → (∀ b, RowOf x' b → RowOf xa b ∨ w.heap.size ≤ b) → K (a.put o.dst (.slice x' (l ++ [u]).length cap')) w') : o.wp Tryz.prog a w K Q := by
  obtain ⟨i0, hi, hz0, hz1, hz2⟩ := info_parts infoWord
  have hnews : ∀ j v, ([encW u] : List Value)[j]? = some v → w.cell? (ad.add j) = some v := fun j v hj => by
    match j, hj with
    | 0, hj => simp at hj; subst hj; exact hy
    | j + 1, hj => simp at hj
  have hmax : l.length + 1 ≤ maxLen := by unfold maxLen; omega
  have hlen : (l ++ [u]).length = l.length + 1 := by simp
  have grown : ∀ old, OwnsW B (w.drew.alloc (.cells ((l.map encW).toArray ++ [encW u].toArray ++ Builtin.zeroCells (Value.int .u64 0).cells (grownCap w (l.length + 1) old 23 - (l.length + 1))) 23)) (some ⟨w.heap.size, 0, none⟩) (grownCap w (l.length + 1) old 23) (l ++ [u]) := fun old => by
    have := owns_grown w B 23 (l.map encW) [encW u] l.length 1 old (.int .u64 0) rfl (by simp) rfl hB hmax
    unfold OwnsW
    rw [hlen, List.map_append]
    exact this
  have hbel : ∀ ob : Obj, Below B w (w.drew.alloc ob) := fun ob => ((Below.refl _ w).drew).alloc hB ob
  have htur : ∀ (T : Nat → Prop) (ob : Obj), Turns T w (w.drew.alloc ob) := fun T ob => ((Turns.refl T w).drew).alloc ob
  have hnew : ∀ b, RowOf (some ⟨w.heap.size, 0, none⟩) b → RowOf xa b ∨ w.heap.size ≤ b := fun b hb => by cases hb; exact .inr (Nat.le_refl _)
  rcases hown.2 with ⟨hv, h0⟩ | ⟨g, cap', cur, hv, hlo, hg, hnc, hcm, hcs, htk⟩
  · simp only [Value.slice.injEq] at hv
    obtain ⟨rfl, hl0, rfl⟩ := hv
    have hl : l = [] := List.eq_nil_of_length_eq_zero hl0
    subst hl
    have hrun := run_append_nil (P := Tryz.prog) w 25 o.type 23 i0 (.int .u64 0) Tryz.underlying25 hi hz0 ad 1 c [encW u] (by simp [hz1]) hnews (by omega) (by omega) (by rw [hz2]; omega)
    have hk := h _ _ _ (grown 0) (hbel _) (htur _ _) hnew
    simp only [List.map_nil, List.length_nil, Nat.zero_add, List.nil_append, Array.empty_append, List.length_cons] at hk hs
    unfold Oper.wp
    simp [execOp, ho, resolve, invoke, builtin, hs, hx, hrun, Result.andThen]
    first | exact hk | (simp at hk; exact hk)
  · simp only [Value.slice.injEq] at hv
    obtain ⟨rfl, _, rfl⟩ := hv
    by_cases hroom : l.length + 1 ≤ cap
    · have hrun := run_append_room (P := Tryz.prog) w 25 o.type 23 i0 Tryz.underlying25 hi g l.length cap cur hg ad 1 c [encW u] (by simp [hz1]) hnews (by intro v hv; simp at hv; subst hv; rfl) hroom (by rw [hz1]; simp; omega)
      have ho2 : OwnsW B (w.setRow g (cur.toList.take (l.length * i0.size) ++ [encW u] ++ cur.toList.drop (l.length * i0.size + [encW u].length)).toArray) (some ⟨g, 0, none⟩) cap (l ++ [u]) := by
        refine ⟨by simp, .inr ⟨g, cap, _, by rw [hlen], hlo, setRow_heap w g cur _ _ _ hg, by rw [hlen]; exact hroom, hcm, ?_, ?_⟩⟩
        · simp [hz1]; omega
        · rw [hz1, Nat.mul_one, hlen, Nat.mul_one, List.map_append]
          have e : List.take l.length cur.toList = l.map encW := by simpa using htk
          rw [e]
          have e2 : (List.map encW l ++ [encW u]).length = l.length + 1 := by simp
          show List.take (l.length + 1) (List.map encW l ++ [encW u] ++ _) = List.map encW l ++ [encW u]
          rw [← e2]
          exact List.take_left
      have hsr : Turns (RowOf (some ⟨g, 0, none⟩)) w (w.setRow g (cur.toList.take (l.length * i0.size) ++ [encW u] ++ cur.toList.drop (l.length * i0.size + [encW u].length)).toArray) := ⟨rfl, rfl, rfl, by simp, fun k _ hk => setRow_other w g k _ (fun e => hk (by subst e; rfl))⟩
      have hk := h _ _ _ ho2 (hsr.below hB (fun i hi hr => by have e : g = i := Option.some.inj hr; omega)) hsr (fun b hb => .inl hb)
      rw [hlen] at hk
      unfold Oper.wp
      simp [execOp, ho, resolve, invoke, builtin, hs, hx, hrun, Result.andThen]
      first | exact hk | (simp at hk; exact hk)
    · have hrun := run_append_grow (P := Tryz.prog) w 25 o.type 23 i0 (.int .u64 0) Tryz.underlying25 hi hz0 ⟨g, 0, none⟩ l.length cap (l.map encW) (by simp [hz1]) (fun j v hj => World.ownsRow.cells hown (g := g) rfl j v hj) ad 1 c [encW u] (by simp [hz1]) hnews (by omega) (by omega) (by rw [hz2]; exact growslice_fits (by omega) (by omega))
      have hk := h _ _ _ (grown cap) (hbel _) (htur _ _) hnew
      rw [hlen] at hk
      unfold Oper.wp
      simp [execOp, ho, resolve, invoke, builtin, hs, hx, hrun, Result.andThen]
      first | exact hk | (simp at hk; exact hk)
theorem wpList_appWX {ops : Array Oper} {rest : List Oper} (hg : o.guard = none) (s x : Operand) (ho : o.op = .call { callee := .builtin .append, args := #[s, x], argTypes := #[25, 25] })
    {B : Nat} {xa : Option Addr} {cap : Nat} {l : List D64} (hown : OwnsW B w xa cap l) (hs : a.eval s = .slice xa l.length cap)
    {ad : Addr} {u : D64} {c : Nat} (hx : a.eval x = .slice (some ad) 1 c) (hy : w.cell? (ad.add 0) = some (.int .u64 (num u))) (hl : l.length ≤ 100000) {lm : List D64} (hlm : l ++ [u] = lm) (hB : B ≤ w.heap.size)
    (h : ∀ x' cap' w', OwnsW B w' x' cap' lm → Below B w w' → Turns (RowOf xa) w w' → (∀ b, RowOf x' b → RowOf xa b ∨ w.heap.size ≤ b) → wpList Tryz.prog ops Q rest (a.put o.dst (.slice x' lm.length cap')) w') : wpList Tryz.prog ops Q (o :: rest) a w := by
  subst hlm
  exact wpList_plain hg fun _ hK => wp_appWX s x ho hown hs hx hy hl hB fun x' cap' w' h1 h2 h3 h4 => hK _ _ (h x' cap' w' h1 h2 h3 h4)
end
end

section
open Go.RowKit

attribute [local go_sem] Oper.semAt_some
theorem blk_zero (w : World) : Blk (w.alloc (.cells #[.int .i64 0, .int .u64 0, .int .u64 0, .int .u64 0, .int .u64 0, .int .u64 0, .int .u64 0, .int .u64 0, .int .u64 0, .int .u64 0, .int .u64 0, .int .u64 0, .int .u64 0, .int .u64 0, .int .u64 0, .int .u64 0, .int .u64 0, .int .u64 0, .int .u64 0, .slice none 0 0] 27)) w.heap.size 0 20 zeroS := blk_new w 20 zeroS _ _ rfl
set_option maxHeartbeats 1000000 in
theorem sign_bad (seed : D64) (h q : Int) (d : D64) (hn : vldG h q = false) (w : World) : Calls Tryz.prog 54 #[.int .u64 (num seed), .int .i64 h, .int .i64 q, .int .u64 (num d)] w fun e w' => e = .returned (.tuple #[aggN 20 zeroS, .int .i64 2]) ∧ Below w.heap.size w w' := by
  have hb0 : Blk (((w.alloc (.cells #[.int .u64 (num seed)] 23)).alloc (.cells #[.int .i64 q] 3)).alloc (.cells #[.int .i64 0, .int .u64 0, .int .u64 0, .int .u64 0, .int .u64 0, .int .u64 0, .int .u64 0, .int .u64 0, .int .u64 0, .int .u64 0, .int .u64 0, .int .u64 0, .int .u64 0, .int .u64 0, .int .u64 0, .int .u64 0, .int .u64 0, .int .u64 0, .int .u64 0, .slice none 0 0] 27)) (w.heap.size + 1 + 1) 0 20 zeroS := by
    have := blk_zero ((w.alloc (.cells #[.int .u64 (num seed)] 23)).alloc (.cells #[.int .i64 q] 3))
    rwa [World.size_alloc, World.size_alloc] at this
  have hB := al (al (al (Below.refl _ w) (.cells #[.int .u64 (num seed)] 23)) (.cells #[.int .i64 q] 3)) (.cells #[.int .i64 0, .int .u64 0, .int .u64 0, .int .u64 0, .int .u64 0, .int .u64 0, .int .u64 0, .int .u64 0, .int .u64 0, .int .u64 0, .int .u64 0, .int .u64 0, .int .u64 0, .int .u64 0, .int .u64 0, .int .u64 0, .int .u64 0, .int .u64 0, .int .u64 0, .slice none 0 0] 27)
  obtain ⟨W4, hs1, hset⟩ := run_storeS hb0 0 (fun _ => 0#64) none 0 0
  have hl := run_loadS hset.blk
  have hB4 := hset.below _ _ (by omega) hB
  clear hb0 hB hset
  refine (callsIn_wide (n := 5)).1 ?_
  refine callsIn_of_wp_marks Tryz.func54 rfl trivial ?_ rfl
  simp only [Tryz.ntmps54, List.size_toArray, List.length_cons, List.length_nil, Nat.reduceAdd, Nat.reduceSub, Array.replicate_succ, Array.replicate_zero, List.push_toArray, List.append_toArray, List.nil_append, List.cons_append]
  gi_wp2_with (first | (refine ⟨trivial, ?_⟩; gi_at_call 52; refine (callsIn_wide.2 (valid_no h q hn _)).mono ?_; rintro e w1 ⟨rfl, rfl⟩) | (refine wpListIn_storeN rfl rfl _ _ _ rfl (b := w.heap.size + 1 + 1) (q := 0) rfl hs1 ?_))
  refine ret_plain (.tuple #[aggN 20 zeroS, .int .i64 2]) ?_ ⟨rfl, hB4⟩
  rw [results_cell_tmp rfl]
  simp [asAddr, Result.andThen]
  rw [hl]
  rfl

theorem Blk.turn {A B : World} {b o n : Nat} {v : Nat → Value} {T : Nat → Prop} (h : Blk A b o n v) (ht : Turns T A B) (hb : ¬ T b) : Blk B b o n v := fun j hj =>
  ⟨ht.cell (p := ⟨b, o + j, none⟩) hb (h j hj).1, ht.frozen (p := ⟨b, o + j, none⟩) hb (World.block_lt_of_cell? _ _ (h j hj).1) (h j hj).2⟩
theorem rowV_cell {seed : D64} {h k : Nat} {v : Nat × Nat} {W : World} (hv : RowV seed h k v W) (i : Nat) (hi : i < 2 ^ (h - k)) : W.cell? ⟨v.1, i, none⟩ = some (.int .u64 (num (Sgn.node seed k i))) := by
  obtain ⟨h1, h2⟩ := hv
  rcases h2 with h2 | ⟨b, o, hx, hc⟩
  · have := Sgn.row_length seed h k
    rw [h2] at this
    simp at this
    omega
  · cases hx
    have := hc i (by rw [Sgn.row_length]; exact hi)
    rw [Sgn.row_getD _ _ _ _ hi, Nat.zero_add] at this
    exact this
theorem sib_lt (q M : Nat) (h : q < 2 * M) : Sgn.sib q < 2 * M := by unfold Sgn.sib; split <;> omega
theorem sib_xor : ∀ m : Fin 64, bits .xor .i64 (m.1 : Int) 1 = ((Sgn.sib m.1 : Nat) : Int) := by decide +kernel
theorem path_take (seed : D64) (h q k : Nat) (hk : k < h) : (Sgn.path seed h q).take k ++ [Sgn.node seed k (Sgn.sib (q / 2 ^ k))] = (Sgn.path seed h q).take (k + 1) := by
  have hl : k < (Sgn.path seed h q).length := by rw [Sgn.path_length]; exact hk
  have e : (Sgn.path seed h q)[k]? = some (Sgn.node seed k (Sgn.sib (q / 2 ^ k))) := by
    unfold Sgn.path
    rw [List.getElem?_map, List.getElem?_range hk]
    rfl
  rw [List.getElem?_eq_getElem hl] at e
  rw [List.take_succ_eq_append_getElem hl, Option.some.inj e]
theorem Blk.low {A B : World} {b o n C : Nat} {v : Nat → Value} (h : Blk A b o n v) (hb : Below C A B) (hlt : b < C) : Blk B b o n v := fun j hj =>
  ⟨(hb.cell (p := ⟨b, o + j, none⟩) hlt).trans (h j hj).1, (hb.frozen (p := ⟨b, o + j, none⟩) hlt).trans (h j hj).2⟩
theorem Blk.other {W : World} {b o n : Nat} {v : Nat → Value} (h : Blk W b o n v) {p : Addr} (hp : p.block ≠ b) (u : Value) : Blk (W.setCell p u) b o n v := fun j hj =>
  ⟨by rw [World.cell?_setCell_other _ _ _ _ (by intro e; subst e; exact hp rfl)]; exact (h j hj).1, by rw [World.frozen?_setCell]; exact (h j hj).2⟩
theorem rowS_mem {x : Option Addr} {b : Nat} (h : RowOf x b) : b ∈ rowS x := by
  cases x with
  | none => cases h
  | some a => cases h; simp [rowS]
theorem sig_path {W : World} {b : Nat} {key : Int} {f : Nat → D64} {x : Option Addr} {n c : Nat} (g : Blk W b 0 20 (sigV key f x n c)) (x' : Option Addr) (n' c' : Nat) : Blk (W.setCell ⟨b, 19, none⟩ (.slice x' n' c')) b 0 20 (sigV key f x' n' c') := by
  intro j hj
  rw [Nat.zero_add]
  refine ⟨?_, by rw [World.frozen?_setCell]; exact (g.at j hj).2⟩
  by_cases h1 : j = 19
  · subst h1
    exact World.cell?_setCell_same' _ _ _ (by rw [(g.at 19 hj).1]; rfl)
  · rw [World.cell?_setCell_other _ _ _ _ (by simp <;> omega), (g.at j hj).1]
    unfold sigV
    by_cases h0 : j = 0
    · rw [if_pos h0, if_pos h0]
    · rw [if_neg h0, if_neg h0, if_pos (by omega), if_pos (by omega)]
def SiI (seed : D64) (h q : Nat) (f : Nat → D64) (sb B : Nat) (w : World) (k : Nat) (S : List Nat) (W : World) : Prop :=
  ∃ x c, S = (w.heap.size + 1) :: sb :: rowS x ∧ OwnsW B W x c ((Sgn.path seed h q).take k) ∧ Blk W sb 0 20 (sigV (q : Int) f x ((Sgn.path seed h q).take k).length c) ∧ W.cell? ⟨w.heap.size + 1, 0, none⟩ = some (.int .i64 ((q / 2 ^ k : Nat) : Int)) ∧
    W.frozen? ⟨w.heap.size + 1, 0, none⟩ = false ∧ Blk W (w.heap.size + 1 + 1) 0 20 zeroS ∧ Below w.heap.size w W
theorem SiI.turn {seed : D64} {h q : Nat} {f : Nat → D64} {sb B : Nat} {w : World} {k : Nat} {S : List Nat} {X Y : World} {T : Nat → Prop} (hi : SiI seed h q f sb B w k S X) (ht : Turns T X Y) (hT : ∀ b, T b → w.heap.size + 3 ≤ b ∧ b ≠ sb ∧ b < B) : SiI seed h q f sb B w k S Y := by
  obtain ⟨x, c, hS, ho, g, cq, fq, e0, hB⟩ := hi
  have n1 : ¬ T (w.heap.size + 1) := fun e => by have := (hT _ e).1; omega
  have n2 : ¬ T (w.heap.size + 1 + 1) := fun e => by have := (hT _ e).1; omega
  exact ⟨x, c, hS, ho.turn ht (fun b hb e => by have := (ho.low b hb).1; have := (hT b e).2.2; omega), g.turn ht (fun e => (hT _ e).2.1 rfl), ht.cell n1 cq, ht.frozen n1 (World.block_lt_of_cell? _ _ cq) fq, e0.turn ht n2,
    hB.trans (ht.below hB.size (fun i hi e => by have := (hT i e).1; omega))⟩
theorem sig_chain {W W2 : World} {b : Nat} {key : Int} {f0 f : Nat → D64} {x : Option Addr} {n c : Nat} (g : Blk W b 0 20 (sigV key f0 x n c)) (h : BlkSet b 1 18 (wrdV f) W W2) : Blk W2 b 0 20 (sigV key f x n c) := by
  intro j hj
  rw [Nat.zero_add]
  refine ⟨?_, (h.frozen _).trans (g.at j hj).2⟩
  by_cases h1 : 1 ≤ j ∧ j < 19
  · have := (h.blk (j - 1) (by omega)).1
    rw [show 1 + (j - 1) = j by omega] at this
    rw [this]
    unfold sigV wrdV
    rw [if_neg (by omega), if_pos h1.2]
  · rw [h.cell ⟨b, j, none⟩ (fun _ _ => by show j < 1 ∨ 1 + 18 ≤ j; omega), (g.at j hj).1]
    unfold sigV
    by_cases h0 : j = 0
    · rw [if_pos h0, if_pos h0]
    · rw [if_neg h0, if_neg h0, if_neg (by omega), if_neg (by omega)]
set_option maxHeartbeats 2000000 in
theorem sign_ok (seed : D64) (h q : Nat) (d : D64) (h6 : h ≤ 6) (hq : q < 2 ^ h) (w : World) : Calls Tryz.prog 54 #[.int .u64 (num seed), .int .i64 (h : Int), .int .i64 (q : Int), .int .u64 (num d)] w fun e w' => ∃ x c, e = .returned (.tuple #[aggN 20 (sigV (q : Int) (fun i => Sgn.val seed (u8z (q : Int)) (u8z ((q : Int) / 256)) i (Sgn.dig d i)) x h c), .int .i64 0]) ∧ OwnsW w.heap.size w' x c (Sgn.path seed h q) ∧ Below w.heap.size w w' := by
  have hqi : (q : Int) < 2 ^ h := by
    have : ((q : Nat) : Int) < ((2 ^ h : Nat) : Int) := by exact_mod_cast hq
    simpa using this
  have hb0 : Blk (((w.alloc (.cells #[.int .u64 (num seed)] 23)).alloc (.cells #[.int .i64 (q : Int)] 3)).alloc (.cells #[.int .i64 0, .int .u64 0, .int .u64 0, .int .u64 0, .int .u64 0, .int .u64 0, .int .u64 0, .int .u64 0, .int .u64 0, .int .u64 0, .int .u64 0, .int .u64 0, .int .u64 0, .int .u64 0, .int .u64 0, .int .u64 0, .int .u64 0, .int .u64 0, .int .u64 0, .slice none 0 0] 27)) (w.heap.size + 1 + 1) 0 20 zeroS := by
    have := blk_zero ((w.alloc (.cells #[.int .u64 (num seed)] 23)).alloc (.cells #[.int .i64 (q : Int)] 3))
    rwa [World.size_alloc, World.size_alloc] at this
  have hB := al (al (al (Below.refl _ w) (.cells #[.int .u64 (num seed)] 23)) (.cells #[.int .i64 (q : Int)] 3)) (.cells #[.int .i64 0, .int .u64 0, .int .u64 0, .int .u64 0, .int .u64 0, .int .u64 0, .int .u64 0, .int .u64 0, .int .u64 0, .int .u64 0, .int .u64 0, .int .u64 0, .int .u64 0, .int .u64 0, .int .u64 0, .int .u64 0, .int .u64 0, .int .u64 0, .int .u64 0, .slice none 0 0] 27)
  refine (callsIn_wide (n := 5)).1 ?_
  refine callsIn_of_wp_marks Tryz.func54 rfl trivial ?_ rfl
  simp only [Tryz.ntmps54, List.size_toArray, List.length_cons, List.length_nil, Nat.reduceAdd, Nat.reduceSub, Array.replicate_succ, Array.replicate_zero, List.push_toArray, List.append_toArray, List.nil_append, List.cons_append]
  gi_wp2_with (first | (refine ⟨trivial, ?_⟩; gi_at_call 52; refine (callsIn_wide.2 (valid_yes h (q : Int) h6 (by omega) hqi _)).mono ?_; rintro e w1 ⟨rfl, rfl⟩) | (refine ⟨trivial, ?_⟩; gi_at_call 68; refine (callsIn_wide.2 (digits_any d _)).mono ?_; rintro e w1 ⟨rfl, hb1⟩; refine Hid.out ?_))
  unfold Hid
  have hmf : ∀ (fn : Fn) (first cap : Array Value) (w : World), (Instr.makeFunc fn first cap).run Tryz.prog w = .ok (.func fn first cap) w := fun _ _ _ _ => rfl
  have s1 : w1.cell? ⟨w.heap.size, 0, none⟩ = some (.int .u64 (num seed)) := later hb1 (by go_simp)
  have q1 : w1.cell? ⟨w.heap.size + 1, 0, none⟩ = some (.int .i64 (q : Int)) := later hb1 (by go_simp)
  have fq1 : w1.frozen? ⟨w.heap.size + 1, 0, none⟩ = false := (Below.frozen hb1 (p := ⟨w.heap.size + 1, 0, none⟩) (by simp <;> omega)).trans (show _ = false by go_simp)
  have e1 := hb0.later hb1
  replace hB := thru hB hb1
  have hz1 : w.heap.size + 1 + 1 < w1.heap.size := by have := hb1.size; simp at this; omega
  clear hb0 hb1
  -- the digits' box
  have a1 : Arr (w1.alloc (.cells #[.int .i64 0, .int .i64 0, .int .i64 0, .int .i64 0, .int .i64 0, .int .i64 0, .int .i64 0, .int .i64 0, .int .i64 0, .int .i64 0, .int .i64 0, .int .i64 0, .int .i64 0, .int .i64 0, .int .i64 0, .int .i64 0, .int .i64 0, .int .i64 0] 123)) w1.heap.size (fun _ => .int .i64 0) := arr_new w1 _ _ _ rfl
  obtain ⟨Y2, hs2, hset2⟩ := run_storeA (P := Tryz.prog) a1 (v := digV d) (fun _ _ => rfl) arrI_size
  have al1 := al (Below.refl _ w1) (.cells #[.int .i64 0, .int .i64 0, .int .i64 0, .int .i64 0, .int .i64 0, .int .i64 0, .int .i64 0, .int .i64 0, .int .i64 0, .int .i64 0, .int .i64 0, .int .i64 0, .int .i64 0, .int .i64 0, .int .i64 0, .int .i64 0, .int .i64 0, .int .i64 0] 123)
  have hq2 : Below w1.heap.size w1 Y2 := hset2.below _ _ (Nat.le_refl _) al1
  have hz2 : w1.heap.size < Y2.heap.size := by have := hset2.size; simp at this; omega
  have s2 := later hq2 s1
  have q2 := later hq2 q1
  have fq2 := (Below.frozen hq2 (World.block_lt_of_cell? _ _ q1)).trans fq1
  have e2 := e1.later hq2
  have d2 := hset2.arr
  replace hB := thru hB hq2
  -- the signature's box
  have b2 := blk_zero Y2
  obtain ⟨Y4, hs4, hset4⟩ := run_storeS b2 (q : Int) (fun _ => 0#64) none 0 0
  have al2 := al (Below.refl _ Y2) (.cells #[.int .i64 0, .int .u64 0, .int .u64 0, .int .u64 0, .int .u64 0, .int .u64 0, .int .u64 0, .int .u64 0, .int .u64 0, .int .u64 0, .int .u64 0, .int .u64 0, .int .u64 0, .int .u64 0, .int .u64 0, .int .u64 0, .int .u64 0, .int .u64 0, .int .u64 0, .slice none 0 0] 27)
  have hq4 : Below Y2.heap.size Y2 Y4 := hset4.below _ _ (Nat.le_refl _) al2
  have hz4 : Y2.heap.size < Y4.heap.size := by have := hset4.size; simp at this; omega
  have s4 := later hq4 s2
  have q4 := later hq4 q2
  have fq4 := (Below.frozen hq4 (World.block_lt_of_cell? _ _ q2)).trans fq2
  have e4 := e2.later hq4
  have d4 := d2.later hq4
  have g4 := hset4.blk
  replace hB := thru hB hq4
  clear al1 al2 a1 b2 hset2 hset4 hq2 hq4 s1 q1 fq1 e1 fq2 e2 d2
  gi_wp2_with (first | (refine wpListIn_storeN rfl rfl _ _ _ rfl (b := w1.heap.size) (q := 0) rfl hs2 ?_) | (refine wpListIn_storeN rfl rfl _ _ _ rfl (b := Y2.heap.size) (q := 0) rfl hs4 ?_))
  obtain ⟨f, hf⟩ : ∃ f : Nat → D64, (fun i => Sgn.val seed (u8z (q : Int)) (u8z ((q : Int) / 256)) i (Sgn.dig d i)) = f := ⟨_, rfl⟩
  have hcl : ∀ (i : Nat) (W : World), i < 18 → Below Y4.heap.size Y4 W → Calls Tryz.prog 85 (#[.int .i64 (i : Int)] ++ #[.pointer (some ⟨w1.heap.size, 0, none⟩), .pointer (some ⟨w.heap.size, 0, none⟩), .pointer (some ⟨w.heap.size + 1, 0, none⟩)]) W (NumOf (f i) W) := fun i W hi hb => by
    rw [← hf]
    exact sign1_any d seed (q : Int) i _ _ _ W hi (d4.later hb) (later hb s4) (later hb q4)
  have HF := Lib.hid hf
  clear hf
  refine ⟨trivial, ?_⟩
  refine (callsIn_wide.2 (values_any 85 _ f Y4 (enters_of Tryz.func85 (by kernel_rfl) rfl) hcl)).mono ?_
  rintro e w5 ⟨rfl, hb5⟩
  have s5 := later hb5 s4
  have q5 := later hb5 q4
  have fq5 := (Below.frozen hb5 (World.block_lt_of_cell? _ _ q4)).trans fq4
  have e5 := e4.later hb5
  have g5 := g4.later hb5
  have hz5 : Y2.heap.size < w5.heap.size := Nat.lt_of_lt_of_le hz4 hb5.size
  replace hB := thru hB hb5
  clear hcl s4 q4 fq4 e4 g4 d4 hb5 hs2 hs4 s2 q2
  obtain ⟨sb, hsb⟩ : ∃ b, Y2.heap.size = b := ⟨_, rfl⟩
  rw [hsb] at g5 hz5 hz2 ⊢
  clear hsb
  have g5s : Blk w5 sb 1 18 (fun j => sigV (q : Int) (fun _ => 0#64) none 0 0 (1 + j)) := by
    have := g5.sub 1 18 (by omega)
    rwa [Nat.zero_add] at this
  obtain ⟨Y6, hs6, hset6⟩ := run_storeN (P := Tryz.prog) g5s (v := wrdV f) (fun _ _ => rfl) arrW_size
  have g6 := sig_chain g5 hset6
  have ne : ∀ b, b < sb → b ≠ sb := fun b h => Nat.ne_of_lt h
  have s6 : Y6.cell? ⟨w.heap.size, 0, none⟩ = some (.int .u64 (num seed)) := (hset6.cell _ (fun e => absurd e (ne w.heap.size (by omega)))).trans s5
  have q6 : Y6.cell? ⟨w.heap.size + 1, 0, none⟩ = some (.int .i64 (q : Int)) := (hset6.cell _ (fun e => absurd e (ne (w.heap.size + 1) (by omega)))).trans q5
  have fq6 : Y6.frozen? ⟨w.heap.size + 1, 0, none⟩ = false := (hset6.frozen _).trans fq5
  have e6 : Blk Y6 (w.heap.size + 1 + 1) 0 20 zeroS := hset6.other (.inl (ne (w.heap.size + 1 + 1) (by omega))) e5
  replace hB := hset6.below _ _ (by omega) hB
  have hz6 : sb < Y6.heap.size := by have := hset6.size; omega
  clear s5 q5 fq5 e5 g5 g5s hset6 ne
  gi_wp2_with (first | (refine wpListIn_storeN rfl rfl _ _ _ rfl (b := sb) (q := 1) rfl hs6 ?_) | (refine ⟨trivial, ?_⟩; gi_at_call 53; refine (callsIn_wide.2 (levels_any seed (h : Int) _)).mono ?_; rintro e w7 ⟨rfl, rfl⟩))
  have hbx : ((Y6.alloc (.cells #[.int .u64 (num seed)] 23)).alloc (.cells #[.int .i64 (h : Int)] 3)).cell? ⟨Y6.heap.size + 1, 0, none⟩ = some (.int .i64 (h : Int)) := by go_simp
  have sbx : ((Y6.alloc (.cells #[.int .u64 (num seed)] 23)).alloc (.cells #[.int .i64 (h : Int)] 3)).cell? ⟨Y6.heap.size, 0, none⟩ = some (.int .u64 (num seed)) := by go_simp
  have al7 := al (al (Below.refl _ Y6) (.cells #[.int .u64 (num seed)] 23)) (.cells #[.int .i64 (h : Int)] 3)
  have i0 : SiI seed h q f sb (Y6.heap.size + 4) w 0 [w.heap.size + 1, sb] ((Y6.alloc (.cells #[.int .u64 (num seed)] 23)).alloc (.cells #[.int .i64 (h : Int)] 3)) := ⟨none, 0, rfl, OwnsW.nil _ _, g6.later al7, by rw [Nat.pow_zero, Nat.div_one]; exact later al7 q6, (Below.frozen al7 (World.block_lt_of_cell? _ _ q6)).trans fq6, e6.later al7, thru hB al7⟩
  clear s6 q6 fq6 e6 g6 hB al7 hmf
  refine wpIn_rangeV (α := Nat × Nat) (encs := rowE) (len := h + 1) (V := RowV seed h) (stops := True) (T := fun _ => False) (gf := 83) (lb := #[.pointer (some ⟨Y6.heap.size + 1, 0, none⟩), .pointer (some ⟨Y6.heap.size, 0, none⟩)]) rfl (enters_of Tryz.func83 (by kernel_rfl) rfl) (fun _ e => e.elim)
    (levels1_in (5 - 1) (by omega) _ _ seed h _ h6 hbx sbx) (fun k v A B h hl ht => rowV_loop k v A B h hl ht) (fun _ => rfl) (SiI seed h q f sb (Y6.heap.size + 4) w) (fun _ _ _ _ => False) [w.heap.size + 1, sb] (fun b hb => by simp at hb ⊢; omega) ?hI (fun _ _ _ _ _ h => h.elim) (.inl trivial) i0
    (fun v => { tmps := #[.int .u64 (num seed), .int .i64 (h : Int), .int .i64 (q : Int), .int .u64 (num d), .pointer (some ⟨w.heap.size, 0, none⟩), undef, .pointer (some ⟨w.heap.size + 1, 0, none⟩), undef, .pointer (some ⟨w.heap.size + 1 + 1, 0, none⟩), .int .i64 0, .pointer (some ⟨w1.heap.size, 0, none⟩), .pointer (some ⟨sb, 0, none⟩), .slice (some ⟨v.1, 0, none⟩) v.2 v.2, .int .i64 (h : Int), .int .i64 (q : Int), .bool true, .bool false, undef, .int .u64 (num d), arrA (digV d), .int .i64 (q : Int), .agg #[.int .i64 (q : Int), .int .u64 0, .int .u64 0, .int .u64 0, .int .u64 0, .int .u64 0, .int .u64 0, .int .u64 0, .int .u64 0, .int .u64 0, .int .u64 0, .int .u64 0, .int .u64 0, .int .u64 0, .int .u64 0, .int .u64 0, .int .u64 0, .int .u64 0, .int .u64 0, .slice none 0 0], .func (.func 85) #[] #[.pointer (some ⟨w1.heap.size, 0, none⟩), .pointer (some ⟨w.heap.size, 0, none⟩), .pointer (some ⟨w.heap.size + 1, 0, none⟩)], arrA (wrdV f), .pointer (some ⟨sb, 1, none⟩), .int .u64 (num seed), .int .i64 (h : Int), .func (.func 83) #[] #[.pointer (some ⟨Y6.heap.size + 1, 0, none⟩), .pointer (some ⟨Y6.heap.size, 0, none⟩)], .slice (some ⟨v.1, 0, none⟩) v.2 v.2, undef, undef, undef, undef, undef, undef, undef, undef, undef, undef, undef, undef, undef, undef, undef, undef], defers := [] }) ?assign ?body ?done ?stop
  case hI =>
    intro k S A B h ht
    exact h.turn ht (by rintro b (h | rfl | rfl) <;> first | exact h.elim | (simp <;> omega))
  case assign =>
    intro x W K hK
    simp only [rowE]
    gi_wp2_with fail
    exact hK
  case body =>
    clear hbx sbx i0
    rintro k S v W hk hz hv ⟨x, c, rfl, ho, g, cq, fq, e0, hB⟩ hS
    have hz7 : Y6.heap.size + 4 ≤ W.heap.size := by simp at hz; omega
    obtain ⟨lk, hlk⟩ : ∃ l, (Sgn.path seed h q).take k = l := ⟨_, rfl⟩
    obtain ⟨qk, hqk⟩ : ∃ m, q / 2 ^ k = m := ⟨_, rfl⟩
    have hq2 : q / 2 ^ (k + 1) = qk / 2 := by rw [Nat.pow_succ, ← Nat.div_div_eq_div_mul, hqk]
    have hqq : ((qk / 2 : Nat) : Int) = (qk : Int) / 2 := by omega
    have HQ2 := Lib.hid hq2
    have HQQ := Lib.hid hqq
    rw [hlk] at ho g
    rw [hqk] at cq
    by_cases hkh : k < h
    · have hpt := path_take seed h q k hkh
      rw [hlk, hqk] at hpt
      obtain ⟨M, hM⟩ : ∃ M, 2 ^ (h - (k + 1)) = M := ⟨_, rfl⟩
      have hL : 2 ^ (h - k) = 2 * M := by rw [← hM, show h - k = (h - (k + 1)) + 1 by omega, Nat.pow_succ]; omega
      have hM32 : 1 ≤ M ∧ M ≤ 32 := by
        rw [← hM]
        exact ⟨Nat.one_le_two_pow, Nat.pow_le_pow_right (n := 2) (by decide) (show h - (k + 1) ≤ 5 by omega)⟩
      have hqM : qk < 2 * M := by
        rw [← hqk, ← hL]
        refine Nat.div_lt_of_lt_mul ?_
        rw [← Nat.pow_add, show k + (h - k) = h by omega]
        exact hq
      have hv2 := hv.1
      rw [hL] at hv2
      have hxo := sib_xor ⟨qk, by omega⟩
      simp only at hxo
      have hsl := sib_lt qk M hqM
      have cs := rowV_cell hv (Sgn.sib qk) (by rw [hL]; exact hsl)
      obtain ⟨sq, hsq⟩ : ∃ m, Sgn.sib qk = m := ⟨_, rfl⟩
      obtain ⟨nd, hnd⟩ : ∃ m, Sgn.node seed k (Sgn.sib qk) = m := ⟨_, rfl⟩
      rw [hnd] at cs hpt
      rw [hsq] at cs hxo hsl
      have hqk64 : qk < 64 := by omega
      have d1 : decide ((1 : Int) < (v.2 : Int)) = true := decide_eq_true (by omega)
      have d2 : decide ((sq : Int) < (v.2 : Int)) = true := decide_eq_true (by omega)
      have hsv : sq < v.2 := by omega
      obtain ⟨ln, hln⟩ : ∃ l, (Sgn.path seed h q).take (k + 1) = l := ⟨_, rfl⟩
      rw [hln] at hpt
      have HLN := Lib.hid hln
      have HPT := Lib.hid hpt
      clear hln
      have hlk6 : lk.length ≤ 6 := by rw [← hlk]; simp [Sgn.path_length]; omega
      have c19 : W.cell? ⟨sb, 19, none⟩ = some (.slice x lk.length c) := (g.at 19 (by omega)).1
      have f19 := (g.at 19 (by omega)).2
      have hvb : v.1 < W.heap.size := World.block_lt_of_cell? _ _ cs
      clear hpt hlk hqk hq2 hqq hM hL hM32 hqM hsq hnd hv
      gi_wp2_with fail
      refine wpIn_region_schedB (B := sb) (fun X => X.cell? ⟨sb, 19, none⟩ = some (.slice x lk.length c) ∧ X.cell? ⟨v.1, sq, none⟩ = some (.int .u64 (num nd)) ∧ X.cell? ⟨w.heap.size + 1, 0, none⟩ = some (.int .i64 (qk : Int)) ∧ X.frozen? ⟨sb, 19, none⟩ = false ∧ OwnsW (Y6.heap.size + 4) X x c lk ∧ Turns (fun _ => False) W X ∧ Y6.heap.size + 4 ≤ X.heap.size) (.two [0, 2, 3, 4, 5] 1 (.one [] 6 (.one [] 7 (.one [] 8 (.one [9] 10 (.done []))))) 6 (.two [] 1 (.one [] 7 (.one [] 8 (.one [9] 10 (.done [])))) 7 (.one [] 1 (.one [] 8 (.one [9] 10 (.done [])))))) (by kernel_rfl) (by kernel_rfl) (fun ⟨_, _, h⟩ => h) (fun _ _ _ _ _ h => h) ⟨c19, cs, cq, f19, ho.turn ((Turns.refl (fun _ => False) W).drew) (fun _ _ e => e), (Turns.refl _ _).drew, hz7⟩ ?_
      clear c19 cs f19 ho
      rintro X ⟨c19, cs, cqX, f19, ho, ht, hzX⟩
      rw [wpSchedB]
      simp only [pick, List.map_cons, List.map_nil, Array.getD_eq_getD_getElem?, List.getElem?_toArray, List.getElem?_cons_succ, List.getElem?_cons_zero, Option.getD_some]
      have kq := plusB_cell (B := sb) cqX (by simp <;> omega)
      repeat (first | go_big_quiet_step (fail) | quiet_step (fail))
      refine wpQuiet_nil ?_
      clear kq
      refine ⟨?_, ?_⟩
      · refine heavyB_want (by rfl) (fun K' hK' => ?_)
        go_simp
        refine hK' _ _ (Below.refl _ _) ?_
        clear hK' K'
        try simp only [Act.put, List.setIfInBounds_toArray, List.set_cons_zero, List.set_cons_succ]
        rw [wpSchedB]
        simp only [pick, List.map_nil, Array.getD_eq_getD_getElem?, List.getElem?_toArray, List.getElem?_cons_succ, List.getElem?_cons_zero, Option.getD_some]
        refine wpQuiet_nil ?_
        refine heavyB_want (by rfl) (fun K' hK' => ?_)
        go_simp
        refine hK' _ _ (Below.refl _ _) ?_
        clear hK' K'
        try simp only [Act.put, List.setIfInBounds_toArray, List.set_cons_zero, List.set_cons_succ]
        rw [wpSchedB]
        simp only [pick, List.map_nil, Array.getD_eq_getD_getElem?, List.getElem?_toArray, List.getElem?_cons_succ, List.getElem?_cons_zero, Option.getD_some]
        refine wpQuiet_nil ?_
        refine heavyB_want (by rfl) (fun K' hK' => ?_)
        go_simp
        refine hK' _ _ ((Below.refl _ _).alloc (by omega) _) ?_
        clear hK' K'
        have hq1 := al (Below.refl _ X) (.cells #[.int .u64 (num nd)] 23)
        have ny : (X.alloc (.cells #[.int .u64 (num nd)] 23)).cell? ⟨X.heap.size, 0, none⟩ = some (.int .u64 (num nd)) := by go_simp
        have c19' := later hq1 c19
        have f19' := (Below.frozen hq1 (World.block_lt_of_cell? _ _ c19)).trans f19
        have ho1 := ho.turn ((Turns.refl (fun _ => False) X).alloc (.cells #[.int .u64 (num nd)] 23)) (fun _ _ e => e)
        have ht1 := ht.alloc (.cells #[.int .u64 (num nd)] 23)
        have hz1' : X.heap.size < (X.alloc (.cells #[.int .u64 (num nd)] 23)).heap.size := by simp
        obtain ⟨X1, hX1⟩ : ∃ Z : World, X.alloc (.cells #[.int .u64 (num nd)] 23) = Z := ⟨_, rfl⟩
        rw [hX1] at ny c19' f19' ho1 ht1 hz1'
        rw [hX1]
        clear hX1 hq1 c19 f19
        try simp only [Act.put, List.setIfInBounds_toArray, List.set_cons_zero, List.set_cons_succ]
        rw [wpSchedB]
        simp only [pick, List.map_nil, Array.getD_eq_getD_getElem?, List.getElem?_toArray, List.getElem?_cons_succ, List.getElem?_cons_zero, Option.getD_some]
        refine wpQuiet_nil ?_
        refine heavyB_want (by rfl) (fun K' hK' => ?_)
        refine wp_appWX _ _ rfl (B := Y6.heap.size + 4) (l := lk) (cap := c) (xa := x) ho1 rfl (ad := ⟨X.heap.size, 0, none⟩) (u := nd) rfl ny (by omega) (by omega) (fun x' c' X2 h1 h2 h3 h4 => hK' _ _ (h2.mono (by omega)) ?_)
        clear hK' K'
        rw [HPT.out] at h1 ⊢
        have c20 := later_lt h2 (a := ⟨sb, 19, none⟩) (by simp <;> omega) c19'
        have f20 := (h2.frozen (p := ⟨sb, 19, none⟩) (by simp <;> omega)).trans f19'
        try simp only [Act.put, List.setIfInBounds_toArray, List.set_cons_zero, List.set_cons_succ]
        rw [wpSchedB]
        simp only [pick, List.map_cons, List.map_nil, Array.getD_eq_getD_getElem?, List.getElem?_toArray, List.getElem?_cons_succ, List.getElem?_cons_zero, Option.getD_some]
        repeat (first | go_big_quiet_step (fail) | quiet_step (fail))
        refine wpQuiet_nil ?_
        refine heavyB_want (by rfl) (fun K' hK' => ?_)
        go_simp
        refine hK' _ _ ((Below.refl _ _).setCell (p := ⟨sb, 19, none⟩) (Nat.le_refl _) _) ?_
        clear hK' K'
        try simp only [Act.put, List.setIfInBounds_toArray, List.set_cons_zero, List.set_cons_succ]
        rw [wpSchedB]
        simp only [List.map_nil]
        refine wpQuiet_nil ?_
        have hq2 := (ht1.below hz7 (fun _ _ e => e)).trans h2
        have g2 := g.low hq2 (by omega)
        have e2 := e0.low hq2 (by omega)
        have cq2 := (hq2.cell (p := ⟨w.heap.size + 1, 0, none⟩) (by simp <;> omega)).trans cq
        have fq2 := (hq2.frozen (p := ⟨w.heap.size + 1, 0, none⟩) (by simp <;> omega)).trans fq
        have hB2 := hB.trans (hq2.mono (by omega))
        have hnq : ¬ w.heap.size + 1 = sb := by omega
        have tt := (ht1.mono (T' := fun b => b ∈ (w.heap.size + 1) :: sb :: rowS x) (fun _ _ e => e.elim)).trans (h3.mono (fun b _ hr => by simp [rowS_mem hr]))
        have hzz : W.heap.size ≤ X1.heap.size := ht1.size
        have hz8 : X1.heap.size ≤ X2.heap.size := h2.size
        clear hq2 h2 h3 ht1 ho1 g e0 cq fq hB c20 f20 c19' f19' ny cqX cs
        gi_wp2_with fail
        refine ⟨(w.heap.size + 1) :: sb :: rowS x', fun b hb => ?_, (tt.setCell (p := ⟨sb, 19, none⟩) (fun _ => by simp) _).setCell (p := ⟨w.heap.size + 1, 0, none⟩) (fun _ => by simp) _, x', c', rfl, by rw [HLN.out]; exact h1.turn (((Turns.refl (fun b => b = sb ∨ b = w.heap.size + 1) X2).setCell (p := ⟨sb, 19, none⟩) (fun _ => .inl rfl) _).setCell (p := ⟨w.heap.size + 1, 0, none⟩) (fun _ => .inr rfl) _) (fun b hb e => by have h0 := (h1.low b hb).1; have e' : b = sb ∨ b = w.heap.size + 1 := e; omega), by rw [HLN.out]; exact (sig_path g2 _ _ _).other (p := ⟨w.heap.size + 1, 0, none⟩) hnq _, ?_, by rw [World.frozen?_setCell, World.frozen?_setCell]; exact fq2, (e2.other (p := ⟨sb, 19, none⟩) (show sb ≠ w.heap.size + 1 + 1 by omega) _).other (p := ⟨w.heap.size + 1, 0, none⟩) (show w.heap.size + 1 ≠ w.heap.size + 1 + 1 by omega) _, (hB2.setCell (p := ⟨sb, 19, none⟩) (by simp <;> omega) _).setCell (p := ⟨w.heap.size + 1, 0, none⟩) (by simp) _⟩
        · have hb' : b = w.heap.size + 1 ∨ b = sb ∨ b ∈ rowS x' := by simpa using hb
          rcases hb' with hb' | hb' | hb'
          · have h0 := hS (w.heap.size + 1) (by simp)
            exact ⟨by simp <;> omega, .inl (by simp [hb'])⟩
          · have h0 := hS sb (by simp)
            exact ⟨by simp <;> omega, .inl (by simp [hb'])⟩
          · have h0 := h1.low b (rowS_of hb')
            exact ⟨by simpa using h0.2, (h4 b (rowS_of hb')).imp (fun h => by simp [rowS_mem h]) (fun h => by omega)⟩
        · rw [HQ2.out, HQQ.out]
          go_simp
          all_goals exact IntWalk.wrap64_in _ (by omega)
      · refine heavyB_want (by rfl) (fun K' hK' => ?_)
        go_simp
        refine hK' _ _ (Below.refl _ _) ?_
        clear hK' K'
        try simp only [Act.put, List.setIfInBounds_toArray, List.set_cons_zero, List.set_cons_succ]
        rw [wpSchedB]
        simp only [pick, List.map_nil, Array.getD_eq_getD_getElem?, List.getElem?_toArray, List.getElem?_cons_succ, List.getElem?_cons_zero, Option.getD_some]
        refine wpQuiet_nil ?_
        refine ⟨?_, ?_⟩
        · refine heavyB_want (by rfl) (fun K' hK' => ?_)
          go_simp
          refine hK' _ _ (Below.refl _ _) ?_
          clear hK' K'
          try simp only [Act.put, List.setIfInBounds_toArray, List.set_cons_zero, List.set_cons_succ]
          rw [wpSchedB]
          simp only [pick, List.map_nil, Array.getD_eq_getD_getElem?, List.getElem?_toArray, List.getElem?_cons_succ, List.getElem?_cons_zero, Option.getD_some]
          refine wpQuiet_nil ?_
          refine heavyB_want (by rfl) (fun K' hK' => ?_)
          go_simp
          refine hK' _ _ ((Below.refl _ _).alloc (by omega) _) ?_
          clear hK' K'
          have hq1 := al (Below.refl _ X) (.cells #[.int .u64 (num nd)] 23)
          have ny : (X.alloc (.cells #[.int .u64 (num nd)] 23)).cell? ⟨X.heap.size, 0, none⟩ = some (.int .u64 (num nd)) := by go_simp
          have c19' := later hq1 c19
          have f19' := (Below.frozen hq1 (World.block_lt_of_cell? _ _ c19)).trans f19
          have ho1 := ho.turn ((Turns.refl (fun _ => False) X).alloc (.cells #[.int .u64 (num nd)] 23)) (fun _ _ e => e)
          have ht1 := ht.alloc (.cells #[.int .u64 (num nd)] 23)
          have hz1' : X.heap.size < (X.alloc (.cells #[.int .u64 (num nd)] 23)).heap.size := by simp
          obtain ⟨X1, hX1⟩ : ∃ Z : World, X.alloc (.cells #[.int .u64 (num nd)] 23) = Z := ⟨_, rfl⟩
          rw [hX1] at ny c19' f19' ho1 ht1 hz1'
          rw [hX1]
          clear hX1 hq1 c19 f19
          try simp only [Act.put, List.setIfInBounds_toArray, List.set_cons_zero, List.set_cons_succ]
          rw [wpSchedB]
          simp only [pick, List.map_nil, Array.getD_eq_getD_getElem?, List.getElem?_toArray, List.getElem?_cons_succ, List.getElem?_cons_zero, Option.getD_some]
          refine wpQuiet_nil ?_
          refine heavyB_want (by rfl) (fun K' hK' => ?_)
          refine wp_appWX _ _ rfl (B := Y6.heap.size + 4) (l := lk) (cap := c) (xa := x) ho1 rfl (ad := ⟨X.heap.size, 0, none⟩) (u := nd) rfl ny (by omega) (by omega) (fun x' c' X2 h1 h2 h3 h4 => hK' _ _ (h2.mono (by omega)) ?_)
          clear hK' K'
          rw [HPT.out] at h1 ⊢
          have c20 := later_lt h2 (a := ⟨sb, 19, none⟩) (by simp <;> omega) c19'
          have f20 := (h2.frozen (p := ⟨sb, 19, none⟩) (by simp <;> omega)).trans f19'
          try simp only [Act.put, List.setIfInBounds_toArray, List.set_cons_zero, List.set_cons_succ]
          rw [wpSchedB]
          simp only [pick, List.map_cons, List.map_nil, Array.getD_eq_getD_getElem?, List.getElem?_toArray, List.getElem?_cons_succ, List.getElem?_cons_zero, Option.getD_some]
          repeat (first | go_big_quiet_step (fail) | quiet_step (fail))
          refine wpQuiet_nil ?_
          refine heavyB_want (by rfl) (fun K' hK' => ?_)
          go_simp
          refine hK' _ _ ((Below.refl _ _).setCell (p := ⟨sb, 19, none⟩) (Nat.le_refl _) _) ?_
          clear hK' K'
          try simp only [Act.put, List.setIfInBounds_toArray, List.set_cons_zero, List.set_cons_succ]
          rw [wpSchedB]
          simp only [List.map_nil]
          refine wpQuiet_nil ?_
          have hq2 := (ht1.below hz7 (fun _ _ e => e)).trans h2
          have g2 := g.low hq2 (by omega)
          have e2 := e0.low hq2 (by omega)
          have cq2 := (hq2.cell (p := ⟨w.heap.size + 1, 0, none⟩) (by simp <;> omega)).trans cq
          have fq2 := (hq2.frozen (p := ⟨w.heap.size + 1, 0, none⟩) (by simp <;> omega)).trans fq
          have hB2 := hB.trans (hq2.mono (by omega))
          have hnq : ¬ w.heap.size + 1 = sb := by omega
          have tt := (ht1.mono (T' := fun b => b ∈ (w.heap.size + 1) :: sb :: rowS x) (fun _ _ e => e.elim)).trans (h3.mono (fun b _ hr => by simp [rowS_mem hr]))
          have hzz : W.heap.size ≤ X1.heap.size := ht1.size
          have hz8 : X1.heap.size ≤ X2.heap.size := h2.size
          clear hq2 h2 h3 ht1 ho1 g e0 cq fq hB c20 f20 c19' f19' ny cqX cs
          gi_wp2_with fail
          refine ⟨(w.heap.size + 1) :: sb :: rowS x', fun b hb => ?_, (tt.setCell (p := ⟨sb, 19, none⟩) (fun _ => by simp) _).setCell (p := ⟨w.heap.size + 1, 0, none⟩) (fun _ => by simp) _, x', c', rfl, by rw [HLN.out]; exact h1.turn (((Turns.refl (fun b => b = sb ∨ b = w.heap.size + 1) X2).setCell (p := ⟨sb, 19, none⟩) (fun _ => .inl rfl) _).setCell (p := ⟨w.heap.size + 1, 0, none⟩) (fun _ => .inr rfl) _) (fun b hb e => by have h0 := (h1.low b hb).1; have e' : b = sb ∨ b = w.heap.size + 1 := e; omega), by rw [HLN.out]; exact (sig_path g2 _ _ _).other (p := ⟨w.heap.size + 1, 0, none⟩) hnq _, ?_, by rw [World.frozen?_setCell, World.frozen?_setCell]; exact fq2, (e2.other (p := ⟨sb, 19, none⟩) (show sb ≠ w.heap.size + 1 + 1 by omega) _).other (p := ⟨w.heap.size + 1, 0, none⟩) (show w.heap.size + 1 ≠ w.heap.size + 1 + 1 by omega) _, (hB2.setCell (p := ⟨sb, 19, none⟩) (by simp <;> omega) _).setCell (p := ⟨w.heap.size + 1, 0, none⟩) (by simp) _⟩
          · have hb' : b = w.heap.size + 1 ∨ b = sb ∨ b ∈ rowS x' := by simpa using hb
            rcases hb' with hb' | hb' | hb'
            · have h0 := hS (w.heap.size + 1) (by simp)
              exact ⟨by simp <;> omega, .inl (by simp [hb'])⟩
            · have h0 := hS sb (by simp)
              exact ⟨by simp <;> omega, .inl (by simp [hb'])⟩
            · have h0 := h1.low b (rowS_of hb')
              exact ⟨by simpa using h0.2, (h4 b (rowS_of hb')).imp (fun h => by simp [rowS_mem h]) (fun h => by omega)⟩
          · rw [HQ2.out, HQQ.out]
            go_simp
            all_goals exact IntWalk.wrap64_in _ (by omega)
        · refine heavyB_want (by rfl) (fun K' hK' => ?_)
          go_simp
          refine hK' _ _ ((Below.refl _ _).alloc (by omega) _) ?_
          clear hK' K'
          have hq1 := al (Below.refl _ X) (.cells #[.int .u64 (num nd)] 23)
          have ny : (X.alloc (.cells #[.int .u64 (num nd)] 23)).cell? ⟨X.heap.size, 0, none⟩ = some (.int .u64 (num nd)) := by go_simp
          have c19' := later hq1 c19
          have f19' := (Below.frozen hq1 (World.block_lt_of_cell? _ _ c19)).trans f19
          have ho1 := ho.turn ((Turns.refl (fun _ => False) X).alloc (.cells #[.int .u64 (num nd)] 23)) (fun _ _ e => e)
          have ht1 := ht.alloc (.cells #[.int .u64 (num nd)] 23)
          have hz1' : X.heap.size < (X.alloc (.cells #[.int .u64 (num nd)] 23)).heap.size := by simp
          obtain ⟨X1, hX1⟩ : ∃ Z : World, X.alloc (.cells #[.int .u64 (num nd)] 23) = Z := ⟨_, rfl⟩
          rw [hX1] at ny c19' f19' ho1 ht1 hz1'
          rw [hX1]
          clear hX1 hq1 c19 f19
          try simp only [Act.put, List.setIfInBounds_toArray, List.set_cons_zero, List.set_cons_succ]
          rw [wpSchedB]
          simp only [pick, List.map_nil, Array.getD_eq_getD_getElem?, List.getElem?_toArray, List.getElem?_cons_succ, List.getElem?_cons_zero, Option.getD_some]
          refine wpQuiet_nil ?_
          refine heavyB_want (by rfl) (fun K' hK' => ?_)
          go_simp
          refine hK' _ _ (Below.refl _ _) ?_
          clear hK' K'
          try simp only [Act.put, List.setIfInBounds_toArray, List.set_cons_zero, List.set_cons_succ]
          rw [wpSchedB]
          simp only [pick, List.map_nil, Array.getD_eq_getD_getElem?, List.getElem?_toArray, List.getElem?_cons_succ, List.getElem?_cons_zero, Option.getD_some]
          refine wpQuiet_nil ?_
          refine heavyB_want (by rfl) (fun K' hK' => ?_)
          refine wp_appWX _ _ rfl (B := Y6.heap.size + 4) (l := lk) (cap := c) (xa := x) ho1 rfl (ad := ⟨X.heap.size, 0, none⟩) (u := nd) rfl ny (by omega) (by omega) (fun x' c' X2 h1 h2 h3 h4 => hK' _ _ (h2.mono (by omega)) ?_)
          clear hK' K'
          rw [HPT.out] at h1 ⊢
          have c20 := later_lt h2 (a := ⟨sb, 19, none⟩) (by simp <;> omega) c19'
          have f20 := (h2.frozen (p := ⟨sb, 19, none⟩) (by simp <;> omega)).trans f19'
          try simp only [Act.put, List.setIfInBounds_toArray, List.set_cons_zero, List.set_cons_succ]
          rw [wpSchedB]
          simp only [pick, List.map_cons, List.map_nil, Array.getD_eq_getD_getElem?, List.getElem?_toArray, List.getElem?_cons_succ, List.getElem?_cons_zero, Option.getD_some]
          repeat (first | go_big_quiet_step (fail) | quiet_step (fail))
          refine wpQuiet_nil ?_
          refine heavyB_want (by rfl) (fun K' hK' => ?_)
          go_simp
          refine hK' _ _ ((Below.refl _ _).setCell (p := ⟨sb, 19, none⟩) (Nat.le_refl _) _) ?_
          clear hK' K'
          try simp only [Act.put, List.setIfInBounds_toArray, List.set_cons_zero, List.set_cons_succ]
          rw [wpSchedB]
          simp only [List.map_nil]
          refine wpQuiet_nil ?_
          have hq2 := (ht1.below hz7 (fun _ _ e => e)).trans h2
          have g2 := g.low hq2 (by omega)
          have e2 := e0.low hq2 (by omega)
          have cq2 := (hq2.cell (p := ⟨w.heap.size + 1, 0, none⟩) (by simp <;> omega)).trans cq
          have fq2 := (hq2.frozen (p := ⟨w.heap.size + 1, 0, none⟩) (by simp <;> omega)).trans fq
          have hB2 := hB.trans (hq2.mono (by omega))
          have hnq : ¬ w.heap.size + 1 = sb := by omega
          have tt := (ht1.mono (T' := fun b => b ∈ (w.heap.size + 1) :: sb :: rowS x) (fun _ _ e => e.elim)).trans (h3.mono (fun b _ hr => by simp [rowS_mem hr]))
          have hzz : W.heap.size ≤ X1.heap.size := ht1.size
          have hz8 : X1.heap.size ≤ X2.heap.size := h2.size
          clear hq2 h2 h3 ht1 ho1 g e0 cq fq hB c20 f20 c19' f19' ny cqX cs
          gi_wp2_with fail
          refine ⟨(w.heap.size + 1) :: sb :: rowS x', fun b hb => ?_, (tt.setCell (p := ⟨sb, 19, none⟩) (fun _ => by simp) _).setCell (p := ⟨w.heap.size + 1, 0, none⟩) (fun _ => by simp) _, x', c', rfl, by rw [HLN.out]; exact h1.turn (((Turns.refl (fun b => b = sb ∨ b = w.heap.size + 1) X2).setCell (p := ⟨sb, 19, none⟩) (fun _ => .inl rfl) _).setCell (p := ⟨w.heap.size + 1, 0, none⟩) (fun _ => .inr rfl) _) (fun b hb e => by have h0 := (h1.low b hb).1; have e' : b = sb ∨ b = w.heap.size + 1 := e; omega), by rw [HLN.out]; exact (sig_path g2 _ _ _).other (p := ⟨w.heap.size + 1, 0, none⟩) hnq _, ?_, by rw [World.frozen?_setCell, World.frozen?_setCell]; exact fq2, (e2.other (p := ⟨sb, 19, none⟩) (show sb ≠ w.heap.size + 1 + 1 by omega) _).other (p := ⟨w.heap.size + 1, 0, none⟩) (show w.heap.size + 1 ≠ w.heap.size + 1 + 1 by omega) _, (hB2.setCell (p := ⟨sb, 19, none⟩) (by simp <;> omega) _).setCell (p := ⟨w.heap.size + 1, 0, none⟩) (by simp) _⟩
          · have hb' : b = w.heap.size + 1 ∨ b = sb ∨ b ∈ rowS x' := by simpa using hb
            rcases hb' with hb' | hb' | hb'
            · have h0 := hS (w.heap.size + 1) (by simp)
              exact ⟨by simp <;> omega, .inl (by simp [hb'])⟩
            · have h0 := hS sb (by simp)
              exact ⟨by simp <;> omega, .inl (by simp [hb'])⟩
            · have h0 := h1.low b (rowS_of hb')
              exact ⟨by simpa using h0.2, (h4 b (rowS_of hb')).imp (fun h => by simp [rowS_mem h]) (fun h => by omega)⟩
          · rw [HQ2.out, HQQ.out]
            go_simp
            all_goals exact IntWalk.wrap64_in _ (by omega)
    · obtain rfl : k = h := by omega
      have hv2 := hv.1
      rw [Nat.sub_self, Nat.pow_zero] at hv2
      have hlen := Sgn.path_length seed k q
      have HLN := Lib.hid (show (Sgn.path seed k q).take (k + 1) = lk by rw [List.take_of_length_le (by omega), ← hlk, List.take_of_length_le (by omega)])
      have hq0 : qk = 0 := by rw [← hqk]; exact Nat.div_eq_of_lt hq
      have d1 : decide ((1 : Int) < (v.2 : Int)) = false := decide_eq_false (by omega)
      have hnq : w.heap.size + 1 ≠ sb := by omega
      subst hq0
      clear hlk hqk hq2 hqq hlen hv hv2
      dsimp only
      gi_wp2_with fail
      exact ⟨_, fun b hb => ⟨by have := hS b hb; simpa using this, .inl hb⟩, (Turns.refl _ W).setCell (fun _ => by simp) _, x, c, rfl, by rw [HLN.out]; exact ho.turn ((Turns.refl (fun b => b = w.heap.size + 1) W).setCell (p := ⟨w.heap.size + 1, 0, none⟩) (fun _ => rfl) _) (fun b hb e => by have h0 := (ho.low b hb).1; have e' : b = w.heap.size + 1 := e; omega), by rw [HLN.out]; exact g.other (p := ⟨w.heap.size + 1, 0, none⟩) hnq _, by rw [HQ2.out]; go_simp, by rw [World.frozen?_setCell]; exact fq, e0.other (p := ⟨w.heap.size + 1, 0, none⟩) (show w.heap.size + 1 ≠ w.heap.size + 1 + 1 by omega) _, hB.setCell (p := ⟨w.heap.size + 1, 0, none⟩) (by simp) _⟩
  case done =>
    clear hbx sbx i0
    rintro S W hz ⟨x, c, rfl, ho, g, cq, fq, e0, hB⟩ hK
    have hz7 : Y6.heap.size + 2 < W.heap.size := by simpa using hz
    have hpl : (Sgn.path seed h q).take (h + 1) = Sgn.path seed h q := List.take_of_length_le (by rw [Sgn.path_length]; omega)
    rw [hpl] at ho g
    rw [Sgn.path_length] at g
    have hl := run_loadS g
    obtain ⟨W2, hs, hset⟩ := run_storeS e0 (q : Int) f x h c
    have e2 := hset.blk
    have htt := hset.turns (fun b => b = w.heap.size + 1 + 1) W (fun _ => rfl) (Turns.refl _ _)
    have ho2 := ho.turn htt (fun b hb e => by have h0 := (ho.low b hb).1; have e' : b = w.heap.size + 1 + 1 := e; omega)
    have hB2 := hset.below w.heap.size w (by omega) hB
    have hK2 := htt.obj (by simp <;> omega) hK
    have hz9 : W2.heap.size = W.heap.size := hset.size
    rw [World.size_alloc, World.size_alloc] at hK2
    clear hset htt ho hB g e0 cq fq hpl hK
    dsimp only
    gi_wp2_with (first | (refine wpListIn_loadN rfl _ _ rfl (b := sb) (q := 0) rfl hl ?_) | (refine wpListIn_storeN rfl rfl _ _ _ rfl (b := w.heap.size + 1 + 1) (q := 0) rfl hs ?_))
    refine ret_mark (.tuple #[aggN 20 (sigV (q : Int) f x h c), .int .i64 0]) hK2 (fun W3 ht3 => ?_)
    have hl3 := run_loadS (e2.turn ht3 (by simp <;> omega))
    refine ⟨?_, x, c, by rw [HF.out], (ho2.turn ht3 (fun b hb e => by have := (ho2.low b hb).1; have e' : b = Y6.heap.size + 1 + 1 := e; omega)).weaken (by omega), hB2.trans (ht3.below hB2.size (fun i hi e => by have e' : i = Y6.heap.size + 1 + 1 := e; omega))⟩
    rw [results_cell_tmp rfl]
    simp [asAddr, Result.andThen]
    rw [hl3]
    try rfl
  case stop =>
    rintro c k S W hk hz h hK
    exact h.elim
end

section
open Go.RowKit

section
variable {P : Program} {ops : Array Oper} {rest : List Oper} {o : Oper} {a : Act} {w : World} {Q : Exit → Act → World → Prop}
theorem wpList_boxN (hg : o.guard = none) (t : TypeId) (x : Operand) (ho : o.op = .box t x) {n : Nat} {v : Nat → Value} (hx : a.eval x = aggN n v)
    (h : ∀ W, Blk W w.heap.size 0 n v → Below w.heap.size w W → W.heap.size = w.heap.size + 1 → wpList P ops Q rest (a.put o.dst (.pointer (some ⟨w.heap.size, 0, none⟩))) W) : wpList P ops Q (o :: rest) a w :=
  wpList_plain hg fun K hK => by
    unfold Oper.wp execOp
    simp only [ho, hx, Sem.run_bind, Instr.box, newVar, newRow, run_newObj_alloc, Sem.run_pure, Result.andThen_ok]
    exact hK _ _ (h (w.alloc (.cells (aggN n v).cells t)) (blk_new w n v _ t rfl) ((Below.refl _ w).alloc (Nat.le_refl _) _) (World.size_alloc _ _))
theorem run_allocN {t : TypeId} {n : Nat} {v : Nat → Value} (hz : (P.info? t).map (·.zero) = some (some (aggN n v))) : (Instr.alloc t true (.tuple #[])).run P w = .ok (.pointer (some ⟨w.heap.size, 0, none⟩)) (w.alloc (.cells (aggN n v).cells t)) := by
  cases hq : P.info? t with
  | none => simp [hq] at hz
  | some i =>
    have hs : i.zero = some (aggN n v) := by simp [hq] at hz; exact hz
    simp [Instr.alloc, zeroValue, typeInfo, hq, hs, newVar, newRow, Result.andThen]
theorem wpList_allocN (hg : o.guard = none) (t : TypeId) (ho : o.op = .alloc t) {n : Nat} {v : Nat → Value} (hz : (P.info? t).map (·.zero) = some (some (aggN n v)))
    (h : ∀ W, Blk W w.heap.size 0 n v → Below w.heap.size w W → W.heap.size = w.heap.size + 1 → wpList P ops Q rest (a.put o.dst (.pointer (some ⟨w.heap.size, 0, none⟩))) W) : wpList P ops Q (o :: rest) a w :=
  wpList_plain hg fun K hK => by
    have hr := run_allocN (P := P) (w := w) hz
    unfold Oper.wp
    simp [execOp, ho, hr, Result.andThen]
    exact hK _ _ (h (w.alloc (.cells (aggN n v).cells t)) (blk_new w n v _ t rfl) ((Below.refl _ w).alloc (Nat.le_refl _) _) (World.size_alloc _ _))
theorem wpList_allocTo (d : Tmp) (hd : o.dst = some d) (hg : o.guard = none) (t : TypeId) (ho : o.op = .alloc t) {n : Nat} {v : Nat → Value} (hz : (P.info? t).map (·.zero) = some (some (aggN n v)))
    (h : ∀ W, Blk W w.heap.size 0 n v → Below w.heap.size w W → W.heap.size = w.heap.size + 1 → wpList P ops Q rest (a.put (some d) (.pointer (some ⟨w.heap.size, 0, none⟩))) W) : wpList P ops Q (o :: rest) a w :=
  wpList_allocN hg t ho hz (by rw [hd]; exact h)
theorem wpList_storeB (hg : o.guard = none) (hd : o.dst = none) (t : TypeId) (p x : Operand) (ho : o.op = .store t p x) {b q n : Nat} (hp : a.eval p = .pointer (some ⟨b, q, none⟩)) {v u : Nat → Value} (hx : a.eval x = aggN n v) (h0 : Blk w b q n u)
    (h1 : ∀ j, j < n → (v j).oneCell' = true) (hi : (P.info? t).map (·.size) = some n) (h : ∀ W2, BlkSet b q n v w W2 → wpList P ops Q rest a W2) : wpList P ops Q (o :: rest) a w := by
  obtain ⟨W2, hr, hset⟩ := run_storeN (P := P) h0 h1 hi
  exact wpList_storeN hg hd t p x ho hp (by rw [hx]; exact hr) (h W2 hset)
theorem wpList_loadB (hg : o.guard = none) (t : TypeId) (p : Operand) (ho : o.op = .load t p) {b q n : Nat} (hp : a.eval p = .pointer (some ⟨b, q, none⟩)) {v : Nat → Value} (h0 : Blk w b q n v) {d : TypeDesc} (hu : P.underlying t = some d) (hd : (match d with | .struct _ | .array _ _ => true | _ => false) = true) (hi : (P.info? t).map (·.size) = some n)
    (h : wpList P ops Q rest (a.put o.dst (aggN n v)) w) : wpList P ops Q (o :: rest) a w :=
  wpList_loadN hg t p ho hp (run_loadN h0 hu hd hi) h
end
end

namespace Sgn
open Dig

/-- The number of n Dig.bytes from place o on. -/
def wd (l : List UInt8) : Nat → Nat → D
  | _, 0 => 0#64
  | o, n + 1 => wd l (o + 1) n <<< 8 ||| ofB (l.getD o 0)
theorem ofB_bit (b : UInt8) (j : Nat) (hj : j < 64) : (ofB b).getLsbD j = b.toBitVec.getLsbD j := by
  unfold ofB
  rw [BitVec.getLsbD_setWidth, decide_eq_true hj, Bool.true_and]
theorem wd_bit (l : List UInt8) : ∀ n o j, j < 64 → (wd l o n).getLsbD j = (decide (j < 8 * n) && (l.getD (o + j / 8) 0).toBitVec.getLsbD (j % 8))
  | 0, o, j, _ => by simp [wd]
  | n + 1, o, j, hj => by
    show (wd l (o + 1) n <<< 8 ||| ofB (l.getD o 0)).getLsbD j = _
    rw [BitVec.getLsbD_or, BitVec.getLsbD_shiftLeft, ofB_bit _ _ hj]
    by_cases h8 : j < 8
    · rw [show j / 8 = 0 by omega, show j % 8 = j by omega, Nat.add_zero]
      simp [h8, show j < 8 * (n + 1) by omega]
    · rw [BitVec.getLsbD_of_ge (l.getD o 0).toBitVec j (by omega), wd_bit l n (o + 1) (j - 8) (by omega), show o + 1 + (j - 8) / 8 = o + j / 8 by omega, show (j - 8) % 8 = j % 8 by omega]
      have : decide (j - 8 < 8 * n) = decide (j < 8 * (n + 1)) := by
        by_cases h : j - 8 < 8 * n
        · rw [decide_eq_true h, decide_eq_true (by omega)]
        · rw [decide_eq_false h, decide_eq_false (by omega)]
      rw [this]
      simp [h8, hj]
theorem wd_snoc (l : List UInt8) (o n : Nat) : wd l o (n + 1) = wd l o n ||| ofB (l.getD (o + n) 0) <<< (8 * n) := by
  apply BitVec.eq_of_getLsbD_eq
  intro j hj
  rw [BitVec.getLsbD_or, BitVec.getLsbD_shiftLeft, wd_bit _ _ _ _ hj, wd_bit _ _ _ _ hj]
  by_cases h1 : j < 8 * n
  · simp [h1, show j < 8 * (n + 1) by omega]
  · rw [ofB_bit _ _ (by omega)]
    by_cases h2 : j < 8 * (n + 1)
    · rw [show j / 8 = n by omega, show j - 8 * n = j % 8 by omega]
      simp [h1, h2, hj]
    · rw [BitVec.getLsbD_of_ge (l.getD (o + n) 0).toBitVec (j - 8 * n) (by omega)]
      simp [h1, h2]
theorem horner (x : D) (b : UInt8) : 256#64 * x + ofB b = x <<< 8 ||| ofB b := by
  have h0 : 256#64 * x = x <<< 8 := by rw [BitVec.mul_comm, shl_mul]; rfl
  rw [h0]
  apply BitVec.add_eq_or_of_and_eq_zero
  apply BitVec.eq_of_getLsbD_eq
  intro j hj
  rw [BitVec.getLsbD_and, BitVec.getLsbD_shiftLeft, ofB_bit _ _ hj]
  by_cases h8 : j < 8
  · simp [h8]
  · rw [BitVec.getLsbD_of_ge b.toBitVec j (by omega)]
    simp
theorem wd_bytes (x : D) (l : List UInt8) (o : Nat) (h : ∀ i, i < 8 → l.getD (o + i) 0 = byteAt x i) : wd l o 8 = x := by
  apply BitVec.eq_of_getLsbD_eq
  intro j hj
  rw [wd_bit _ _ _ _ hj, h (j / 8) (by omega), decide_eq_true (by omega), Bool.true_and]
  show ((x >>> (8 * (j / 8))).setWidth 8).getLsbD (j % 8) = _
  rw [BitVec.getLsbD_setWidth, decide_eq_true (by omega), Bool.true_and, BitVec.getLsbD_ushiftRight]
  rw [show 8 * (j / 8) + j % 8 = j by omega]
theorem bytes_getD (x : D) (r : Nat) (hr : r < 8) : (Dig.bytes x).getD r 0 = byteAt x r := by
  unfold Dig.bytes
  rw [List.getD_eq_getElem?_getD, List.getElem?_map, List.getElem?_range hr]; rfl
theorem ends_getD (e : Nat → D) (i r : Nat) (hr : r < 8) : ∀ n, i < n → (ends e n).getD (8 * i + r) 0 = byteAt (e i) r
  | 0, h => absurd h (Nat.not_lt_zero _)
  | n + 1, h => by
    show (ends e n ++ Dig.bytes (e n)).getD _ 0 = _
    have hl := ends_length e n
    by_cases hi : i < n
    · rw [List.getD_eq_getElem?_getD, List.getElem?_append_left (by omega), ← List.getD_eq_getElem?_getD]
      exact ends_getD e i r hr n hi
    · obtain rfl : i = n := by omega
      rw [List.getD_eq_getElem?_getD, List.getElem?_append_right (by omega), hl, Nat.add_sub_cancel_left, ← List.getD_eq_getElem?_getD, bytes_getD _ _ hr]

/-- The Dig.bytes of a signature. -/
def enc (key : Nat) (f : Nat → D) (p : List D) : List UInt8 := [UInt8.ofNat key, UInt8.ofNat p.length] ++ ends f 18 ++ ends (fun j => p.getD j 0#64) p.length
theorem enc_length (key : Nat) (f : Nat → D) (p : List D) : (enc key f p).length = 146 + 8 * p.length := by
  unfold enc
  rw [List.length_append, List.length_append, ends_length, ends_length]
  simp
  try omega
theorem enc_0 (key : Nat) (f : Nat → D) (p : List D) : (enc key f p).getD 0 0 = UInt8.ofNat key := rfl
theorem enc_1 (key : Nat) (f : Nat → D) (p : List D) : (enc key f p).getD 1 0 = UInt8.ofNat p.length := rfl
theorem enc_chain (key : Nat) (f : Nat → D) (p : List D) (i : Nat) (hi : i < 18) : wd (enc key f p) (2 + 8 * i) 8 = f i := by
  refine wd_bytes _ _ _ fun r hr => ?_
  unfold enc
  have hl := ends_length f 18
  rw [List.getD_eq_getElem?_getD, List.getElem?_append_left (by simp; omega), List.getElem?_append_right (by simp; omega), ← List.getD_eq_getElem?_getD]
  rw [show 2 + 8 * i + r - [UInt8.ofNat key, UInt8.ofNat p.length].length = 8 * i + r by simp; omega]
  exact ends_getD f i r hr 18 hi
theorem enc_path (key : Nat) (f : Nat → D) (p : List D) (i : Nat) (hi : i < p.length) : wd (enc key f p) (146 + 8 * i) 8 = p.getD i 0#64 := by
  refine wd_bytes _ _ _ fun r hr => ?_
  unfold enc
  have hl := ends_length f 18
  rw [List.getD_eq_getElem?_getD, List.getElem?_append_right (by simp; omega), ← List.getD_eq_getElem?_getD]
  rw [show 146 + 8 * i + r - ([UInt8.ofNat key, UInt8.ofNat p.length] ++ ends f 18).length = 8 * i + r by simp; omega]
  exact ends_getD (fun j => p.getD j 0#64) i r hr p.length hi
/-- The path that n words from place 146 on give. -/
def wds (l : List UInt8) (n : Nat) : List D := (List.range n).map fun j => wd l (146 + 8 * j) 8
theorem wds_length (l : List UInt8) (n : Nat) : (wds l n).length = n := by unfold wds; simp
theorem wds_succ (l : List UInt8) (n : Nat) : wds l (n + 1) = wds l n ++ [wd l (146 + 8 * n) 8] := by unfold wds; rw [List.range_succ, List.map_append]; rfl
theorem wds_enc (key : Nat) (f : Nat → D) (p : List D) : wds (enc key f p) p.length = p := by
  apply List.ext_getElem?
  intro i
  unfold wds
  by_cases h2 : i < p.length
  · rw [List.getElem?_map, List.getElem?_range h2, List.getElem?_eq_getElem h2]
    have := enc_path key f p i h2
    rw [List.getD_eq_getElem?_getD, List.getElem?_eq_getElem h2] at this
    exact congrArg some this
  · rw [List.getElem?_eq_none (by simp; omega), List.getElem?_eq_none (by omega)]
end Sgn

section
open Go.RowKit

theorem Blk.chain {W : World} {b : Nat} {key : Int} {f : Nat → D64} {x : Option Addr} {n c : Nat} (g : Blk W b 0 20 (sigV key f x n c)) : Blk W b 1 18 (wrdV f) := by
  have h := (g.sub 1 18 (by omega)).congr (u := wrdV f) fun j hj => by
    unfold sigV wrdV
    rw [if_neg (by omega), if_pos (by omega), Nat.add_sub_cancel_left]
  rwa [Nat.zero_add] at h
theorem Wts.cell {W : World} {x : Option Addr} {l : List D64} (h : Wts W x l) (i : Nat) (hi : i < l.length) : ∃ b o, x = some ⟨b, o, none⟩ ∧ W.cell? ⟨b, o + i, none⟩ = some (.int .u64 (num (l.getD i 0#64))) := by
  rcases h with h | ⟨b, o, hx, hc⟩
  · subst h; simp at hi
  · exact ⟨b, o, hx, hc i hi⟩
def EnRel (l0 : List UInt8) (e : Nat → D64) (m : Nat) (W : World) (u5 ui : Value) (wr : World) : Prop :=
  ∃ i y cy, i ≤ m ∧ u5 = .slice y (l0 ++ Sgn.ends e i).length cy ∧ ui = .int .i64 (i : Int) ∧ OwnsB W.heap.size wr y cy (l0 ++ Sgn.ends e i) ∧ Below W.heap.size W wr

theorem encode_bad (key : Int) (f : Nat → D64) (x : Option Addr) (n c : Nat) (w : World) (hn : vldG (n : Int) key = false) : Calls Tryz.prog 29 #[aggN 20 (sigV key f x n c)] w fun e w' => e = .returned (.tuple #[.slice none 0 0, .int .i64 2]) ∧ Below w.heap.size w w' := by
  go_enter Tryz.func29, Tryz.ntmps29
  go_wp2_with (refine wpList_boxN rfl _ _ rfl rfl ?_; intro W g hB hz; refine Hid.out ?_)
  unfold Hid
  have HZ := Lib.hid hz
  clear hz
  have c0 : W.cell? ⟨w.heap.size, 0, none⟩ = some (.int .i64 key) := (g.at 0 (by omega)).1
  have c19 : W.cell? ⟨w.heap.size, 19, none⟩ = some (.slice x n c) := (g.at 19 (by omega)).1
  clear g
  go_wp2_with (go_at_call 52; refine (valid_no (n : Int) key hn _).mono ?_; rintro e w1 ⟨rfl, hw⟩; obtain rfl : W = w1 := hw.symm)
  exact bodyPost_ret (v := .tuple #[.slice none 0 0, .int .i64 2]) (by simp [results, Tryz.f29, go_sem]) rfl ⟨rfl, hB⟩

set_option maxHeartbeats 1000000 in
theorem encode_ok (key : Nat) (f : Nat → D64) (p : List D64) (x : Option Addr) (c : Nat) (w : World) (hp : Wts w x p) (h6 : p.length ≤ 6) (hk : key < 2 ^ p.length) :
    Calls Tryz.prog 29 #[aggN 20 (sigV (key : Int) f x p.length c)] w fun e w' => ∃ y cy, e = .returned (.tuple #[.slice y (Sgn.enc key f p).length cy, .int .i64 0]) ∧ OwnsB w.heap.size w' y cy (Sgn.enc key f p) ∧ Below w.heap.size w w' := by
  have hki : (key : Int) < 2 ^ p.length := by
    have : ((key : Nat) : Int) < ((2 ^ p.length : Nat) : Int) := by exact_mod_cast hk
    simpa using this
  have HV := valid_yes p.length (key : Int) h6 (by omega) hki
  have hwk := wrap_u8z (key : Int)
  have hwn := wrap_u8z (p.length : Int)
  have HL : Hid ([u8z (key : Int), u8z (p.length : Int)] ++ Sgn.ends f 18 ++ Sgn.ends (fun j => p.getD j 0#64) p.length = Sgn.enc key f p) := by show _ = _; rw [u8z_nat, u8z_nat]; rfl
  obtain ⟨n, hn⟩ : ∃ n, p.length = n := ⟨_, rfl⟩
  have HN := Lib.hid hn
  rw [hn] at h6 HV hwn HL ⊢
  obtain ⟨ka, hka⟩ : ∃ a, u8z (key : Int) = a := ⟨_, rfl⟩
  obtain ⟨na, hna⟩ : ∃ a, u8z (n : Int) = a := ⟨_, rfl⟩
  rw [hka] at hwk HL
  rw [hna] at hwn HL
  clear hk hki hn hka hna
  go_enter Tryz.func29, Tryz.ntmps29
  go_wp2_with (refine wpList_boxN rfl _ _ rfl rfl ?_; intro W g hB hz; refine Hid.out ?_)
  unfold Hid
  have HZ := Lib.hid hz
  clear hz
  have c0 : W.cell? ⟨w.heap.size, 0, none⟩ = some (.int .i64 (key : Int)) := (g.at 0 (by omega)).1
  have c19 : W.cell? ⟨w.heap.size, 19, none⟩ = some (.slice x n c) := (g.at 19 (by omega)).1
  have gc := g.chain
  have hp1 := hp.later hB
  clear g hp
  go_wp2_with (first | (go_at_call 52; refine (HV _).mono ?_; rintro e w1 ⟨rfl, hw⟩; obtain rfl : W = w1 := hw.symm) | (refine wpList_loadB rfl _ _ rfl (b := w.heap.size) (q := 1) rfl (n := 18) (v := wrdV f) (gc.later (al (Below.refl _ _) _)) arrW_underlying rfl arrW_size ?_))
  clear HV gc
  go_loopw [5, 26] (fun u5 u26 wr => EnRel [ka, na] f 18 W u5 u26 wr) (fun _ u26 _ => 18 - (intOf u26).toNat)
  case atStart =>
    refine ⟨0, some ⟨W.heap.size, 0, none⟩, 2, by omega, rfl, rfl, ?_, al (Below.refl _ _) _⟩
    exact OwnsB.whole W.heap.size W.heap.size W [ka, na] _ rfl (Nat.le_refl _) rfl (by simp)
  case round =>
    clear c0
    obtain ⟨i, y, cy, hi, rfl, rfl, hown, hBr⟩ := hrel
    by_cases hlt : i < 18
    · have hki : decide ((i : Int) < 18) = true := by simp; omega
      obtain ⟨lx, hlx⟩ : ∃ l, Dig.bytes (f i) = l := ⟨_, rfl⟩
      have nx : lx.length = 8 := by rw [← hlx]; exact Dig.bytes_length _
      have cx := bytes_any (f i)
      rw [hlx] at cx
      have hle := Sgn.ends_length f i
      have hE : [ka, na] ++ Sgn.ends f (i + 1) = ([ka, na] ++ Sgn.ends f i) ++ lx := by rw [← hlx, List.append_assoc]; rfl
      obtain ⟨l, hl⟩ : ∃ l, [ka, na] ++ Sgn.ends f i = l := ⟨_, rfl⟩
      have hll : l.length ≤ 200 := by rw [← hl]; simp; omega
      rw [hl] at hown hE ⊢
      have HE := Lib.hid hE
      have HO := Lib.hid hown
      have HX := Lib.hid nx
      have HLL := Lib.hid hll
      clear hlx nx hle hE hl hown hll
      go_wp2_with (refine wpList_indexW rfl _ _ rfl rfl i rfl hlt ?_)
      refine (cx _).mono ?_
      rintro e w2 ⟨b2, rfl, y2, hb2⟩
      clear cx
      have h2 := HO.out.later hb2
      have hB2 := thru hBr hb2
      clear HO hBr hb2
      go_wp2_with (at_builtin; refine wpList_app rfl _ _ rfl (B := W.heap.size) (l := l) h2 rfl (m := lx) rfl y2 (fun h => by cases h) (by have := HX.out; have := HLL.out; omega) HE.out.symm hB2.size ?_; intro x' cap' w3 h3 h4 h5; refine Hid.out ?_)
      unfold Hid
      have hB3 := hB2.trans h4
      have H3 := Lib.hid h3
      clear h2 hB2 h4 h5 h3 y2
      go_wp2_with fail
      refine ⟨⟨i + 1, x', cap', by omega, rfl, by go_num, H3.out, hB3⟩, by simp [intOf]; omega⟩
    · obtain rfl : i = 18 := by omega
      rw [show ((18 : Nat) : Int) = 18 from rfl]
      have d19 := later hBr c19
      obtain ⟨l0, hl0⟩ : ∃ l, [ka, na] ++ Sgn.ends f 18 = l := ⟨_, rfl⟩
      rw [hl0] at hown HL ⊢
      have n0 : l0.length = 146 := by rw [← hl0]; simp [Sgn.ends_length]
      have HN0 := Lib.hid n0
      have HO := Lib.hid hown
      clear hl0 hown c19 n0
      go_wp2_with fail
      clear d19
      go_loopw [5, 37] (fun u5 u37 wr => EnRel l0 (fun j => p.getD j 0#64) n W u5 u37 wr) (fun _ u37 _ => n - (intOf u37).toNat)
      case atStart => exact ⟨0, y, cy, by omega, by rw [show l0 ++ Sgn.ends (fun j => p.getD j 0#64) 0 = l0 from List.append_nil _], rfl, by rw [show l0 ++ Sgn.ends (fun j => p.getD j 0#64) 0 = l0 from List.append_nil _]; exact HO.out, hBr⟩
      case round =>
        clear HO
        obtain ⟨i, y, cy, hi, rfl, rfl, hown, hBs⟩ := hrel
        by_cases hlt : i < n
        · have hki : decide ((i : Int) < (n : Int)) = true := by simp; omega
          obtain ⟨b, o, rfl, hci⟩ := hp1.cell i (by have := HN.out; omega)
          have hci2 := later hBs hci
          obtain ⟨lx, hlx⟩ : ∃ l, Dig.bytes (p.getD i 0#64) = l := ⟨_, rfl⟩
          have nx : lx.length = 8 := by rw [← hlx]; exact Dig.bytes_length _
          have cx := bytes_any (p.getD i 0#64)
          rw [hlx] at cx
          have hle := Sgn.ends_length (fun j => p.getD j 0#64) i
          have hE : l0 ++ Sgn.ends (fun j => p.getD j 0#64) (i + 1) = (l0 ++ Sgn.ends (fun j => p.getD j 0#64) i) ++ lx := by rw [← hlx, List.append_assoc]; rfl
          obtain ⟨l, hl⟩ : ∃ l, l0 ++ Sgn.ends (fun j => p.getD j 0#64) i = l := ⟨_, rfl⟩
          have hll : l.length ≤ 300 := by rw [← hl, List.length_append, HN0.out]; omega
          rw [hl] at hown hE ⊢
          obtain ⟨v, hv⟩ : ∃ v, p.getD i 0#64 = v := ⟨_, rfl⟩
          rw [hv] at cx hci hci2
          obtain ⟨lm, hlm⟩ : ∃ lm, l ++ lx = lm := ⟨_, rfl⟩
          rw [hlm] at hE
          have HM := Lib.hid hE
          have HE := Lib.hid hlm
          have HO := Lib.hid hown
          have HX := Lib.hid nx
          have HLL := Lib.hid hll
          clear hlx nx hle hE hlm hl hown hll hv hci hp1
          go_wp2_with fail
          refine (cx _).mono ?_
          rintro e w2 ⟨b2, rfl, y2, hb2⟩
          clear cx hci2
          have h2 := HO.out.later hb2
          have hB2 := thru hBs hb2
          clear HO hBs hb2
          go_wp2_with (at_builtin; refine wpList_app rfl _ _ rfl (B := W.heap.size) (l := l) h2 rfl (m := lx) rfl y2 (fun h => by cases h) (by have := HX.out; have := HLL.out; omega) HE.out hB2.size ?_; intro x' cap' w3 h3 h4 h5; refine Hid.out ?_)
          unfold Hid
          have hB3 := hB2.trans h4
          have H3 := Lib.hid h3
          clear h2 hB2 h4 h5 h3 y2
          go_wp2_with fail
          go_roundw
          case rel => exact ⟨i + 1, x', cap', by omega, by rw [HM.out], by go_num, by rw [HM.out]; exact H3.out, hB3⟩
          case measure => simp [intOf]; omega
        · obtain rfl : i = n := by omega
          have HH := Lib.hid hown
          clear hown hp1
          go_wp2_with fail
          refine bodyPost_ret (v := .tuple #[.slice y (l0 ++ Sgn.ends (fun j => p.getD j 0#64) i).length cy, .int .i64 0]) (by simp [results, Tryz.f29, go_sem]) rfl ⟨y, cy, ?_, ?_, ?_⟩
          · rw [HL.out]
          · rw [← HL.out]; exact HH.out.weaken hB.size
          · exact thru hB hBs
end

section
open Go.RowKit

section
variable {P : Program} {w : World}
/-- Cells that are integers of one kind. -/
def intV (k : IntKind) (a : Nat → Int) (j : Nat) : Value := .int k (a j)
theorem run_part_int {e : TypeId} {k : IntKind} (he : P.underlying e = some (.int k)) {n i : Nat} {v : Nat → Value} (hi : i < n) : (part e ((List.range n).map v).toArray i).run P w = .ok (v i) w := by
  have hg := listN_get n v i hi
  simp [part, isAgg, run_underlying he, hi]
def eqUpTo (a b : Nat → Int) : Nat → Nat → Bool
  | _, 0 => true
  | s, m + 1 => (a s == b s) && eqUpTo a b (s + 1) m
theorem eqUpTo_iff (a b : Nat → Int) : ∀ m s, eqUpTo a b s m = true ↔ ∀ j, s ≤ j → j < s + m → a j = b j
  | 0, s => by simp [eqUpTo]; omega
  | m + 1, s => by
    simp only [eqUpTo, Bool.and_eq_true, beq_iff_eq, eqUpTo_iff a b m (s + 1)]
    constructor
    · rintro ⟨h0, h⟩ j h1 h2
      by_cases e : j = s
      · rw [e]; exact h0
      · exact h j (by omega) (by omega)
    · intro h
      exact ⟨h s (Nat.le_refl _) (by omega), fun j h1 h2 => h j (by omega) (by omega)⟩
theorem run_equalIn_arr (d : Nat) {t e : TypeId} {k : IntKind} {n : Nat} (ht : P.underlying t = some (.array n e)) (he : P.underlying e = some (.int k)) (hs : (P.info? e).map (·.size) = some 1) (a b : Nat → Int) :
    (Op.equalIn (d + 2) t (aggN n (intV k a)) (aggN n (intV k b))).run P w = .ok (eqUpTo a b 0 n) w := by
  cases hq : P.info? e with
  | none => simp [hq] at hs
  | some i =>
    have hz : i.size = 1 := by simp [hq] at hs; exact hs
    unfold aggN
    rw [Op.equalIn]
    simp only [Sem.run_bind, run_underlying ht, Result.andThen_ok, sizeOf, typeInfo, run_program, hq, Sem.run_pure, hz, Nat.mul_one]
    simp only [Std.Legacy.Range.forIn_eq_forIn_range', Std.Legacy.Range.size, Nat.sub_zero, Nat.add_sub_cancel, Nat.div_one]
    have hr : ∀ m s, s + m ≤ n → ((forIn (List.range' s m) (none, ()) fun i (_ : Option Bool × Unit) => do
        let x ← part e ((List.range n).map (intV k a)).toArray i
        let y ← part e ((List.range n).map (intV k b)).toArray i
        let r ← Op.equalIn (d + 1) e x y
        if (!r) = true then pure (ForInStep.done (some false, ())) else pure (ForInStep.yield (none, ()))) : Sem (Option Bool × Unit)).run P w = .ok (if eqUpTo a b s m then (none, ()) else (some false, ())) w := by
      intro m
      induction m with
      | zero => intro s _; simp [eqUpTo]
      | succ m ih =>
        intro s hs
        simp only [eqUpTo]
        simp only [List.range'_succ, List.forIn_cons, Sem.run_bind, run_part_int he (show s < n by omega), Result.andThen_ok, intV, run_equalIn_int w d e k k _ _ he]
        by_cases h : a s = b s
        · simp only [h, beq_self_eq_true, Bool.not_true, Bool.false_eq_true, if_false, Sem.run_pure, Result.andThen_ok, Bool.true_and]
          exact ih (s + 1) (by omega)
        · simp [h, Result.andThen]
    rw [hr n 0 (by omega)]
    cases eqUpTo a b 0 n <;> simp [Result.andThen]
variable {ops : Array Oper} {rest : List Oper} {o : Oper} {a : Act} {Q : Exit → Act → World → Prop}
theorem wpList_neqA (hg : Region.wanted o (yielded ops a.tmps) = true) (t t' : TypeId) (x y : Operand) (ho : o.op = .binOp .neq t x y t') {k : IntKind} {n : Nat} {f g : Nat → Int} {e : TypeId} (hx : a.eval x = aggN n (intV k f)) (hy : a.eval y = aggN n (intV k g))
    (ht : P.underlying t = some (.array n e)) (he : P.underlying e = some (.int k)) (hs : (P.info? e).map (·.size) = some 1) (hm : P.eqGuardType P.depth t = false) (h : wpList P ops Q rest (a.put o.dst (.bool (!eqUpTo f g 0 n))) w) : wpList P ops Q (o :: rest) a w :=
  wpList_step fun K hK => by
    rw [if_pos hg]
    have h1 : (eqGuard .neq t x y (aggN n (intV k f)) (aggN n (intV k g))).run P w = .ok () w := run_eqGuard_agg w .neq t x y _ _ hm
    have h2 : (Go.binOp .neq t (aggN n (intV k f)) (aggN n (intV k g))).run P w = .ok (.bool (!eqUpTo f g 0 n)) w := by
      have h3 := run_equalIn_arr (P := P) (w := w) 9998 ht he hs f g
      unfold aggN at h3 ⊢
      rw [run_neq_struct, h3]
      rfl
    unfold Oper.wp
    simp [execOp, ho, hx, hy, h1, h2, Result.andThen]
    exact hK _ _ h
theorem wpList_loadN_w (hg : Region.wanted o (yielded ops a.tmps) = true) (t : TypeId) (p : Operand) (ho : o.op = .load t p) {b q : Nat} (hp : a.eval p = .pointer (some ⟨b, q, none⟩)) {v : Value} (hrun : (loadVar t ⟨b, q, none⟩).run P w = .ok v w)
    (h : wpList P ops Q rest (a.put o.dst v) w) : wpList P ops Q (o :: rest) a w :=
  wpList_step fun K hK => by
    rw [if_pos hg]
    unfold Oper.wp
    simp [execOp, ho, hp, Instr.loadAt, Instr.sureAddr, hrun, Result.andThen]
    exact hK _ _ h
end
end

section
open Go.RowKit

theorem word_under : Tryz.prog.underlying 23 = some (.int .u64) := by kernel_rfl
theorem word_size : (Tryz.prog.info? 23).map (·.size) = some 1 := by kernel_rfl
theorem arrW_guard : Tryz.prog.eqGuardType Tryz.prog.depth 24 = false := by kernel_rfl
theorem wrd_int (f : Nat → D64) : wrdV f = intV .u64 (fun j => num (f j)) := rfl
theorem run_loadC {W : World} {b : Nat} {f : Nat → D64} (g : Blk W b 1 18 (wrdV f)) : (loadVar 24 ⟨b, 1, none⟩).run Tryz.prog W = .ok (aggN 18 (intV .u64 (fun j => num (f j)))) W := run_loadN g arrW_underlying rfl arrW_size
set_option maxHeartbeats 1000000 in
theorem same_yes (k : Int) (f1 f2 : Nat → D64) (he : ∀ j, j < 18 → f1 j = f2 j) (x1 x2 : Option Addr) (p : List D64) (c1 c2 : Nat) (w : World) (h1 : Wts w x1 p) (h2 : Wts w x2 p) (hl : p.length ≤ 100) :
    Calls Tryz.prog 37 #[aggN 20 (sigV k f1 x1 p.length c1), aggN 20 (sigV k f2 x2 p.length c2)] w (YesOf w) := by
  obtain ⟨n, hn⟩ : ∃ n, p.length = n := ⟨_, rfl⟩
  have HN := Lib.hid hn
  have hq : eqUpTo (fun j => num (f1 j)) (fun j => num (f2 j)) 0 18 = true := (eqUpTo_iff _ _ _ _).2 fun j _ hj => by rw [he j (by omega)]
  rw [hn] at hl ⊢
  clear hn he
  go_enter Tryz.func37, Tryz.ntmps37
  go_wp2_with (refine wpList_boxN rfl _ _ rfl (v := sigV k f1 x1 n c1) rfl ?_; intro W1 g1 hB hz; refine Hid.out ?_)
  unfold Hid
  obtain ⟨a, ha⟩ : ∃ a, w.heap.size = a := ⟨_, rfl⟩
  rw [ha] at g1 ⊢
  have z1 : a < W1.heap.size := by omega
  clear ha hz
  go_wp2_with (refine wpList_boxN rfl _ _ rfl (v := sigV k f2 x2 n c2) rfl ?_; intro W2 g2 hB2 hz2; refine Hid.out ?_)
  unfold Hid
  obtain ⟨b, hb⟩ : ∃ b, W1.heap.size = b := ⟨_, rfl⟩
  rw [hb] at g2 ⊢
  replace g1 := g1.later hB2
  replace hB := thru hB hB2
  replace h1 := h1.later (hB.mono (Nat.le_refl _))
  replace h2 := h2.later (hB.mono (Nat.le_refl _))
  clear hb hz2 hB2 z1
  have r0 : W2.cell? ⟨a, 0, none⟩ = some (.int .i64 k) := (g1.at 0 (by omega)).1
  have r19 : W2.cell? ⟨a, 19, none⟩ = some (.slice x1 n c1) := (g1.at 19 (by omega)).1
  have s0 : W2.cell? ⟨b, 0, none⟩ = some (.int .i64 k) := (g2.at 0 (by omega)).1
  have s19 : W2.cell? ⟨b, 19, none⟩ = some (.slice x2 n c2) := (g2.at 19 (by omega)).1
  have l1 := run_loadC g1.chain
  have l2 := run_loadC g2.chain
  clear g1 g2
  go_wp2_with (first | (refine wpList_loadN_w rfl _ _ rfl (b := a) (q := 1) rfl l1 ?_) | (refine wpList_loadN_w rfl _ _ rfl (b := b) (q := 1) rfl l2 ?_) | (refine wpList_neqA rfl _ _ _ _ rfl rfl rfl arrW_underlying word_under word_size arrW_guard ?_; rw [hq]))
  clear l1 l2 hq
  go_loopw [30] (fun u30 wr => ∃ i : Nat, i ≤ n ∧ u30 = .int .i64 (i : Int) ∧ Below W2.heap.size W2 wr) (fun u30 _ => n - (intOf u30).toNat)
  case atStart => exact ⟨0, by omega, rfl, Below.refl _ _⟩
  case round =>
    clear r0 s0
    obtain ⟨i, hi, rfl, hBr⟩ := hrel
    have r := later hBr r19
    have s := later hBr s19
    by_cases hlt : i < n
    · have hki : decide ((i : Int) < (n : Int)) = true := by simp; omega
      obtain ⟨b1, o1, rfl, k1⟩ := h1.cell i (by have := HN.out; omega)
      obtain ⟨b2, o2, rfl, k2⟩ := h2.cell i (by have := HN.out; omega)
      replace k1 := later hBr k1
      replace k2 := later hBr k2
      obtain ⟨y, hy⟩ : ∃ y, p.getD i 0#64 = y := ⟨_, rfl⟩
      rw [hy] at k1 k2
      clear hy h1 h2 r19 s19
      go_wp2_with fail
      refine wp_region_sched (fun W => W.cell? ⟨a, 19, none⟩ = some (.slice (some ⟨b1, o1, none⟩) n c1) ∧ W.cell? ⟨b, 19, none⟩ = some (.slice (some ⟨b2, o2, none⟩) n c2) ∧ W.cell? ⟨b1, o1 + i, none⟩ = some (.int .u64 (num y)) ∧ W.cell? ⟨b2, o2 + i, none⟩ = some (.int .u64 (num y)) ∧ Below W2.heap.size W2 W) (.done [0, 1, 2, 3, 4, 5, 6, 7, 8, 9, 10]) (by kernel_rfl) (by kernel_rfl) (fun _ _ _ _ _ h => h) ⟨(by go_simp), (by go_simp), (by go_simp), (by go_simp), hBr.drew⟩ ?_
      clear r s k1 k2 hBr
      rintro W ⟨r, s, k1, k2, hBr⟩
      rw [wpSched]
      simp only [pick, List.map_cons, List.map_nil, Array.getD_eq_getD_getElem?, List.getElem?_toArray, List.getElem?_cons_succ, List.getElem?_cons_zero, Option.getD_some]
      have kr := plusW_cell r
      have ks := plusW_cell s
      have kk1 := plusW_cell k1
      have kk2 := plusW_cell k2
      repeat (first | go_big_quiet_step (fail) | quiet_step (fail))
      refine wpQuiet_nil ?_
      clear kr ks kk1 kk2
      go_wp2_with fail
      exact ⟨⟨i + 1, by omega, by go_num, hBr⟩, by simp [intOf]; omega⟩
    · obtain rfl : i = n := by omega
      clear h1 h2 r19 s19
      go_wp2_with fail
      go_ret
      exact ⟨rfl, thru hB hBr⟩
end

section
open Go.RowKit

def iV (u : Nat → Nat) (j : Nat) : Value := .int .i64 ((u j : Nat) : Int)
theorem arrI_zero : (Tryz.prog.info? 123).map (·.zero) = some (some (aggN 18 (iV fun _ => 0))) := by kernel_rfl
theorem sig_zero : (Tryz.prog.info? 27).map (·.zero) = some (some (aggN 20 zeroS)) := by kernel_rfl
theorem digits_c (d : D64) (m : Int) (hm : m = num d) (u : Nat → Nat) (hv : ∀ j, j < 18 → Sgn.dig d j = u j) (w : World) : Calls Tryz.prog 68 #[.int .u64 m] w fun e w' => e = .returned (aggN 18 (iV u)) ∧ Below w.heap.size w w' := by
  subst hm
  refine (digits_any d w).mono ?_
  rintro e w' ⟨rfl, hb⟩
  refine ⟨?_, hb⟩
  rw [← aggN_arr]
  exact congrArg _ (aggN_congr fun j hj => by unfold digV iV; rw [hv j hj])
def dU0 (j : Nat) : Nat := if j = 17 then 15 else 0
def dUF (j : Nat) : Nat := if j < 16 then 15 else 0
def dU1 (j : Nat) : Nat := if j = 0 then 1 else if j < 16 then 0 else if j = 16 then 15 else 14
theorem dig_u0 : ∀ j, j < 18 → Sgn.dig 0#64 j = dU0 j := by decide +kernel
theorem dig_uF : ∀ j, j < 18 → Sgn.dig 18446744073709551615#64 j = dUF j := by decide +kernel
theorem dig_u1 : ∀ j, j < 18 → Sgn.dig 1#64 j = dU1 j := by decide +kernel
theorem Blk.iat {W : World} {b : Nat} {u : Nat → Nat} (h : Blk W b 0 18 (iV u)) (i : Nat) (hi : i < 18) (m : Nat) (hm : u i = m) : W.cell? ⟨b, i, none⟩ = some (.int .i64 (m : Int)) := by
  subst hm; exact (h.at i hi).1

theorem Wts.lt {W : World} {x : Option Addr} {l : List D64} (h : Wts W x l) (h0 : 0 < l.length) : ∀ a, x = some a → a.block < W.heap.size := by
  obtain ⟨b, o, rfl, hc⟩ := h.cell 0 h0
  intro a ha
  cases ha
  exact World.block_lt_of_cell? _ _ hc

end

section
open Go.RowKit

theorem verify1_any (d : D64) (f : Nat → D64) (i b1 b2 : Nat) (w : World) (hi : i < 18) (h1 : Arr w b1 (digV d)) (h2 : Blk w b2 1 18 (wrdV f)) :
    Calls Tryz.prog 70 #[.int .i64 (i : Int), .pointer (some ⟨b1, 0, none⟩), .pointer (some ⟨b2, 0, none⟩)] w (NumOf (Sgn.adv (UInt8.ofNat i) (Sgn.dig d i) (15 - Sgn.dig d i) (f i)) w) := by
  have c1 := (h1 i hi).1
  unfold digV at c1
  have c2 : w.cell? ⟨b2, 1 + i, none⟩ = some (.int .u64 (num (f i))) := (h2 i hi).1
  have hx15 := Sgn.dig_le d i
  obtain ⟨z, hz⟩ : ∃ z, Sgn.adv (UInt8.ofNat i) (Sgn.dig d i) (15 - Sgn.dig d i) (f i) = z := ⟨_, rfl⟩
  rw [hz]
  obtain ⟨x, hx⟩ : ∃ x, Sgn.dig d i = x := ⟨_, rfl⟩
  obtain ⟨y, hy⟩ : ∃ y, f i = y := ⟨_, rfl⟩
  rw [hx] at c1 hx15 hz
  rw [hy] at c2 hz
  have HV := Lib.hid hz
  have hi18 : decide ((i : Int) < 18) = true := by simp; omega
  clear hz hx hy h1 h2
  have hB := Below.refl w.heap.size w
  go_enter Tryz.func70, Tryz.ntmps70
  go_wp2_with fail
  refine wp_region_sched (fun W => W.cell? ⟨b1, i, none⟩ = some (.int .i64 (x : Int)) ∧ W.cell? ⟨b2, 1 + i, none⟩ = some (.int .u64 (num y)) ∧ Below w.heap.size w W) (.one [0, 1, 2, 3, 4, 5, 6, 7] 8 (.done [9])) (by kernel_rfl) (by kernel_rfl) (fun _ _ _ _ _ h => h) ⟨(by go_simp), (by go_simp), hB.drew⟩ ?_
  clear hB c1 c2
  rintro W ⟨g1_0, g1_1, hB⟩
  rw [wpSched]
  simp only [pick, List.map_cons, List.map_nil, Array.getD_eq_getD_getElem?, List.getElem?_toArray, List.getElem?_cons_succ, List.getElem?_cons_zero, Option.getD_some]
  have kg1_0 := plusW_cell g1_0
  have kg1_1 := plusW_cell g1_1
  repeat (first | go_big_quiet_step (fail) | quiet_step (fail))
  refine wpQuiet_nil ?_
  clear kg1_0 kg1_1
  refine heavy_want (by rfl) (fun K' hK' => ?_)
  go_simp
  refine (advance_any i x 15 y _ hx15 (by omega)).mono ?_
  rintro e W1 ⟨rfl, hb⟩
  refine hK' _ _ hb ?_
  clear hK' K'
  rw [HV.out]
  have hq := thru (Below.refl _ W) hb
  clear hb
  have g2_0 := later hq g1_0
  have g2_1 := later hq g1_1
  replace hB := thru hB hq
  clear hq g1_0 g1_1
  try simp only [Act.put, List.setIfInBounds_toArray, List.set_cons_zero, List.set_cons_succ]
  rw [wpSched]
  simp only [pick, List.map_cons, List.map_nil, Array.getD_eq_getD_getElem?, List.getElem?_toArray, List.getElem?_cons_succ, List.getElem?_cons_zero, Option.getD_some]
  repeat (first | go_big_quiet_step (fail) | quiet_step (fail))
  refine wpQuiet_nil ?_
  go_wp2_with fail
  go_ret
  exact ⟨rfl, hB⟩
theorem low1 : ∀ m : Fin 64, bits .and .i64 (m.1 : Int) 1 = ((m.1 % 2 : Nat) : Int) := by decide +kernel
theorem verify_no (root : D64) (h : Int) (d : D64) (key : Int) (f : Nat → D64) (x : Option Addr) (n c : Nat) (w : World) (hn : vldG h key = false ∨ (n : Int) ≠ h) :
    Calls Tryz.prog 38 #[.int .u64 (num root), .int .i64 h, .int .u64 (num d), aggN 20 (sigV key f x n c)] w fun e w' => e = .returned (.bool false) ∧ Below w.heap.size w w' := by
  go_enter Tryz.func38, Tryz.ntmps38
  go_wp2_with (refine wpList_boxN rfl _ _ rfl rfl ?_; intro W g hB hz; refine Hid.out ?_)
  unfold Hid
  have c0 : W.cell? ⟨w.heap.size, 0, none⟩ = some (.int .i64 key) := (g.at 0 (by omega)).1
  have c19 : W.cell? ⟨w.heap.size, 19, none⟩ = some (.slice x n c) := (g.at 19 (by omega)).1
  clear g hz
  cases hv : vldG h key with
  | false =>
    clear hn
    go_wp2_with fail
    refine (valid_no h key hv _).mono ?_
    rintro e w1 ⟨rfl, hw⟩
    obtain rfl : W = w1 := hw.symm
    go_wp2_with fail
    go_ret
    exact ⟨rfl, hB⟩
  | true =>
    have hne : ((n : Int) == h) = false := by
      rcases hn with hn | hn
      · rw [hv] at hn; cases hn
      · simp [hn]
    have hv2 := svalid_any h key
    rw [hv] at hv2
    clear hn hv
    go_wp2_with fail
    refine (hv2 _).mono ?_
    rintro e w1 ⟨rfl, hw⟩
    obtain rfl : W = w1 := hw.symm
    clear hv2
    go_wp2_with fail
    go_ret
    exact ⟨rfl, hB⟩
/-- The end of the way up. -/
def Sgn.vfy (d : D64) (key : Nat) (f : Nat → D64) (p : List D64) : D64 := Sgn.up key p (Sgn.pubE fun i => Sgn.adv (UInt8.ofNat i) (Sgn.dig d i) (15 - Sgn.dig d i) (f i)) p.length
set_option maxHeartbeats 2000000 in
theorem verify_yes (root d : D64) (key : Nat) (f : Nat → D64) (p : List D64) (x : Option Addr) (c : Nat) (w : World) (hp : Wts w x p) (h6 : p.length ≤ 6) (hk : key < 2 ^ p.length) :
    Calls Tryz.prog 38 #[.int .u64 (num root), .int .i64 (p.length : Int), .int .u64 (num d), aggN 20 (sigV (key : Int) f x p.length c)] w fun e w' => e = .returned (.bool (Sgn.vfy d key f p == root)) ∧ Below w.heap.size w w' := by
  have hki : (key : Int) < 2 ^ p.length := by
    have : ((key : Nat) : Int) < ((2 ^ p.length : Nat) : Int) := by exact_mod_cast hk
    simpa using this
  have hk64 : key < 64 := Nat.lt_of_lt_of_le hk (Nat.pow_le_pow_right (n := 2) (by decide) h6)
  have HV := valid_yes p.length (key : Int) h6 (by omega) hki
  have HVF : Hid (Sgn.vfy d key f p = Sgn.up key p (Sgn.pubE fun i => Sgn.adv (UInt8.ofNat i) (Sgn.dig d i) (15 - Sgn.dig d i) (f i)) p.length) := rfl
  obtain ⟨n, hn⟩ : ∃ n, p.length = n := ⟨_, rfl⟩
  have HN := Lib.hid hn
  rw [hn] at h6 HV HVF ⊢
  have hnn : ((n : Int) == (n : Int)) = true := by simp
  clear hk hki hn
  go_enter Tryz.func38, Tryz.ntmps38
  go_wp2_with (refine wpList_boxN rfl _ _ rfl rfl ?_; intro W g hB hz; refine Hid.out ?_)
  unfold Hid
  obtain ⟨a, ha⟩ : ∃ a, w.heap.size = a := ⟨_, rfl⟩
  rw [ha] at g hz ⊢
  have c0 : W.cell? ⟨a, 0, none⟩ = some (.int .i64 (key : Int)) := (g.at 0 (by omega)).1
  have c19 : W.cell? ⟨a, 19, none⟩ = some (.slice x n c) := (g.at 19 (by omega)).1
  have gc := g.chain
  have hp1 := hp.later (hB.mono (Nat.le_refl _))
  clear g hp hz ha
  go_wp2_with fail
  refine (HV _).mono ?_
  rintro e w1 ⟨rfl, hw⟩
  obtain rfl : W = w1 := hw.symm
  clear HV hw
  go_wp2_with fail
  refine (digits_any d _).mono ?_
  rintro e W1 ⟨rfl, hb⟩
  replace hB := thru hB hb
  replace c0 := later hb c0
  replace c19 := later hb c19
  replace gc := gc.later hb
  replace hp1 := hp1.later hb
  clear hb
  go_wp2_with (refine wpList_allocTo 9 rfl rfl _ rfl arrI_zero ?_; intro X1 a1 hb hz; refine Hid.out ?_)
  unfold Hid
  try simp only [Act.put, List.setIfInBounds_toArray, List.set_cons_zero, List.set_cons_succ]
  obtain ⟨b, hb1⟩ : ∃ a, W1.heap.size = a := ⟨_, rfl⟩
  have s1 : w.heap.size ≤ b := hb1 ▸ hB.size
  have s2 : a < b := hb1 ▸ World.block_lt_of_cell? _ _ c0
  have hx : ∀ y, x = some y → 0 < p.length → y.block < b := fun y hy h0 => hb1 ▸ hp1.lt h0 y hy
  replace hB := thru hB hb
  replace c0 := later hb c0
  replace c19 := later hb c19
  replace gc := gc.later hb
  replace hp1 := hp1.later hb
  rw [hb1] at a1 hz ⊢
  clear hb hb1
  go_wp2_with (refine wpList_storeB rfl rfl _ (.tmp 9) _ rfl (b := b) (q := 0) rfl (aggN_arr _).symm a1 (fun _ _ => rfl) arrI_size ?_; intro Y1 t1; refine Hid.out ?_)
  unfold Hid
  replace hB := t1.below _ _ (by omega) hB
  have a2 := t1.blk.arr
  have hab : a ≠ b := by omega
  replace c0 := (t1.cell ⟨a, 0, none⟩ (fun e _ => absurd e hab)).trans c0
  replace c19 := (t1.cell ⟨a, 19, none⟩ (fun e _ => absurd e hab)).trans c19
  replace gc := t1.other (.inl hab) gc
  have hp2 : Wts Y1 x p := by
    rcases hp1 with h | ⟨b', o', rfl, hc⟩
    · exact .inl h
    · refine .inr ⟨b', o', rfl, fun i hi => (t1.cell ⟨b', o' + i, none⟩ (fun e _ => ?_)).trans (hc i hi)⟩
      have h1 := hx _ rfl (by omega)
      have e' : b' = b := e
      have h2 : b' < b := h1
      omega
  clear t1 a1 hp1 hx hz s1 s2 hab
  have hmf : ∀ (fn : Fn) (first cap : Array Value) (w : World), (Instr.makeFunc fn first cap).run Tryz.prog w = .ok (.func fn first cap) w := fun _ _ _ _ => rfl
  go_wp2_with fail
  refine (values_any 70 #[.pointer (some ⟨b, 0, none⟩), .pointer (some ⟨a, 0, none⟩)] (fun i => Sgn.adv (UInt8.ofNat i) (Sgn.dig d i) (15 - Sgn.dig d i) (f i)) _ (enters_of Tryz.func70 (by kernel_rfl) rfl) (fun i W hi hb => verify1_any d f i b a W hi (a2.later hb) (gc.later hb))).mono ?_
  rintro e W2 ⟨rfl, hb⟩
  replace hB := thru hB hb
  replace c0 := later hb c0
  replace c19 := later hb c19
  replace hp2 := hp2.later hb
  clear hb a2 gc
  go_wp2_with fail
  refine (public_any _ _).mono ?_
  rintro e W3 ⟨rfl, hb⟩
  replace hB := thru hB hb
  replace c0 := later hb c0
  replace c19 := later hb c19
  replace hp2 := hp2.later hb
  clear hb hmf
  obtain ⟨x0, hx0⟩ : ∃ x, Sgn.pubE (fun i => Sgn.adv (UInt8.ofNat i) (Sgn.dig d i) (15 - Sgn.dig d i) (f i)) = x := ⟨_, rfl⟩
  rw [hx0] at HVF ⊢
  clear hx0
  go_wp2_with fail
  go_loopw [10, 33] (fun u10 u33 wr => ∃ j : Nat, j ≤ n ∧ u33 = .int .i64 (j : Int) ∧ u10 = .int .u64 (num (Sgn.up key p x0 j)) ∧ Below W3.heap.size W3 wr) (fun _ u33 _ => n - (intOf u33).toNat)
  case atStart => exact ⟨0, by omega, rfl, rfl, Below.refl _ _⟩
  case round =>
    obtain ⟨j, hj, rfl, rfl, hBr⟩ := hrel
    by_cases hlt : j < n
    · have hjn : decide ((j : Int) < (n : Int)) = true := by simp; omega
      obtain ⟨b', o', rfl, k1⟩ := hp2.cell j (by have := HN.out; omega)
      replace k1 := later hBr k1
      replace c0 := later hBr c0
      have hup : Sgn.up key p x0 (j + 1) = if key / 2 ^ j % 2 = 0 then Dig.pair (Sgn.up key p x0 j) (p.getD j 0#64) else Dig.pair (p.getD j 0#64) (Sgn.up key p x0 j) := rfl
      have hm64 : key / 2 ^ j < 64 := Nat.lt_of_le_of_lt (Nat.div_le_self _ _) hk64
      have hsh : (key : Int) / 2 ^ j = ((key / 2 ^ j : Nat) : Int) := by simp
      obtain ⟨m, hm⟩ : ∃ m, key / 2 ^ j = m := ⟨_, rfl⟩
      rw [hm] at hup hm64 hsh
      have hl1 : bits .and .i64 (m : Int) 1 = ((m % 2 : Nat) : Int) := low1 ⟨m, hm64⟩
      obtain ⟨y, hy⟩ : ∃ y, p.getD j 0#64 = y := ⟨_, rfl⟩
      rw [hy] at hup k1
      obtain ⟨z, hz⟩ : ∃ y, Sgn.up key p x0 j = y := ⟨_, rfl⟩
      rw [hz] at hup ⊢
      obtain ⟨r, hr⟩ : ∃ r, m % 2 = r := ⟨_, rfl⟩
      rw [hr] at hup hl1
      have hj63 : j < 64 := by omega
      have HU := Lib.hid hup
      clear hm hy hz hr hup hp2 c19 hm64
      by_cases h0 : r = 0
      · subst h0
        go_wp2_with fail
        refine (pair_any z y _).mono ?_
        rintro e W4 ⟨rfl, hb⟩
        replace hBr := thru hBr hb
        clear hb
        have HE := Lib.hid (show Sgn.up key p x0 (j + 1) = Dig.pair z y by rw [HU.out]; simp)
        go_wp2_with fail
        exact ⟨⟨j + 1, by omega, by go_num, by rw [HE.out], hBr⟩, by simp [intOf]; omega⟩
      · have hr0 : ((r : Int) == 0) = false := by simp [h0]
        go_wp2_with fail
        refine (pair_any y z _).mono ?_
        rintro e W4 ⟨rfl, hb⟩
        replace hBr := thru hBr hb
        clear hb
        have HE := Lib.hid (show Sgn.up key p x0 (j + 1) = Dig.pair y z by rw [HU.out, if_neg h0])
        go_wp2_with fail
        exact ⟨⟨j + 1, by omega, by go_num, by rw [HE.out], hBr⟩, by simp [intOf]; omega⟩
    · obtain rfl : j = n := by omega
      clear hp2 c0 c19
      go_wp2_with fail
      go_ret
      exact ⟨by rw [HVF.out]; rfl, thru hB hBr⟩
end

section
open Go.RowKit

theorem shl_byte (v : UInt8) (z : Nat) : IntKind.u64.wrap ((v.toNat : Int) * 2 ^ z) = num (Dig.ofB v <<< z) := by
  rw [u8_num v, ← shl_of]
  simp
theorem Bts.at {W : World} {x : Option Addr} {l : List UInt8} (h : Bts W x l) (h0 : 0 < l.length) : ∃ b o, x = some ⟨b, o, none⟩ ∧ ∀ i, i < l.length → W.cell? ⟨b, o + i, none⟩ = some (.int .u8 ((l.getD i 0).toNat : Int)) := by
  rcases h with h | ⟨b, o, hx, hc⟩
  · subst h; simp at h0
  · exact ⟨b, o, hx, hc⟩
set_option maxHeartbeats 1000000 in
theorem word_any (i b : Nat) (l : List UInt8) (x : Option Addr) (c : Nat) (w : World) (hx : Bts w x l) (hb : w.cell? ⟨b, 0, none⟩ = some (.slice x l.length c)) (hi : 10 + 8 * i ≤ l.length) (h25 : i ≤ 24) :
    Calls Tryz.prog 65 #[.int .i64 (i : Int), .pointer (some ⟨b, 0, none⟩)] w (NumOf (Sgn.wd l (2 + 8 * i) 8) w) := by
  obtain ⟨g, o, rfl, hc⟩ := hx.at (by omega)
  have HC := Lib.hid hc
  obtain ⟨n, hn⟩ : ∃ n, l.length = n := ⟨_, rfl⟩
  have HN := Lib.hid hn
  rw [hn] at hb hi
  obtain ⟨s, hs⟩ : ∃ s, 8 * i = s := ⟨_, rfl⟩
  have h8i : 8 * (i : Int) = (s : Int) := by omega
  obtain ⟨t, ht⟩ : ∃ t, 2 + s = t := ⟨_, rfl⟩
  have h2s : 2 + (s : Int) = (t : Int) := by omega
  rw [hs] at hi ⊢
  rw [ht]
  have HT := Lib.hid ht
  have htn : t + 8 ≤ n := by omega
  have ht200 : t ≤ 200 := by omega
  have hs200 : s ≤ 200 := by omega
  clear hx hn hs ht hc
  go_enter Tryz.func65, Tryz.ntmps65
  go_wp2_with fail
  go_loopw [4, 6] (fun u4 u6 wr => ∃ k : Nat, k ≤ 8 ∧ u6 = .int .i64 (k : Int) ∧ u4 = .int .u64 (num (Sgn.wd l t k)) ∧ wr = w) (fun _ u6 _ => 8 - (intOf u6).toNat)
  case atStart => exact ⟨0, by omega, rfl, rfl, rfl⟩
  case round =>
    obtain ⟨k, hk, rfl, rfl, rfl⟩ := hrel
    by_cases hlt : k < 8
    · have hki : decide ((k : Int) < 8) = true := by simp; omega
      obtain ⟨m, hm⟩ : ∃ m, t + k = m := ⟨_, rfl⟩
      have hmI : (t : Int) + (k : Int) = (m : Int) := by omega
      have hmn : m < n := by omega
      have kc := HC.out m (by have := HN.out; omega)
      have hsn := Sgn.wd_snoc l t k
      rw [hm] at hsn
      obtain ⟨v, hv⟩ : ∃ v, l.getD m 0 = v := ⟨_, rfl⟩
      rw [hv] at kc hsn
      obtain ⟨z, hz⟩ : ∃ z, 8 * k = z := ⟨_, rfl⟩
      have hzI : 8 * (k : Int) = (z : Int) := by omega
      have hz64 : z < 64 := by omega
      rw [hz] at hsn
      have hsh := shl_byte v z
      have hwv : IntKind.u64.wrap (v.toNat : Int) = (v.toNat : Int) := by have := v.toNat_lt; rw [wrap64u]; omega
      obtain ⟨y, hy⟩ : ∃ y, Dig.ofB v <<< z = y := ⟨_, rfl⟩
      rw [hy] at hsh hsn
      obtain ⟨q, hq⟩ : ∃ q, Sgn.wd l t k = q := ⟨_, rfl⟩
      rw [hq] at hsn ⊢
      have HS := Lib.hid hsn
      clear hm hv hz hy hq hsn
      go_wp2_with fail
      exact ⟨⟨k + 1, by omega, by go_num, by rw [HS.out], trivial⟩, by simp [intOf]; omega⟩
    · obtain rfl : k = 8 := by omega
      rw [show ((8 : Nat) : Int) = 8 from rfl]
      go_wp2_with fail
      go_ret
      exact ⟨rfl, Below.refl _ _⟩
def decN (l : List UInt8) : Bool := decide (2 ≤ l.length) && vldG ((l.getD 1 0).toNat : Int) ((l.getD 0 0).toNat : Int) && decide (l.length = 146 + 8 * (l.getD 1 0).toNat)

set_option maxHeartbeats 400000 in
theorem decode_no (x : Option Addr) (l : List UInt8) (c : Nat) (w : World) (hx : Bts w x l) (hn : decN l = false) : Calls Tryz.prog 33 #[.slice x l.length c] w fun e w' => e = .returned (.tuple #[aggN 20 zeroS, .int .i64 60]) ∧ Below w.heap.size w w' := by
  go_enter Tryz.func33, Tryz.ntmps33
  go_wp2_with (refine wpList_allocTo 2 rfl rfl _ rfl sig_zero ?_; intro X a_b hb0 hz0; refine Hid.out ?_)
  unfold Hid
  try simp only [Act.put, List.setIfInBounds_toArray, List.set_cons_zero, List.set_cons_succ]
  rw [World.size_alloc] at a_b hz0 ⊢
  obtain ⟨a, ea⟩ : ∃ a, w.heap.size = a := ⟨_, rfl⟩
  have s_a : w.heap.size ≤ a := by omega
  have d0 : X.cell? ⟨a, 0, none⟩ = some (.slice x l.length c) := by subst ea; exact later hb0 (by go_simp)
  have hB : Below w.heap.size w X := thru (al (Below.refl _ w) _) hb0
  have hx1 : Bts X x l := (hx.later (al (Below.refl _ w) _)).later hb0
  rw [ea] at a_b hz0 ⊢
  clear hb0 ea hx
  by_cases h2 : l.length < 2
  · have hd : decide ((l.length : Int) < 2) = true := by simp; omega
    obtain ⟨n, hnn⟩ : ∃ n, l.length = n := ⟨_, rfl⟩
    rw [hnn] at d0 hd ⊢
    clear hn hx1 h2 hnn
    go_wp2_with fail
    refine wp_region_sched (fun W => W.cell? ⟨a, 0, none⟩ = some (.slice x n c) ∧ Below X.heap.size X W) (.one [0, 1, 2, 3, 4, 5, 6, 7, 8, 9, 10, 11] 12 (.done [13, 14, 15, 16, 17, 18, 19, 20, 21, 22, 23, 24, 25, 26])) (by kernel_rfl) (by kernel_rfl) (fun _ _ _ _ _ h => h) ⟨(by go_simp), (Below.refl _ X).drew⟩ ?_
    clear d0
    rintro V ⟨d0, hXW⟩
    rw [wpSched]
    simp only [pick, List.map_cons, List.map_nil, Array.getD_eq_getD_getElem?, List.getElem?_toArray, List.getElem?_cons_succ, List.getElem?_cons_zero, Option.getD_some]
    have kd0 := plusW_cell d0
    repeat (first | go_big_quiet_step (fail) | quiet_step (fail))
    refine wpQuiet_nil ?_
    refine heavy_skip (by rfl) ?_
    try simp only [Act.put, List.setIfInBounds_toArray, List.set_cons_zero, List.set_cons_succ]
    rw [wpSched]
    simp only [pick, List.map_cons, List.map_nil, Array.getD_eq_getD_getElem?, List.getElem?_toArray, List.getElem?_cons_succ, List.getElem?_cons_zero, Option.getD_some]
    repeat (first | go_big_quiet_step (fail) | quiet_step (fail))
    refine wpQuiet_nil ?_
    clear kd0
    go_wp2_with (refine wpList_storeB rfl rfl _ (.tmp 2) _ rfl (b := a + 1) (q := 0) rfl (n := 20) (v := zeroS) rfl (a_b.later hXW) (fun j _ => sig_one _ _ _ _ _ j) sig_size ?_; intro Y1 t1; refine Hid.out ?_)
    unfold Hid
    replace hB := t1.below w.heap.size w (by omega) (thru hB hXW)
    have l1 := run_loadS t1.blk
    clear t1 a_b hXW
    go_wp2_with fail
    refine bodyPost_ret (v := .tuple #[aggN 20 zeroS, .int .i64 60]) ?_ rfl ⟨rfl, hB⟩
    rw [results_cell_tmp rfl]
    simp [asAddr, Result.andThen]
    rw [l1]
  · have hd : decide ((l.length : Int) < 2) = false := by simp; omega
    obtain ⟨g, o, rfl, hc⟩ := hx1.at (by omega)
    have k0 := hc 0 (by omega)
    have k1 := hc 1 (by omega)
    rw [Nat.add_zero] at k0
    have hv2 := svalid_any ((l.getD 1 0).toNat : Int) ((l.getD 0 0).toNat : Int)
    have hl : l.length = 146 + 8 * (l.getD 1 0).toNat → vldG ((l.getD 1 0).toNat : Int) ((l.getD 0 0).toNat : Int) = false := fun h => by
      cases hv : vldG ((l.getD 1 0).toNat : Int) ((l.getD 0 0).toNat : Int) with
      | false => rfl
      | true =>
        unfold decN at hn
        rw [hv, decide_eq_true h, decide_eq_true (by omega)] at hn
        cases hn
    obtain ⟨l0, e0⟩ : ∃ b, l.getD 0 0 = b := ⟨_, rfl⟩
    obtain ⟨l1, e1⟩ : ∃ b, l.getD 1 0 = b := ⟨_, rfl⟩
    obtain ⟨n, hnn⟩ : ∃ n, l.length = n := ⟨_, rfl⟩
    rw [hnn] at d0 hd hl h2 ⊢
    rw [e0] at k0 hv2 hl
    rw [e1] at k1 hv2 hl
    have hl256 : l1.toNat < 256 := l1.toNat_lt
    have hl0 : l0.toNat < 256 := l0.toNat_lt
    cases hv : vldG (l1.toNat : Int) (l0.toNat : Int) with
    | false =>
      rw [hv] at hv2
      have HV := hv2
      have hd2 : decide (n < 2) = false := decide_eq_false h2
      clear hn hc hx1 hnn e0 e1 hl hv hv2
      go_wp2_with fail
      refine wp_region_sched (fun W => W.cell? ⟨a, 0, none⟩ = some (.slice (some ⟨g, o, none⟩) n c) ∧ W.cell? ⟨g, o, none⟩ = some (.int .u8 (l0.toNat : Int)) ∧ W.cell? ⟨g, o + 1, none⟩ = some (.int .u8 (l1.toNat : Int)) ∧ Below X.heap.size X W) (.one [0, 1, 2, 3, 4, 5, 6, 7, 8, 9, 10, 11] 12 (.done [13, 14, 15, 16, 17, 18, 19, 20, 21, 22, 23, 24, 25, 26])) (by kernel_rfl) (by kernel_rfl) (fun _ _ _ _ _ h => h) ⟨(by go_simp), (by go_simp), (by go_simp), (Below.refl _ X).drew⟩ ?_
      clear d0 k0 k1
      rintro V ⟨d0, k0, k1, hXW⟩
      rw [wpSched]
      simp only [pick, List.map_cons, List.map_nil, Array.getD_eq_getD_getElem?, List.getElem?_toArray, List.getElem?_cons_succ, List.getElem?_cons_zero, Option.getD_some]
      have kd0 := plusW_cell d0
      have kk0 := plusW_cell k0
      have kk1 := plusW_cell k1
      repeat (first | go_big_quiet_step (fail) | quiet_step (fail))
      refine wpQuiet_nil ?_
      refine heavy_want (by rfl) (fun K' hK' => ?_)
      go_simp
      refine (HV _).mono ?_
      rintro e V1 ⟨rfl, hw⟩
      obtain rfl : V = V1 := hw.symm
      refine hK' _ _ (Below.refl _ _) ?_
      clear hK' K' HV hw
      try simp only [Act.put, List.setIfInBounds_toArray, List.set_cons_zero, List.set_cons_succ]
      rw [wpSched]
      simp only [pick, List.map_cons, List.map_nil, Array.getD_eq_getD_getElem?, List.getElem?_toArray, List.getElem?_cons_succ, List.getElem?_cons_zero, Option.getD_some]
      repeat (first | go_big_quiet_step (fail) | quiet_step (fail))
      refine wpQuiet_nil ?_
      clear kd0 kk0 kk1
      go_wp2_with (refine wpList_storeB rfl rfl _ (.tmp 2) _ rfl (b := a + 1) (q := 0) rfl (n := 20) (v := zeroS) rfl (a_b.later hXW) (fun j _ => sig_one _ _ _ _ _ j) sig_size ?_; intro Y1 t1; refine Hid.out ?_)
      unfold Hid
      replace hB := t1.below w.heap.size w (by omega) (thru hB hXW)
      have l1 := run_loadS t1.blk
      clear t1 a_b hXW
      go_wp2_with fail
      refine bodyPost_ret (v := .tuple #[aggN 20 zeroS, .int .i64 60]) ?_ rfl ⟨rfl, hB⟩
      rw [results_cell_tmp rfl]
      simp [asAddr, Result.andThen]
      rw [l1]
    | true =>
      rw [hv] at hv2
      have HV := hv2
      have hd2 : decide (n < 2) = false := decide_eq_false h2
      have hne : ¬ n = 146 + 8 * l1.toNat := fun h => by rw [hl h] at hv; cases hv
      obtain ⟨m, hm⟩ : ∃ m, l1.toNat = m := ⟨_, rfl⟩
      have hm256 : m < 256 := by omega
      rw [hm] at hne
      have h3 : ((n : Int) == 2 + 8 * (18 + (m : Int))) = false := by
        rw [beq_eq_false_iff_ne]
        omega
      clear hn hc hx1 hnn e0 e1 hl hv hv2 hl256
      rw [hm] at k1 HV
      clear hm
      go_wp2_with fail
      refine wp_region_sched (fun W => W.cell? ⟨a, 0, none⟩ = some (.slice (some ⟨g, o, none⟩) n c) ∧ W.cell? ⟨g, o, none⟩ = some (.int .u8 (l0.toNat : Int)) ∧ W.cell? ⟨g, o + 1, none⟩ = some (.int .u8 (m : Int)) ∧ Below X.heap.size X W) (.one [0, 1, 2, 3, 4, 5, 6, 7, 8, 9, 10, 11] 12 (.done [13, 14, 15, 16, 17, 18, 19, 20, 21, 22, 23, 24, 25, 26])) (by kernel_rfl) (by kernel_rfl) (fun _ _ _ _ _ h => h) ⟨(by go_simp), (by go_simp), (by go_simp), (Below.refl _ X).drew⟩ ?_
      clear d0 k0 k1
      rintro V ⟨d0, k0, k1, hXW⟩
      rw [wpSched]
      simp only [pick, List.map_cons, List.map_nil, Array.getD_eq_getD_getElem?, List.getElem?_toArray, List.getElem?_cons_succ, List.getElem?_cons_zero, Option.getD_some]
      have kd0 := plusW_cell d0
      have kk0 := plusW_cell k0
      have kk1 := plusW_cell k1
      repeat (first | go_big_quiet_step (fail) | quiet_step (fail))
      refine wpQuiet_nil ?_
      refine heavy_want (by rfl) (fun K' hK' => ?_)
      go_simp
      refine (HV _).mono ?_
      rintro e V1 ⟨rfl, hw⟩
      obtain rfl : V = V1 := hw.symm
      refine hK' _ _ (Below.refl _ _) ?_
      clear hK' K' HV hw
      try simp only [Act.put, List.setIfInBounds_toArray, List.set_cons_zero, List.set_cons_succ]
      rw [wpSched]
      simp only [pick, List.map_cons, List.map_nil, Array.getD_eq_getD_getElem?, List.getElem?_toArray, List.getElem?_cons_succ, List.getElem?_cons_zero, Option.getD_some]
      repeat (first | go_big_quiet_step (fail) | quiet_step (fail))
      refine wpQuiet_nil ?_
      clear kd0 kk0 kk1
      go_wp2_with (refine wpList_storeB rfl rfl _ (.tmp 2) _ rfl (b := a + 1) (q := 0) rfl (n := 20) (v := zeroS) rfl (a_b.later hXW) (fun j _ => sig_one _ _ _ _ _ j) sig_size ?_; intro Y1 t1; refine Hid.out ?_)
      unfold Hid
      replace hB := t1.below w.heap.size w (by omega) (thru hB hXW)
      have l1 := run_loadS t1.blk
      clear t1 a_b hXW
      go_wp2_with fail
      refine bodyPost_ret (v := .tuple #[aggN 20 zeroS, .int .i64 60]) ?_ rfl ⟨rfl, hB⟩
      rw [results_cell_tmp rfl]
      simp [asAddr, Result.andThen]
      rw [l1]
end

section
open Go.RowKit

theorem Bts.low {A B : World} {x : Option Addr} {l : List UInt8} {C : Nat} (h : Bts A x l) (hb : Below C A B) (hx : ∀ a, x = some a → a.block < C) : Bts B x l := by
  rcases h with h | ⟨b, o, rfl, hc⟩
  · exact .inl h
  · exact .inr ⟨b, o, rfl, fun i hi => (hb.cell (p := ⟨b, o + i, none⟩) (show b < C from hx ⟨b, o, none⟩ rfl)).trans (hc i hi)⟩
def sig0 (key : Int) : Nat → Value := sigV key (fun _ => 0#64) none 0 0
def DeRel (key : Int) (f : Nat → D64) (l : List UInt8) (h b4 : Nat) (Z : World) (u48 : Value) (wr : World) : Prop :=
  ∃ j x c, j ≤ h ∧ u48 = .int .i64 (j : Int) ∧ OwnsW (b4 + 1) wr x c (Sgn.wds l j) ∧ Blk wr b4 0 20 (sigV key f x (Sgn.wds l j).length c) ∧ Below b4 Z wr ∧ b4 < wr.heap.size
set_option maxHeartbeats 4000000 in
theorem decode_ok (x : Option Addr) (l : List UInt8) (c : Nat) (w : World) (hx : Bts w x l) (hv : vldG ((l.getD 1 0).toNat : Int) ((l.getD 0 0).toNat : Int) = true) (hl : l.length = 146 + 8 * (l.getD 1 0).toNat) :
    Calls Tryz.prog 33 #[.slice x l.length c] w fun e w' => ∃ y cy, e = .returned (.tuple #[aggN 20 (sigV ((l.getD 0 0).toNat : Int) (fun i => Sgn.wd l (2 + 8 * i) 8) y (l.getD 1 0).toNat cy), .int .i64 0]) ∧ OwnsW w.heap.size w' y cy (Sgn.wds l (l.getD 1 0).toNat) ∧ Below w.heap.size w w' := by
  have h2 : ¬ l.length < 2 := by omega
  have hd2 : decide (l.length < 2) = false := decide_eq_false h2
  have hv2 := svalid_any ((l.getD 1 0).toNat : Int) ((l.getD 0 0).toNat : Int)
  rw [hv] at hv2
  have h6 : (l.getD 1 0).toNat ≤ 6 := by
    unfold vldG at hv
    have := of_decide_eq_true hv
    omega
  obtain ⟨l0, e0⟩ : ∃ b, l.getD 0 0 = b := ⟨_, rfl⟩
  obtain ⟨l1, e1⟩ : ∃ b, l.getD 1 0 = b := ⟨_, rfl⟩
  rw [e0] at hv2 ⊢
  rw [e1] at hv2 hl h6 ⊢
  have HE0 := Lib.hid e0
  have HE1 := Lib.hid e1
  have hl0 : l0.toNat < 256 := l0.toNat_lt
  obtain ⟨m, hm⟩ : ∃ m, l1.toNat = m := ⟨_, rfl⟩
  have HM := Lib.hid hm
  rw [hm] at hl h6 hv2 ⊢
  have HLEN := Lib.hid hl
  clear hv hm e0 e1 hl
  go_enter Tryz.func33, Tryz.ntmps33
  go_wp2_with (refine wpList_allocTo 2 rfl rfl _ rfl sig_zero ?_; intro X a_b hb0 hz0; refine Hid.out ?_)
  unfold Hid
  try simp only [Act.put, List.setIfInBounds_toArray, List.set_cons_zero, List.set_cons_succ]
  rw [World.size_alloc] at a_b hz0 ⊢
  obtain ⟨a, ea⟩ : ∃ a, w.heap.size = a := ⟨_, rfl⟩
  have s_a : w.heap.size ≤ a := by omega
  have d0 : X.cell? ⟨a, 0, none⟩ = some (.slice x l.length c) := by subst ea; exact later hb0 (by go_simp)
  have hB : Below w.heap.size w X := thru (al (Below.refl _ w) _) hb0
  have hx1 : Bts X x l := (hx.later (al (Below.refl _ w) _)).later hb0
  rw [ea] at a_b hz0 ⊢
  clear hb0 ea hx
  obtain ⟨g, o, rfl, hc⟩ := hx1.at (by omega)
  have k0 := hc 0 (by omega)
  have k1 := hc 1 (by omega)
  rw [Nat.add_zero, HE0.out] at k0
  rw [HE1.out, HM.out] at k1
  have hxg : ∀ y, (some ⟨g, o, none⟩ : Option Addr) = some y → y.block < X.heap.size := fun y hy => by cases hy; exact World.block_lt_of_cell? _ _ k0
  obtain ⟨n, hnn⟩ : ∃ n, l.length = n := ⟨_, rfl⟩
  have HNN := Lib.hid hnn
  rw [hnn] at d0 h2 hd2 ⊢
  have hl : n = 146 + 8 * m := by rw [← hnn]; exact HLEN.out
  have hd : decide ((n : Int) < 2) = false := by simp; omega
  have hnI : ((n : Int) != 2 + 8 * (18 + (m : Int))) = false := by
    rw [bne_eq_false_iff_eq]
    omega
  have HV := hv2
  have HY := Lib.hid hx1
  have HXG := Lib.hid hxg
  have HLN0 := Lib.hid hl
  clear hv2 hc hx1 hnn hxg hl
  go_wp2_with fail
  refine wp_region_sched (fun W => W.cell? ⟨a, 0, none⟩ = some (.slice (some ⟨g, o, none⟩) n c) ∧ W.cell? ⟨g, o, none⟩ = some (.int .u8 (l0.toNat : Int)) ∧ W.cell? ⟨g, o + 1, none⟩ = some (.int .u8 (m : Int)) ∧ Below X.heap.size X W) (.one [0, 1, 2, 3, 4, 5, 6, 7, 8, 9, 10, 11] 12 (.done [13, 14, 15, 16, 17, 18, 19, 20, 21, 22, 23, 24, 25, 26])) (by kernel_rfl) (by kernel_rfl) (fun _ _ _ _ _ h => h) ⟨(by go_simp), (by go_simp), (by go_simp), (Below.refl _ X).drew⟩ ?_
  clear d0 k0 k1
  rintro V ⟨d0, k0, k1, hXW⟩
  rw [wpSched]
  simp only [pick, List.map_cons, List.map_nil, Array.getD_eq_getD_getElem?, List.getElem?_toArray, List.getElem?_cons_succ, List.getElem?_cons_zero, Option.getD_some]
  have kd0 := plusW_cell d0
  have kk0 := plusW_cell k0
  have kk1 := plusW_cell k1
  repeat (first | go_big_quiet_step (fail) | quiet_step (fail))
  refine wpQuiet_nil ?_
  refine heavy_want (by rfl) (fun K' hK' => ?_)
  go_simp
  refine (HV _).mono ?_
  rintro e V1 ⟨rfl, hw⟩
  obtain rfl : V = V1 := hw.symm
  refine hK' _ _ (Below.refl _ _) ?_
  clear hK' K' HV hw
  try simp only [Act.put, List.setIfInBounds_toArray, List.set_cons_zero, List.set_cons_succ]
  rw [wpSched]
  simp only [pick, List.map_cons, List.map_nil, Array.getD_eq_getD_getElem?, List.getElem?_toArray, List.getElem?_cons_succ, List.getElem?_cons_zero, Option.getD_some]
  repeat (first | go_big_quiet_step (fail) | quiet_step (fail))
  refine wpQuiet_nil ?_
  clear kd0 kk0 kk1
  replace hB := thru hB hXW
  replace a_b := a_b.later hXW
  have yV := HY.out.later hXW
  have hXV : X.heap.size ≤ V.heap.size := hXW.size
  have hgV : g < V.heap.size := Nat.lt_of_lt_of_le (HXG.out _ rfl) hXV
  have haV : a + 1 < V.heap.size := by omega
  clear hXW HY HXG hz0 hXV hd hd2
  go_wp2_with (refine wpList_allocTo 4 rfl rfl _ rfl sig_zero ?_; intro X4 a4 hb hz4; refine Hid.out ?_)
  unfold Hid
  try simp only [Act.put, List.setIfInBounds_toArray, List.set_cons_zero, List.set_cons_succ]
  obtain ⟨b4, hb4⟩ : ∃ a, V.heap.size = a := ⟨_, rfl⟩
  have HB4 := Lib.hid hb4
  rw [hb4] at a4 hz4 hgV haV ⊢
  clear hb4
  go_wp2_with (refine wpList_storeB rfl rfl _ (.tmp 4) _ rfl (b := b4) (q := 0) rfl (n := 20) (v := sig0 (l0.toNat : Int)) rfl a4 (fun j _ => sig_one _ _ _ _ _ j) sig_size ?_; intro Y4 t1; refine Hid.out ?_)
  unfold Hid
  replace hb := t1.below V.heap.size V (by have := HB4.out; omega) hb
  have g4 : Blk Y4 b4 0 20 (sigV (l0.toNat : Int) (fun _ => 0#64) none 0 0) := t1.blk
  clear t1 a4 hz4
  have hmf : ∀ (fn : Fn) (first cap : Array Value) (w : World), (Instr.makeFunc fn first cap).run Tryz.prog w = .ok (.func fn first cap) w := fun _ _ _ _ => rfl
  have dY := later hb d0
  have yY := yV.later hb
  go_wp2_with fail
  refine (values_any 65 #[.pointer (some ⟨a, 0, none⟩)] (fun i => Sgn.wd l (2 + 8 * i) 8) _ (enters_of Tryz.func65 (by kernel_rfl) rfl) (fun i W hi hb => word_any i a l (some ⟨g, o, none⟩) c W (yY.later hb) (by rw [HNN.out]; exact later hb dY) (by rw [HLEN.out]; omega) (by omega))).mono ?_
  rintro e W5 ⟨rfl, hb5⟩
  obtain ⟨F, hF⟩ : ∃ F, (fun i => Sgn.wd l (2 + 8 * i) 8) = F := ⟨_, rfl⟩
  have HF := Lib.hid hF
  rw [hF]
  replace g4 := g4.later hb5
  replace hb := thru hb hb5
  clear hF hb5 dY yY
  go_wp2_with (refine wpList_storeB rfl rfl _ (.tmp 43) _ rfl (b := b4) (q := 1) rfl (n := 18) (v := wrdV F) (aggN_arr _).symm g4.chain (fun _ _ => rfl) arrW_size ?_; intro Z t1; refine Hid.out ?_)
  unfold Hid
  replace g4 := sig_chain g4 t1
  replace hb := t1.below V.heap.size V (by have := HB4.out; omega) hb
  have hzZ : b4 < Z.heap.size := World.block_lt_of_cell? _ _ (g4.at 0 (by omega)).1
  clear t1
  replace hB := thru hB hb
  replace a_b := a_b.later hb
  have dZ := later hb d0
  have kZ := later hb k1
  have yZ := yV.later hb
  clear hb d0 k0 k1 yV hmf
  go_wp2_with fail
  clear kZ
  go_loopw [48] (fun u48 wr => DeRel (l0.toNat : Int) F l m b4 Z u48 wr) (fun u48 _ => m - (intOf u48).toNat)
  case atStart => exact ⟨0, none, 0, by omega, rfl, OwnsW.nil _ _, g4, Below.refl _ _, hzZ⟩
  case round =>
    clear g4
    obtain ⟨j, xj, cj, hj, rfl, ho, gB, hBZ, hzw⟩ := hrel
    have hjl := Sgn.wds_length l j
    by_cases hlt : j < m
    · have hjm : decide (j < m) = true := decide_eq_true hlt
      have hLK := Sgn.wds_succ l j
      have hLN := Sgn.wds_length l (j + 1)
      obtain ⟨jj, hjj⟩ : ∃ k, 18 + j = k := ⟨_, rfl⟩
      have hjI : 18 + (j : Int) = (jj : Int) := by omega
      have hvj : Sgn.wd l (2 + 8 * jj) 8 = Sgn.wd l (146 + 8 * j) 8 := by rw [show 2 + 8 * jj = 146 + 8 * j by omega]
      have hjj24 : jj ≤ 24 := by omega
      have hl146 : 10 + 8 * jj ≤ l.length := by rw [HLEN.out]; omega
      obtain ⟨vj, hvj2⟩ : ∃ v, Sgn.wd l (146 + 8 * j) 8 = v := ⟨_, rfl⟩
      rw [hvj2] at hLK hvj
      obtain ⟨lk, hlk⟩ : ∃ k, Sgn.wds l j = k := ⟨_, rfl⟩
      rw [hlk] at hLK hjl ho gB
      have hlk6 : lk.length ≤ 6 := by omega
      have HVJ := Lib.hid hvj
      have HLK := Lib.hid hLK.symm
      have HLN := Lib.hid hLN
      have c19 : wr.cell? ⟨b4, 19, none⟩ = some (.slice xj lk.length cj) := (gB.at 19 (by omega)).1
      have f19 := (gB.at 19 (by omega)).2
      have d0X : wr.cell? ⟨a, 0, none⟩ = some (.slice (some ⟨g, o, none⟩) l.length c) := by rw [HNN.out]; exact (hBZ.cell (p := ⟨a, 0, none⟩) (by simp <;> omega)).trans dZ
      have yX : Bts wr (some ⟨g, o, none⟩) l := yZ.low hBZ (fun y hy => by cases hy; exact hgV)
      have HJ1 := Lib.hid hl146
      clear hjj hl146 hjl hLK hLN hvj hvj2 hlk dZ yZ
      go_wp2_with fail
      refine wp_region_schedB (B := b4) (fun X => X.cell? ⟨b4, 19, none⟩ = some (.slice xj lk.length cj) ∧ X.frozen? ⟨b4, 19, none⟩ = false ∧ OwnsW (b4 + 1) X xj cj lk ∧ Below wr.heap.size wr X ∧ b4 + 1 ≤ X.heap.size ∧ X.cell? ⟨a, 0, none⟩ = some (.slice (some ⟨g, o, none⟩) l.length c) ∧ Bts X (some ⟨g, o, none⟩) l) (.two [0, 2, 3, 4] 1 (.one [] 5 (.one [] 6 (.one [] 7 (.one [8] 9 (.done []))))) 5 (.two [] 1 (.one [] 6 (.one [] 7 (.one [8] 9 (.done [])))) 6 (.one [] 1 (.one [] 7 (.one [8] 9 (.done [])))))) (by kernel_rfl) (by kernel_rfl) (fun _ _ _ _ _ h => h) ⟨c19, f19, ho.turn ((Turns.refl (fun _ => False) wr).drew) (fun _ _ e => e), (Below.refl _ _).drew, by simp <;> omega, d0X, yX⟩ ?_
      clear c19 f19 ho d0X yX
      rintro X ⟨c19, f19, ho, ht, hzX, d0X, yX⟩
      rw [wpSchedB]
      simp only [pick, List.map_cons, List.map_nil, Array.getD_eq_getD_getElem?, List.getElem?_toArray, List.getElem?_cons_succ, List.getElem?_cons_zero, Option.getD_some]
      repeat (first | go_big_quiet_step (fail) | quiet_step (fail))
      refine wpQuiet_nil ?_
      refine ⟨?_, ?_⟩
      · refine heavyB_want (by rfl) (fun K' hK' => ?_)
        go_simp
        refine hK' _ _ (Below.refl _ _) ?_
        clear hK' K'
        try simp only [Act.put, List.setIfInBounds_toArray, List.set_cons_zero, List.set_cons_succ]
        rw [wpSchedB]
        simp only [pick, List.map_nil, Array.getD_eq_getD_getElem?, List.getElem?_toArray, List.getElem?_cons_succ, List.getElem?_cons_zero, Option.getD_some]
        refine wpQuiet_nil ?_
        refine heavyB_want (by rfl) (fun K' hK' => ?_)
        go_simp
        refine (word_any jj a l (some ⟨g, o, none⟩) c _ yX d0X HJ1.out hjj24).mono ?_
        rintro e X1 ⟨rfl, hb⟩
        refine hK' _ _ (hb.mono (by omega)) ?_
        clear hK' K'
        rw [HVJ.out]
        replace c19 := later hb c19
        replace f19 := (Below.frozen hb (by simp <;> omega)).trans f19
        replace ho := ho.later hb
        replace ht := thru ht hb
        have hz1 := hb.size
        replace hzX : b4 + 1 ≤ X1.heap.size := by omega
        clear hb hz1 yX d0X
        try simp only [Act.put, List.setIfInBounds_toArray, List.set_cons_zero, List.set_cons_succ]
        rw [wpSchedB]
        simp only [pick, List.map_nil, Array.getD_eq_getD_getElem?, List.getElem?_toArray, List.getElem?_cons_succ, List.getElem?_cons_zero, Option.getD_some]
        refine wpQuiet_nil ?_
        refine heavyB_want (by rfl) (fun K' hK' => ?_)
        go_simp
        refine hK' _ _ ((Below.refl _ _).alloc (by omega) _) ?_
        clear hK' K'
        have hq1 := al (Below.refl _ X1) (.cells #[.int .u64 (num vj)] 23)
        have ny : (X1.alloc (.cells #[.int .u64 (num vj)] 23)).cell? ⟨X1.heap.size, 0, none⟩ = some (.int .u64 (num vj)) := by go_simp
        replace c19 := later hq1 c19
        replace f19 := (Below.frozen hq1 (by simp <;> omega)).trans f19
        replace ho := ho.later hq1
        replace ht := thru ht hq1
        have hzy : X1.heap.size < (X1.alloc (.cells #[.int .u64 (num vj)] 23)).heap.size := by simp
        obtain ⟨X2, hX2⟩ : ∃ Z : World, X1.alloc (.cells #[.int .u64 (num vj)] 23) = Z := ⟨_, rfl⟩
        rw [hX2] at ny c19 f19 ho ht hzy
        rw [hX2]
        clear hX2 hq1
        try simp only [Act.put, List.setIfInBounds_toArray, List.set_cons_zero, List.set_cons_succ]
        rw [wpSchedB]
        simp only [pick, List.map_nil, Array.getD_eq_getD_getElem?, List.getElem?_toArray, List.getElem?_cons_succ, List.getElem?_cons_zero, Option.getD_some]
        refine wpQuiet_nil ?_
        refine heavyB_want (by rfl) (fun K' hK' => ?_)
        refine wp_appWX _ _ rfl (B := b4 + 1) (l := lk) (cap := cj) (xa := xj) ho rfl (ad := ⟨X1.heap.size, 0, none⟩) (u := vj) rfl ny (by omega) (by omega) (fun x' c' X3 h1 h2 h3 _ => hK' _ _ (h2.mono (by omega)) ?_)
        clear hK' K'
        rw [HLK.out] at h1 ⊢
        replace c19 := later_lt h2 (a := ⟨b4, 19, none⟩) (by simp <;> omega) c19
        replace f19 := (h2.frozen (p := ⟨b4, 19, none⟩) (by simp <;> omega)).trans f19
        have ht3 : Below (b4 + 1) wr X3 := (ht.mono (by omega)).trans h2
        clear ho h2 h3 ny ht
        try simp only [Act.put, List.setIfInBounds_toArray, List.set_cons_zero, List.set_cons_succ]
        rw [wpSchedB]
        simp only [pick, List.map_cons, List.map_nil, Array.getD_eq_getD_getElem?, List.getElem?_toArray, List.getElem?_cons_succ, List.getElem?_cons_zero, Option.getD_some]
        repeat (first | go_big_quiet_step (fail) | quiet_step (fail))
        refine wpQuiet_nil ?_
        refine heavyB_want (by rfl) (fun K' hK' => ?_)
        go_simp
        refine hK' _ _ ((Below.refl _ _).setCell (p := ⟨b4, 19, none⟩) (Nat.le_refl _) _) ?_
        clear hK' K'
        try simp only [Act.put, List.setIfInBounds_toArray, List.set_cons_zero, List.set_cons_succ]
        rw [wpSchedB]
        simp only [List.map_nil]
        refine wpQuiet_nil ?_
        have ga := gB.low ht3 (by omega)
        have hz3 : b4 < X3.heap.size := by have := ht3.size; omega
        have hB3 : Below b4 Z X3 := hBZ.trans (ht3.mono (by omega))
        clear c19 f19 ht3
        go_wp2_with fail
        exact ⟨⟨j + 1, x', c', by omega, by go_num, h1.turn ((Turns.refl (fun b => b = b4) X3).setCell (p := ⟨b4, 19, none⟩) (fun _ => rfl) _) (fun b hb e => by have h0 := (h1.low b hb).1; have e' : b = b4 := e; omega), by rw [← HLN.out]; exact sig_path ga _ _ _, hB3.setCell (p := ⟨b4, 19, none⟩) (Nat.le_refl _) _, by simp <;> omega⟩, by simp [intOf]; omega⟩
      · refine heavyB_want (by rfl) (fun K' hK' => ?_)
        go_simp
        refine (word_any jj a l (some ⟨g, o, none⟩) c _ yX d0X HJ1.out hjj24).mono ?_
        rintro e X1 ⟨rfl, hb⟩
        refine hK' _ _ (hb.mono (by omega)) ?_
        clear hK' K'
        rw [HVJ.out]
        replace c19 := later hb c19
        replace f19 := (Below.frozen hb (by simp <;> omega)).trans f19
        replace ho := ho.later hb
        replace ht := thru ht hb
        have hz1 := hb.size
        replace hzX : b4 + 1 ≤ X1.heap.size := by omega
        clear hb hz1 yX d0X
        try simp only [Act.put, List.setIfInBounds_toArray, List.set_cons_zero, List.set_cons_succ]
        rw [wpSchedB]
        simp only [pick, List.map_nil, Array.getD_eq_getD_getElem?, List.getElem?_toArray, List.getElem?_cons_succ, List.getElem?_cons_zero, Option.getD_some]
        refine wpQuiet_nil ?_
        refine ⟨?_, ?_⟩
        · refine heavyB_want (by rfl) (fun K' hK' => ?_)
          go_simp
          refine hK' _ _ (Below.refl _ _) ?_
          clear hK' K'
          try simp only [Act.put, List.setIfInBounds_toArray, List.set_cons_zero, List.set_cons_succ]
          rw [wpSchedB]
          simp only [pick, List.map_nil, Array.getD_eq_getD_getElem?, List.getElem?_toArray, List.getElem?_cons_succ, List.getElem?_cons_zero, Option.getD_some]
          refine wpQuiet_nil ?_
          refine heavyB_want (by rfl) (fun K' hK' => ?_)
          go_simp
          refine hK' _ _ ((Below.refl _ _).alloc (by omega) _) ?_
          clear hK' K'
          have hq1 := al (Below.refl _ X1) (.cells #[.int .u64 (num vj)] 23)
          have ny : (X1.alloc (.cells #[.int .u64 (num vj)] 23)).cell? ⟨X1.heap.size, 0, none⟩ = some (.int .u64 (num vj)) := by go_simp
          replace c19 := later hq1 c19
          replace f19 := (Below.frozen hq1 (by simp <;> omega)).trans f19
          replace ho := ho.later hq1
          replace ht := thru ht hq1
          have hzy : X1.heap.size < (X1.alloc (.cells #[.int .u64 (num vj)] 23)).heap.size := by simp
          obtain ⟨X2, hX2⟩ : ∃ Z : World, X1.alloc (.cells #[.int .u64 (num vj)] 23) = Z := ⟨_, rfl⟩
          rw [hX2] at ny c19 f19 ho ht hzy
          rw [hX2]
          clear hX2 hq1
          try simp only [Act.put, List.setIfInBounds_toArray, List.set_cons_zero, List.set_cons_succ]
          rw [wpSchedB]
          simp only [pick, List.map_nil, Array.getD_eq_getD_getElem?, List.getElem?_toArray, List.getElem?_cons_succ, List.getElem?_cons_zero, Option.getD_some]
          refine wpQuiet_nil ?_
          refine heavyB_want (by rfl) (fun K' hK' => ?_)
          refine wp_appWX _ _ rfl (B := b4 + 1) (l := lk) (cap := cj) (xa := xj) ho rfl (ad := ⟨X1.heap.size, 0, none⟩) (u := vj) rfl ny (by omega) (by omega) (fun x' c' X3 h1 h2 h3 _ => hK' _ _ (h2.mono (by omega)) ?_)
          clear hK' K'
          rw [HLK.out] at h1 ⊢
          replace c19 := later_lt h2 (a := ⟨b4, 19, none⟩) (by simp <;> omega) c19
          replace f19 := (h2.frozen (p := ⟨b4, 19, none⟩) (by simp <;> omega)).trans f19
          have ht3 : Below (b4 + 1) wr X3 := (ht.mono (by omega)).trans h2
          clear ho h2 h3 ny ht
          try simp only [Act.put, List.setIfInBounds_toArray, List.set_cons_zero, List.set_cons_succ]
          rw [wpSchedB]
          simp only [pick, List.map_cons, List.map_nil, Array.getD_eq_getD_getElem?, List.getElem?_toArray, List.getElem?_cons_succ, List.getElem?_cons_zero, Option.getD_some]
          repeat (first | go_big_quiet_step (fail) | quiet_step (fail))
          refine wpQuiet_nil ?_
          refine heavyB_want (by rfl) (fun K' hK' => ?_)
          go_simp
          refine hK' _ _ ((Below.refl _ _).setCell (p := ⟨b4, 19, none⟩) (Nat.le_refl _) _) ?_
          clear hK' K'
          try simp only [Act.put, List.setIfInBounds_toArray, List.set_cons_zero, List.set_cons_succ]
          rw [wpSchedB]
          simp only [List.map_nil]
          refine wpQuiet_nil ?_
          have ga := gB.low ht3 (by omega)
          have hz3 : b4 < X3.heap.size := by have := ht3.size; omega
          have hB3 : Below b4 Z X3 := hBZ.trans (ht3.mono (by omega))
          clear c19 f19 ht3
          go_wp2_with fail
          exact ⟨⟨j + 1, x', c', by omega, by go_num, h1.turn ((Turns.refl (fun b => b = b4) X3).setCell (p := ⟨b4, 19, none⟩) (fun _ => rfl) _) (fun b hb e => by have h0 := (h1.low b hb).1; have e' : b = b4 := e; omega), by rw [← HLN.out]; exact sig_path ga _ _ _, hB3.setCell (p := ⟨b4, 19, none⟩) (Nat.le_refl _) _, by simp <;> omega⟩, by simp [intOf]; omega⟩
        · refine heavyB_want (by rfl) (fun K' hK' => ?_)
          go_simp
          refine hK' _ _ ((Below.refl _ _).alloc (by omega) _) ?_
          clear hK' K'
          have hq1 := al (Below.refl _ X1) (.cells #[.int .u64 (num vj)] 23)
          have ny : (X1.alloc (.cells #[.int .u64 (num vj)] 23)).cell? ⟨X1.heap.size, 0, none⟩ = some (.int .u64 (num vj)) := by go_simp
          replace c19 := later hq1 c19
          replace f19 := (Below.frozen hq1 (by simp <;> omega)).trans f19
          replace ho := ho.later hq1
          replace ht := thru ht hq1
          have hzy : X1.heap.size < (X1.alloc (.cells #[.int .u64 (num vj)] 23)).heap.size := by simp
          obtain ⟨X2, hX2⟩ : ∃ Z : World, X1.alloc (.cells #[.int .u64 (num vj)] 23) = Z := ⟨_, rfl⟩
          rw [hX2] at ny c19 f19 ho ht hzy
          rw [hX2]
          clear hX2 hq1
          try simp only [Act.put, List.setIfInBounds_toArray, List.set_cons_zero, List.set_cons_succ]
          rw [wpSchedB]
          simp only [pick, List.map_nil, Array.getD_eq_getD_getElem?, List.getElem?_toArray, List.getElem?_cons_succ, List.getElem?_cons_zero, Option.getD_some]
          refine wpQuiet_nil ?_
          refine heavyB_want (by rfl) (fun K' hK' => ?_)
          go_simp
          refine hK' _ _ (Below.refl _ _) ?_
          clear hK' K'
          try simp only [Act.put, List.setIfInBounds_toArray, List.set_cons_zero, List.set_cons_succ]
          rw [wpSchedB]
          simp only [pick, List.map_nil, Array.getD_eq_getD_getElem?, List.getElem?_toArray, List.getElem?_cons_succ, List.getElem?_cons_zero, Option.getD_some]
          refine wpQuiet_nil ?_
          refine heavyB_want (by rfl) (fun K' hK' => ?_)
          refine wp_appWX _ _ rfl (B := b4 + 1) (l := lk) (cap := cj) (xa := xj) ho rfl (ad := ⟨X1.heap.size, 0, none⟩) (u := vj) rfl ny (by omega) (by omega) (fun x' c' X3 h1 h2 h3 _ => hK' _ _ (h2.mono (by omega)) ?_)
          clear hK' K'
          rw [HLK.out] at h1 ⊢
          replace c19 := later_lt h2 (a := ⟨b4, 19, none⟩) (by simp <;> omega) c19
          replace f19 := (h2.frozen (p := ⟨b4, 19, none⟩) (by simp <;> omega)).trans f19
          have ht3 : Below (b4 + 1) wr X3 := (ht.mono (by omega)).trans h2
          clear ho h2 h3 ny ht
          try simp only [Act.put, List.setIfInBounds_toArray, List.set_cons_zero, List.set_cons_succ]
          rw [wpSchedB]
          simp only [pick, List.map_cons, List.map_nil, Array.getD_eq_getD_getElem?, List.getElem?_toArray, List.getElem?_cons_succ, List.getElem?_cons_zero, Option.getD_some]
          repeat (first | go_big_quiet_step (fail) | quiet_step (fail))
          refine wpQuiet_nil ?_
          refine heavyB_want (by rfl) (fun K' hK' => ?_)
          go_simp
          refine hK' _ _ ((Below.refl _ _).setCell (p := ⟨b4, 19, none⟩) (Nat.le_refl _) _) ?_
          clear hK' K'
          try simp only [Act.put, List.setIfInBounds_toArray, List.set_cons_zero, List.set_cons_succ]
          rw [wpSchedB]
          simp only [List.map_nil]
          refine wpQuiet_nil ?_
          have ga := gB.low ht3 (by omega)
          have hz3 : b4 < X3.heap.size := by have := ht3.size; omega
          have hB3 : Below b4 Z X3 := hBZ.trans (ht3.mono (by omega))
          clear c19 f19 ht3
          go_wp2_with fail
          exact ⟨⟨j + 1, x', c', by omega, by go_num, h1.turn ((Turns.refl (fun b => b = b4) X3).setCell (p := ⟨b4, 19, none⟩) (fun _ => rfl) _) (fun b hb e => by have h0 := (h1.low b hb).1; have e' : b = b4 := e; omega), by rw [← HLN.out]; exact sig_path ga _ _ _, hB3.setCell (p := ⟨b4, 19, none⟩) (Nat.le_refl _) _, by simp <;> omega⟩, by simp [intOf]; omega⟩
    · obtain rfl : j = m := by omega
      rw [hjl] at gB
      have hl1 := run_loadS gB
      have a1 : Blk wr (a + 1) 0 20 zeroS := a_b.low hBZ (by omega)
      have hB2 := hB.trans (hBZ.mono (by omega))
      rw [show ((j : Nat) : Int) = (j : Int) from rfl]
      clear dZ yZ
      go_wp2_with (first | (refine wpList_loadN rfl _ (.tmp 4) rfl (b := b4) (q := 0) rfl hl1 ?_) | (refine wpList_storeB rfl rfl _ (.tmp 2) _ rfl (b := a + 1) (q := 0) rfl (n := 20) (v := sigV (l0.toNat : Int) F xj j cj) rfl a1 (fun j _ => sig_one _ _ _ _ _ j) sig_size ?_; intro Y9 t1; refine Hid.out ?_))
      unfold Hid
      have hB3 := t1.below w.heap.size w (by omega) hB2
      have l9 := run_loadS t1.blk
      have tt := t1.turns (fun b => b = a + 1) wr (fun _ => rfl) (Turns.refl _ _)
      have ho9 := ho.turn tt (fun b hb e => by have h0 := (ho.low b hb).1; have e' : b = a + 1 := e; omega)
      clear t1 tt hl1 a1 gB ho a_b
      go_wp2_with fail
      refine bodyPost_ret (v := .tuple #[aggN 20 (sigV (l0.toNat : Int) F xj j cj), .int .i64 0]) ?_ rfl ⟨xj, cj, by rw [HF.out], ho9.weaken (by omega), hB3⟩
      rw [results_cell_tmp rfl]
      simp [asAddr, Result.andThen]
      rw [l9]
end

section
open Go.RowKit

theorem pow6 {h : Nat} (h6 : h ≤ 6) : 2 ^ h ≤ 64 := Nat.pow_le_pow_right (n := 2) (by decide) h6
theorem dec_enc (key : Nat) (f : Nat → D64) (p : List D64) (h6 : p.length ≤ 6) (hk : key < 2 ^ p.length) (x : Option Addr) (c : Nat) (w : World) (hx : Bts w x (Sgn.enc key f p)) :
    Calls Tryz.prog 33 #[.slice x (Sgn.enc key f p).length c] w fun e w' => ∃ y cy g, e = .returned (.tuple #[aggN 20 (sigV (key : Int) g y p.length cy), .int .i64 0]) ∧ (∀ j, j < 18 → g j = f j) ∧ OwnsW w.heap.size w' y cy p ∧ Below w.heap.size w w' := by
  have hk64 : key < 64 := Nat.lt_of_lt_of_le hk (pow6 h6)
  have e0 : ((Sgn.enc key f p).getD 0 0).toNat = key := by rw [Sgn.enc_0, UInt8.toNat_ofNat']; omega
  have e1 : ((Sgn.enc key f p).getD 1 0).toNat = p.length := by rw [Sgn.enc_1, UInt8.toNat_ofNat']; omega
  have hki : (key : Int) < 2 ^ p.length := by
    have : ((key : Nat) : Int) < ((2 ^ p.length : Nat) : Int) := by exact_mod_cast hk
    simpa using this
  have hv : vldG (p.length : Int) (key : Int) = true := by
    unfold vldG
    refine decide_eq_true ⟨by omega, by omega, by omega, ?_⟩
    rw [Int.toNat_natCast]
    exact hki
  have h := decode_ok x (Sgn.enc key f p) c w hx (by rw [e0, e1]; exact hv) (by rw [e1, Sgn.enc_length])
  rw [e0, e1] at h
  refine h.mono ?_
  rintro e w' ⟨y, cy, rfl, ho, hb⟩
  rw [Sgn.wds_enc] at ho
  exact ⟨y, cy, _, rfl, fun j hj => Sgn.enc_chain key f p j hj, ho, hb⟩
end

end Go.Proofs.YtapefonhgkjgnaaGreat
