/- WALKS of the crc layer: the squares of the map over a byte that is 0. -/
import Derived.Test.YtcdmmhbmpkdagaaCrcD
import Derived.Test.YtcdmmhbmpkdagaaRangeV
import Derived.Test.YtcdmmhbmpkdagaaRegionB
import Derived.TacticsInMore
import Derived.OwnWalkIn
import Derived.LoopIn
import Derived.LoopNIn
import Derived.Shelf.RegionOpen
import Derived.Deep.LoopGhost
import Derived.Sort.LoopGhostIn
namespace Go.Proofs.Ytcdmmhbmpkdagaa
open Go.RowKit
attribute [local go_sem] Oper.semAt_some

theorem squares_any (w : World) : Calls Try.prog 20 #[] w fun e w' => e = .returned (.func (.func 23) #[] #[]) ∧ w' = w := by
  go_enter Try.func20, Try.ntmps20
  go_wp2_with fail
  go_ret
  exact ⟨rfl, rfl⟩

def zMat : Array Value := Array.replicate 32 (.int .u32 0)
theorem zmat_run (w : World) : (zeroValue 52).run Try.prog w = .ok (.agg zMat) w := by kernel_rfl

def pow2 : Nat → Nat
  | 0 => 1
  | k + 1 => pow2 k + pow2 k
/-- The k-th value: a matrix of the map over 2^k bytes that are 0. -/
def SqV (k : Nat) (b : Nat) (W : World) : Prop := IsMat W b (zmat (8 * pow2 k))

def Sq0 (w1 : World) (bt : Nat) (i : Value) (wr : World) : Prop :=
  ∃ k : Nat, k ≤ 32 ∧ i = .int .i64 (k : Int) ∧ IsTab wr bt ∧ w1.heap.size < wr.heap.size ∧ (∀ j, j < 32 → wr.cell? ⟨w1.heap.size, j, none⟩ = some (.int .u32 (n32 (if j < k then zmat 8 j else 0#32)))) ∧ (∀ j, wr.frozen? ⟨w1.heap.size, j, none⟩ = false) ∧ Below w1.heap.size w1 wr
def SqRel (len n0 : Nat) (J : Nat → List Nat → World → Prop) (g : Nat) (u3 : Value) (wr : World) : Prop :=
  ∃ (k : Nat) (S : List Nat) (bm : Nat), g + k = len ∧ u3 = .pointer (some ⟨bm, 0, none⟩) ∧ J k S wr ∧ IsMat wr bm (zmat (8 * pow2 k)) ∧ ¬ bm ∈ S ∧ n0 ≤ bm
def Sq1 (M : Nat → W32) (W : World) (i : Value) (wr : World) : Prop :=
  ∃ k : Nat, k ≤ 32 ∧ i = .int .i64 (k : Int) ∧ W.heap.size < wr.heap.size ∧ (∀ j, j < 32 → wr.cell? ⟨W.heap.size, j, none⟩ = some (.int .u32 (n32 (if j < k then matN M (M j) 32 else 0#32)))) ∧ (∀ j, wr.frozen? ⟨W.heap.size, j, none⟩ = false) ∧ Below W.heap.size W wr
theorem one_shl (k : Nat) : IntKind.u32.wrap (2 ^ k) = n32 (1#32 <<< k) := by
  have := shl32 1#32 k
  rw [show n32 1#32 = 1 by decide, Int.one_mul] at this
  rw [← this]; simp

set_option maxRecDepth 100000 in
set_option maxHeartbeats 2000000 in
theorem squares1_in (n : Nat) (hn : 1 ≤ n) (len : Nat) (w : World) :
    YieldsV n Try.prog 23 #[] (fun b : Nat => #[.pointer (some ⟨b, 0, none⟩)]) len SqV False (fun _ => False) w := by
  intro l J Jx S0 W hW hl0 hl hJ hJx hS hst hY h0
  have hst2 := hst.resolve_left (fun h => h)
  clear hst
  have hz := zmat_run
  refine callsIn_of_wp Try.func23 rfl trivial ?_ rfl
  simp only [Try.ntmps23, List.size_toArray, List.length_cons, List.length_nil, Nat.reduceAdd, Nat.reduceSub, Array.replicate_succ, Array.replicate_zero, List.push_toArray, List.append_toArray, List.nil_append, List.cons_append]
  gi_wp2_with (refine ⟨trivial, ?_⟩; gi_at_call 22; refine (callsIn_wide.2 (table_any _)).mono ?_; rintro e w1 ⟨bt, rfl, hbt, ht, hb⟩)
  have hbt1 : bt < w1.heap.size := World.block_lt_of_cell? _ _ (ht 0 (by omega))
  have hbt1 : bt < w1.heap.size := World.block_lt_of_cell? _ _ (ht 0 (by omega))
  clear hz
  gi_loopw [11] (fun u11 wr => Sq0 w1 bt u11 wr) (fun u11 _ => 32 - (intOf u11).toNat)
  case atStart => exact ⟨0, by omega, rfl, ht.later (al (Below.refl _ w1) _), by simp, fun j hj => by rw [cell_new]; simp [zMat, hj]; rfl, fun j => by go_simp, al (Below.refl _ w1) _⟩
  case round =>
    obtain ⟨k, hk, rfl, ht, hz, hc, hf, hB⟩ := hrel
    by_cases hlt : k < 32
    · have hkb : decide ((k : Int) < 32) = true := by simp; omega
      obtain ⟨r, hr⟩ : ∃ r, 1#32 <<< k = r := ⟨_, rfl⟩
      have hs1 := one_shl k
      rw [hr] at hs1
      have hbt8 := byte_tab r 0
      obtain ⟨q, hq⟩ : ∃ q, low8 r = q := ⟨_, rfl⟩
      have hq256 := q.toNat_lt
      have hz8 : r >>> 8 ^^^ tab q.toNat = zmat 8 k := by
        rw [← hq]
        have h0 : low8 r ^^^ 0 = low8 r := by simp
        rw [h0] at hbt8
        rw [hbt8, Crc.byte_zero, ← hr]; rfl
      have HZ := Lib.hid hz8
      have htq0 := ht q.toNat hq256
      have hck0 := hc k hlt
      have HC := Lib.hid hc
      have HF := Lib.hid hf
      have HT := Lib.hid ht
      clear hc hf ht hz8 hbt8 hr
      gi_wp2_with fail
      refine wpIn_wide.2 ?_
      refine wp_region_schedB (B := w1.heap.size) (fun V => True ∧ Below wr.heap.size wr V) (.two [0, 1, 2, 3, 4, 5, 6] 7 (.one [8, 9, 10] 11 (.one [12] 13 (.done []))) 11 (.one [] 7 (.one [8, 9, 10, 12] 13 (.done [])))) (by kernel_rfl) (by kernel_rfl) (fun _ _ _ _ _ h => h) ⟨trivial, (Below.refl _ _).drew⟩ ?_
      rintro V ⟨-, hV⟩
      have htq := later hV htq0
      have hck := later hV hck0
      have hfk := (hV.frozen (p := ⟨w1.heap.size, k, none⟩) hz).trans (HF.out k)
      have HFV : Hid (∀ j, V.frozen? ⟨w1.heap.size, j, none⟩ = false) := fun j => (hV.frozen (p := ⟨w1.heap.size, j, none⟩) hz).trans (HF.out j)
      clear htq0 hck0
      rw [wpSchedB]
      simp only [pick, List.map_cons, List.map_nil, Array.getD_eq_getD_getElem?, List.getElem?_toArray, List.getElem?_cons_succ, List.getElem?_cons_zero, Option.getD_some]
      repeat (first | go_big_quiet_step (fail) | quiet_step (fail))
      refine wpQuiet_nil ?_
      refine ⟨?_, ?_⟩
      · refine heavyB_want (by rfl) (fun K' hK' => ?_)
        go_simp
        refine hK' _ _ (Below.refl _ _) ?_
        clear hK' K'
        try simp only [Act.put, List.setIfInBounds_toArray, List.set_cons_zero, List.set_cons_succ]
        rw [wpSchedB]
        simp only [pick, List.map_cons, List.map_nil, Array.getD_eq_getD_getElem?, List.getElem?_toArray, List.getElem?_cons_succ, List.getElem?_cons_zero, Option.getD_some]
        have kq := plusB_cell htq (by show bt < w1.heap.size; exact hbt1)
        repeat (first | go_big_quiet_step (fail) | quiet_step (fail))
        refine wpQuiet_nil ?_
        clear kq
        refine heavyB_want (by rfl) (fun K' hK' => ?_)
        go_simp
        refine hK' _ _ (Below.refl _ _) ?_
        clear hK' K'
        try simp only [Act.put, List.setIfInBounds_toArray, List.set_cons_zero, List.set_cons_succ]
        rw [wpSchedB]
        simp only [pick, List.map_cons, List.map_nil, Array.getD_eq_getD_getElem?, List.getElem?_toArray, List.getElem?_cons_succ, List.getElem?_cons_zero, Option.getD_some]
        repeat (first | go_big_quiet_step (fail) | quiet_step (fail))
        refine wpQuiet_nil ?_
        refine heavyB_want (by rfl) (fun K' hK' => ?_)
        go_simp
        refine hK' _ _ ((Below.refl _ _).setCell (p := ⟨w1.heap.size, k, none⟩) (Nat.le_refl _) _) ?_
        clear hK' K'
        try simp only [Act.put, List.setIfInBounds_toArray, List.set_cons_zero, List.set_cons_succ]
        rw [wpSchedB]
        simp only [List.map_nil]
        refine wpQuiet_nil ?_
        gi_wp2_with fail
        refine ⟨⟨k + 1, by omega, by go_num, fun j hj => ?_, by simp; have := hV.size; omega, fun j hj => ?_, fun j => by rw [World.frozen?_setCell]; exact HFV.out j, (hB.trans (hV.mono (by omega))).setCell (Nat.le_refl _) _⟩, by simp [intOf]; omega⟩
        · rw [World.cell?_setCell_other _ _ _ _ (by simp <;> omega)]; exact later hV (HT.out j hj)
        · by_cases hjk : j = k
          · subst hjk
            rw [if_pos (by omega), ← HZ.out]
            exact World.cell?_setCell_same' _ _ _ (by rw [hck]; rfl)
          · rw [World.cell?_setCell_other _ _ _ _ (by simp <;> omega), later hV (HC.out j hj)]
            by_cases h2 : j < k
            · rw [if_pos h2, if_pos (by omega)]
            · rw [if_neg h2, if_neg (by omega)]
      · refine heavyB_want (by rfl) (fun K' hK' => ?_)
        go_simp
        refine hK' _ _ (Below.refl _ _) ?_
        clear hK' K'
        try simp only [Act.put, List.setIfInBounds_toArray, List.set_cons_zero, List.set_cons_succ]
        rw [wpSchedB]
        simp only [pick, List.map_nil, Array.getD_eq_getD_getElem?, List.getElem?_toArray, List.getElem?_cons_succ, List.getElem?_cons_zero, Option.getD_some]
        refine wpQuiet_nil ?_
        refine heavyB_want (by rfl) (fun K' hK' => ?_)
        go_simp
        refine hK' _ _ (Below.refl _ _) ?_
        clear hK' K'
        try simp only [Act.put, List.setIfInBounds_toArray, List.set_cons_zero, List.set_cons_succ]
        rw [wpSchedB]
        simp only [pick, List.map_cons, List.map_nil, Array.getD_eq_getD_getElem?, List.getElem?_toArray, List.getElem?_cons_succ, List.getElem?_cons_zero, Option.getD_some]
        have kq := plusB_cell htq (by show bt < w1.heap.size; exact hbt1)
        repeat (first | go_big_quiet_step (fail) | quiet_step (fail))
        refine wpQuiet_nil ?_
        clear kq
        refine heavyB_want (by rfl) (fun K' hK' => ?_)
        go_simp
        refine hK' _ _ ((Below.refl _ _).setCell (p := ⟨w1.heap.size, k, none⟩) (Nat.le_refl _) _) ?_
        clear hK' K'
        try simp only [Act.put, List.setIfInBounds_toArray, List.set_cons_zero, List.set_cons_succ]
        rw [wpSchedB]
        simp only [List.map_nil]
        refine wpQuiet_nil ?_
        gi_wp2_with fail
        refine ⟨⟨k + 1, by omega, by go_num, fun j hj => ?_, by simp; have := hV.size; omega, fun j hj => ?_, fun j => by rw [World.frozen?_setCell]; exact HFV.out j, (hB.trans (hV.mono (by omega))).setCell (Nat.le_refl _) _⟩, by simp [intOf]; omega⟩
        · rw [World.cell?_setCell_other _ _ _ _ (by simp <;> omega)]; exact later hV (HT.out j hj)
        · by_cases hjk : j = k
          · subst hjk
            rw [if_pos (by omega), ← HZ.out]
            exact World.cell?_setCell_same' _ _ _ (by rw [hck]; rfl)
          · rw [World.cell?_setCell_other _ _ _ _ (by simp <;> omega), later hV (HC.out j hj)]
            by_cases h2 : j < k
            · rw [if_pos h2, if_pos (by omega)]
            · rw [if_neg h2, if_neg (by omega)]
    · obtain rfl : k = 32 := by omega
      have hm : IsMat wr w1.heap.size (zmat (8 * pow2 0)) := fun j hj => by rw [hc j hj, if_pos hj]; rfl
      have hj0 := hJ _ _ _ _ h0 ((Turns.of_below hb (Nat.le_refl _)).trans (Turns.of_below hB (Nat.le_refl _)))
      have hsz : W.heap.size ≤ w1.heap.size := hb.size
      have hsz : W.heap.size ≤ w1.heap.size := hb.size
      have hns : ¬ w1.heap.size ∈ S0 := fun e => by have := (hS _ _ _ h0 _ e).1; omega
      clear hc hf ht hB h0 hb hbt1 hlt
      gi_wp2_with fail
      gi_loopg [3] len (fun g u3 wr => SqRel len W.heap.size J g u3 wr)
      case atStart => exact ⟨0, S0, w1.heap.size, rfl, rfl, hj0, hm, hns, hsz⟩
      case round =>
        clear hj0 hm hns hz
        obtain ⟨k, S, bm, hg, rfl, hj, hm, hns, hsb⟩ := hrel
        have hk : k < len := by
          rcases Nat.lt_or_ge k len with h | h
          · exact h
          · obtain rfl : k = len := by omega
            exact (hst2 _ _ hj).elim
        have hbm : bm < wr.heap.size := World.block_lt_of_cell? _ _ (hm 0 (by omega))
        obtain ⟨fn, tmps, assign, body, hy, hR⟩ := hY k S bm wr hk hm hj
        clear hY
        gi_wp2_with fail
        refine hR.mono ?_
        rintro e W2 ⟨S2, hs1, ht, (⟨rfl, hj2⟩ | ⟨rfl, hj2⟩)⟩
        · have hm2 : IsMat W2 bm (zmat (8 * pow2 k)) := fun j hj => ht.cell (show ¬ (bm ∈ S ∨ bm = l) from fun h => h.elim hns (by omega)) (hm j hj)
          have hbm2 : bm < W2.heap.size := Nat.lt_of_lt_of_le hbm ht.size
          have hns2 : ¬ W2.heap.size ∈ S2 := fun e => Nat.lt_irrefl _ (hS _ _ _ hj2 _ e).1
          have hsb2 : W.heap.size ≤ W2.heap.size := by omega
          clear hm hj hns hy hR ht hs1
          obtain ⟨M, hM⟩ : ∃ M, zmat (8 * pow2 k) = M := ⟨_, rfl⟩
          rw [hM] at hm2
          have HM := Lib.hid hM
          clear hM
          have hz := zmat_run
          gi_wp2_with fail
          clear hz
          gi_loopw [35] (fun u35 wr => Sq1 M W2 u35 wr) (fun u35 _ => 32 - (intOf u35).toNat)
          case atStart => exact ⟨0, by omega, rfl, by simp, fun j hj => by rw [cell_new]; simp [zMat, hj]; rfl, fun j => by go_simp, al (Below.refl _ W2) _⟩
          case round =>
            obtain ⟨i, hi, rfl, hz2, hc, hf, hB⟩ := hrel
            by_cases hlt : i < 32
            · have hkb : decide ((i : Int) < 32) = true := by simp; omega
              have HC := Lib.hid hc
              have HF := Lib.hid hf
              clear hc hf
              gi_wp2_with fail
              refine wpIn_wide.2 ?_
              refine wp_region_schedB (B := W2.heap.size) (fun V => True ∧ Below wr.heap.size wr V) (.two [0, 1, 2, 3, 4] 5 (.two [6, 7] 8 (.one [] 9 (.one [10] 11 (.done []))) 9 (.one [] 8 (.one [10] 11 (.done [])))) 9 (.one [] 5 (.one [6, 7] 8 (.one [10] 11 (.done []))))) (by kernel_rfl) (by kernel_rfl) (fun _ _ _ _ _ h => h) ⟨trivial, (Below.refl _ _).drew⟩ ?_
              rintro V ⟨-, hV⟩
              have hmV := (hm2.later hB).later hV
              have hmi := hmV i hlt
              have hci := later hV (HC.out i hlt)
              have hfi := (hV.frozen (p := ⟨W2.heap.size, i, none⟩) hz2).trans (HF.out i)
              have HFV : Hid (∀ j, V.frozen? ⟨W2.heap.size, j, none⟩ = false) := fun j => (hV.frozen (p := ⟨W2.heap.size, j, none⟩) hz2).trans (HF.out j)
              rw [wpSchedB]
              simp only [pick, List.map_cons, List.map_nil, Array.getD_eq_getD_getElem?, List.getElem?_toArray, List.getElem?_cons_succ, List.getElem?_cons_zero, Option.getD_some]
              repeat (first | go_big_quiet_step (fail) | quiet_step (fail))
              refine wpQuiet_nil ?_
              refine ⟨?_, ?_⟩
              · refine heavyB_want (by rfl) (fun K' hK' => ?_)
                go_simp
                refine hK' _ _ (Below.refl _ _) ?_
                clear hK' K'
                try simp only [Act.put, List.setIfInBounds_toArray, List.set_cons_zero, List.set_cons_succ]
                rw [wpSchedB]
                simp only [pick, List.map_cons, List.map_nil, Array.getD_eq_getD_getElem?, List.getElem?_toArray, List.getElem?_cons_succ, List.getElem?_cons_zero, Option.getD_some]
                have kq := plusB_cell hmi (by show bm < W2.heap.size; exact hbm2)
                repeat (first | go_big_quiet_step (fail) | quiet_step (fail))
                refine wpQuiet_nil ?_
                clear kq
                refine ⟨?_, ?_⟩
                · refine heavyB_want (by rfl) (fun K' hK' => ?_)
                  go_simp
                  refine (apply_any bm M (M i) _ hmV).mono ?_
                  rintro e V2 ⟨rfl, rfl⟩
                  refine hK' _ _ (Below.refl _ _) ?_
                  clear hK' K'
                  try simp only [Act.put, List.setIfInBounds_toArray, List.set_cons_zero, List.set_cons_succ]
                  rw [wpSchedB]
                  simp only [pick, List.map_nil, Array.getD_eq_getD_getElem?, List.getElem?_toArray, List.getElem?_cons_succ, List.getElem?_cons_zero, Option.getD_some]
                  refine wpQuiet_nil ?_
                  refine heavyB_want (by rfl) (fun K' hK' => ?_)
                  go_simp
                  refine hK' _ _ (Below.refl _ _) ?_
                  clear hK' K'
                  try simp only [Act.put, List.setIfInBounds_toArray, List.set_cons_zero, List.set_cons_succ]
                  rw [wpSchedB]
                  simp only [pick, List.map_cons, List.map_nil, Array.getD_eq_getD_getElem?, List.getElem?_toArray, List.getElem?_cons_succ, List.getElem?_cons_zero, Option.getD_some]
                  repeat (first | go_big_quiet_step (fail) | quiet_step (fail))
                  refine wpQuiet_nil ?_
                  refine heavyB_want (by rfl) (fun K' hK' => ?_)
                  go_simp
                  refine hK' _ _ ((Below.refl _ _).setCell (p := ⟨W2.heap.size, i, none⟩) (Nat.le_refl _) _) ?_
                  clear hK' K'
                  try simp only [Act.put, List.setIfInBounds_toArray, List.set_cons_zero, List.set_cons_succ]
                  rw [wpSchedB]
                  simp only [List.map_nil]
                  refine wpQuiet_nil ?_
                  gi_wp2_with fail
                  refine ⟨⟨i + 1, by omega, by go_num, by simp; have := hV.size; omega, fun j hj => ?_, fun j => by rw [World.frozen?_setCell]; exact HFV.out j, (hB.trans (hV.mono (by omega))).setCell (Nat.le_refl _) _⟩, by simp [intOf]; omega⟩
                  by_cases hjk : j = i
                  · subst hjk
                    rw [if_pos (by omega)]
                    exact World.cell?_setCell_same' _ _ _ (by rw [hci]; rfl)
                  · rw [World.cell?_setCell_other _ _ _ _ (by simp <;> omega), later hV (HC.out j hj)]
                    by_cases h2 : j < i
                    · rw [if_pos h2, if_pos (by omega)]
                    · rw [if_neg h2, if_neg (by omega)]
                · refine heavyB_want (by rfl) (fun K' hK' => ?_)
                  go_simp
                  refine hK' _ _ (Below.refl _ _) ?_
                  clear hK' K'
                  try simp only [Act.put, List.setIfInBounds_toArray, List.set_cons_zero, List.set_cons_succ]
                  rw [wpSchedB]
                  simp only [pick, List.map_nil, Array.getD_eq_getD_getElem?, List.getElem?_toArray, List.getElem?_cons_succ, List.getElem?_cons_zero, Option.getD_some]
                  refine wpQuiet_nil ?_
                  refine heavyB_want (by rfl) (fun K' hK' => ?_)
                  go_simp
                  refine (apply_any bm M (M i) _ hmV).mono ?_
                  rintro e V2 ⟨rfl, rfl⟩
                  refine hK' _ _ (Below.refl _ _) ?_
                  clear hK' K'
                  try simp only [Act.put, List.setIfInBounds_toArray, List.set_cons_zero, List.set_cons_succ]
                  rw [wpSchedB]
                  simp only [pick, List.map_cons, List.map_nil, Array.getD_eq_getD_getElem?, List.getElem?_toArray, List.getElem?_cons_succ, List.getElem?_cons_zero, Option.getD_some]
                  repeat (first | go_big_quiet_step (fail) | quiet_step (fail))
                  refine wpQuiet_nil ?_
                  refine heavyB_want (by rfl) (fun K' hK' => ?_)
                  go_simp
                  refine hK' _ _ ((Below.refl _ _).setCell (p := ⟨W2.heap.size, i, none⟩) (Nat.le_refl _) _) ?_
                  clear hK' K'
                  try simp only [Act.put, List.setIfInBounds_toArray, List.set_cons_zero, List.set_cons_succ]
                  rw [wpSchedB]
                  simp only [List.map_nil]
                  refine wpQuiet_nil ?_
                  gi_wp2_with fail
                  refine ⟨⟨i + 1, by omega, by go_num, by simp; have := hV.size; omega, fun j hj => ?_, fun j => by rw [World.frozen?_setCell]; exact HFV.out j, (hB.trans (hV.mono (by omega))).setCell (Nat.le_refl _) _⟩, by simp [intOf]; omega⟩
                  by_cases hjk : j = i
                  · subst hjk
                    rw [if_pos (by omega)]
                    exact World.cell?_setCell_same' _ _ _ (by rw [hci]; rfl)
                  · rw [World.cell?_setCell_other _ _ _ _ (by simp <;> omega), later hV (HC.out j hj)]
                    by_cases h2 : j < i
                    · rw [if_pos h2, if_pos (by omega)]
                    · rw [if_neg h2, if_neg (by omega)]
              · refine heavyB_want (by rfl) (fun K' hK' => ?_)
                go_simp
                refine hK' _ _ (Below.refl _ _) ?_
                clear hK' K'
                try simp only [Act.put, List.setIfInBounds_toArray, List.set_cons_zero, List.set_cons_succ]
                rw [wpSchedB]
                simp only [pick, List.map_nil, Array.getD_eq_getD_getElem?, List.getElem?_toArray, List.getElem?_cons_succ, List.getElem?_cons_zero, Option.getD_some]
                refine wpQuiet_nil ?_
                refine heavyB_want (by rfl) (fun K' hK' => ?_)
                go_simp
                refine hK' _ _ (Below.refl _ _) ?_
                clear hK' K'
                try simp only [Act.put, List.setIfInBounds_toArray, List.set_cons_zero, List.set_cons_succ]
                rw [wpSchedB]
                simp only [pick, List.map_cons, List.map_nil, Array.getD_eq_getD_getElem?, List.getElem?_toArray, List.getElem?_cons_succ, List.getElem?_cons_zero, Option.getD_some]
                have kq := plusB_cell hmi (by show bm < W2.heap.size; exact hbm2)
                repeat (first | go_big_quiet_step (fail) | quiet_step (fail))
                refine wpQuiet_nil ?_
                clear kq
                refine heavyB_want (by rfl) (fun K' hK' => ?_)
                go_simp
                refine (apply_any bm M (M i) _ hmV).mono ?_
                rintro e V2 ⟨rfl, rfl⟩
                refine hK' _ _ (Below.refl _ _) ?_
                clear hK' K'
                try simp only [Act.put, List.setIfInBounds_toArray, List.set_cons_zero, List.set_cons_succ]
                rw [wpSchedB]
                simp only [pick, List.map_cons, List.map_nil, Array.getD_eq_getD_getElem?, List.getElem?_toArray, List.getElem?_cons_succ, List.getElem?_cons_zero, Option.getD_some]
                repeat (first | go_big_quiet_step (fail) | quiet_step (fail))
                refine wpQuiet_nil ?_
                refine heavyB_want (by rfl) (fun K' hK' => ?_)
                go_simp
                refine hK' _ _ ((Below.refl _ _).setCell (p := ⟨W2.heap.size, i, none⟩) (Nat.le_refl _) _) ?_
                clear hK' K'
                try simp only [Act.put, List.setIfInBounds_toArray, List.set_cons_zero, List.set_cons_succ]
                rw [wpSchedB]
                simp only [List.map_nil]
                refine wpQuiet_nil ?_
                gi_wp2_with fail
                refine ⟨⟨i + 1, by omega, by go_num, by simp; have := hV.size; omega, fun j hj => ?_, fun j => by rw [World.frozen?_setCell]; exact HFV.out j, (hB.trans (hV.mono (by omega))).setCell (Nat.le_refl _) _⟩, by simp [intOf]; omega⟩
                by_cases hjk : j = i
                · subst hjk
                  rw [if_pos (by omega)]
                  exact World.cell?_setCell_same' _ _ _ (by rw [hci]; rfl)
                · rw [World.cell?_setCell_other _ _ _ _ (by simp <;> omega), later hV (HC.out j hj)]
                  by_cases h2 : j < i
                  · rw [if_pos h2, if_pos (by omega)]
                  · rw [if_neg h2, if_neg (by omega)]
            · obtain rfl : i = 32 := by omega
              have hmn : IsMat wr W2.heap.size (zmat (8 * pow2 (k + 1))) := fun j hj => by
                rw [hc j hj, if_pos hj, ← HM.out, zmat_next, show 8 * pow2 (k + 1) = 8 * pow2 k + 8 * pow2 k by simp only [pow2]; omega]
              have hj3 := hJ _ _ _ _ hj2 (Turns.of_below hB (Nat.le_refl _))
              gi_wp2_with fail
              gi_roundg (gk - 1)
              case measure => omega
              case rel => exact ⟨k + 1, S2, W2.heap.size, by omega, rfl, hj3, hmn, hns2, hsb2⟩
        · gi_wp2_with fail
          go_end0
          exact ⟨⟨_, rfl⟩, .inr ⟨k, _, hk, hj2⟩⟩

end Go.Proofs.Ytcdmmhbmpkdagaa
