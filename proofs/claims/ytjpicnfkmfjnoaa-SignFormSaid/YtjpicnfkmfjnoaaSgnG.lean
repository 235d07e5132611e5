/- WALKS of the sign layer: Sign (its closure); the cells of a signature. -/
import Derived.Test.YtjpicnfkmfjnoaaSgnF
import Derived.Test.YtjpicnfkmfjnoaaArrN
import Derived.Test.YtjpicnfkmfjnoaaRegionR
namespace Go.Proofs.Ytjpicnfkmfjnoaa
open Go.RowKit

attribute [local go_sem] Oper.semAt_some
set_option maxHeartbeats 1000000 in
theorem sign1_any (d seed : D64) (q : Int) (i b1 b2 b3 : Nat) (w : World) (hi : i < 18) (h1 : Arr w b1 (digV d)) (c2 : w.cell? ⟨b2, 0, none⟩ = some (.int .u64 (num seed))) (c3 : w.cell? ⟨b3, 0, none⟩ = some (.int .i64 q)) :
    Calls Try.prog 45 #[.int .i64 (i : Int), .pointer (some ⟨b1, 0, none⟩), .pointer (some ⟨b2, 0, none⟩), .pointer (some ⟨b3, 0, none⟩)] w (NumOf (Sgn.val seed (u8z q) (u8z (q / 256)) i (Sgn.dig d i)) w) := by
  have c1 := (h1 i hi).1
  unfold digV at c1
  have hx15 := Sgn.dig_le d i
  have HV0 : Hid (Sgn.adv (UInt8.ofNat i) 0 (Sgn.dig d i) (Sgn.sec seed (u8z q) (u8z (q / 256)) (UInt8.ofNat i)) = Sgn.val seed (u8z q) (u8z (q / 256)) i (Sgn.dig d i)) := rfl
  obtain ⟨z, hz⟩ : ∃ z, Sgn.val seed (u8z q) (u8z (q / 256)) i (Sgn.dig d i) = z := ⟨_, rfl⟩
  rw [hz] at HV0 ⊢
  obtain ⟨x, hx⟩ : ∃ x, Sgn.dig d i = x := ⟨_, rfl⟩
  obtain ⟨y, hy⟩ : ∃ y, Sgn.sec seed (u8z q) (u8z (q / 256)) (UInt8.ofNat i) = y := ⟨_, rfl⟩
  rw [hx] at c1 hx15 HV0
  rw [hy] at HV0
  have HV : Hid (Sgn.adv (UInt8.ofNat i) 0 x y = z) := HV0
  have HS := Lib.hid hy
  have hi18 : decide ((i : Int) < 18) = true := by simp; omega
  clear hz hx hy HV0 h1
  have hB := Below.refl w.heap.size w
  go_enter Try.func45, Try.ntmps45
  go_wp2_with fail
  refine wp_region_sched (fun W => W.cell? ⟨b1, i, none⟩ = some (.int .i64 (x : Int)) ∧ W.cell? ⟨b2, 0, none⟩ = some (.int .u64 (num seed)) ∧ W.cell? ⟨b3, 0, none⟩ = some (.int .i64 q) ∧ Below w.heap.size w W) (.one [0, 1, 2, 3, 4, 5, 6] 7 (.one [] 8 (.done [9]))) (by kernel_rfl) (by kernel_rfl) (fun _ _ _ _ _ h => h) ⟨(by go_simp), (by go_simp), (by go_simp), hB.drew⟩ ?_
  clear hB c1 c2 c3
  rintro W ⟨g1_0, g1_1, g1_2, hB⟩
  rw [wpSched]
  simp only [pick, List.map_cons, List.map_nil, Array.getD_eq_getD_getElem?, List.getElem?_toArray, List.getElem?_cons_succ, List.getElem?_cons_zero, Option.getD_some]
  have kg1_0 := plusW_cell g1_0
  have kg1_1 := plusW_cell g1_1
  have kg1_2 := plusW_cell g1_2
  repeat (first | go_big_quiet_step (fail) | quiet_step (fail))
  refine wpQuiet_nil ?_
  clear kg1_0 kg1_1 kg1_2
  refine heavy_want (by rfl) (fun K' hK' => ?_)
  go_simp
  refine (secret_any seed q (i : Int) _).mono ?_
  rintro e W1 ⟨rfl, hb⟩
  refine hK' _ _ hb ?_
  clear hK' K'
  rw [u8z_nat, HS.out]
  have hq := thru (Below.refl _ W) hb
  clear hb
  have g2_0 := later hq g1_0
  have g2_1 := later hq g1_1
  have g2_2 := later hq g1_2
  replace hB := thru hB hq
  clear hq g1_0 g1_1 g1_2
  try simp only [Act.put, List.setIfInBounds_toArray, List.set_cons_zero, List.set_cons_succ]
  rw [wpSched]
  simp only [pick, List.map_nil, Array.getD_eq_getD_getElem?, List.getElem?_toArray, List.getElem?_cons_succ, List.getElem?_cons_zero, Option.getD_some]
  refine wpQuiet_nil ?_
  refine heavy_want (by rfl) (fun K' hK' => ?_)
  go_simp
  refine (advance_any i 0 x y _ (by omega) (by omega)).mono ?_
  rintro e W2 ⟨rfl, hb⟩
  refine hK' _ _ hb ?_
  clear hK' K'
  rw [Nat.sub_zero, HV.out]
  have hq := thru (Below.refl _ W1) hb
  clear hb
  have g3_0 := later hq g2_0
  have g3_1 := later hq g2_1
  have g3_2 := later hq g2_2
  replace hB := thru hB hq
  clear hq g2_0 g2_1 g2_2
  try simp only [Act.put, List.setIfInBounds_toArray, List.set_cons_zero, List.set_cons_succ]
  rw [wpSched]
  simp only [pick, List.map_cons, List.map_nil, Array.getD_eq_getD_getElem?, List.getElem?_toArray, List.getElem?_cons_succ, List.getElem?_cons_zero, Option.getD_some]
  repeat (first | go_big_quiet_step (fail) | quiet_step (fail))
  refine wpQuiet_nil ?_
  go_wp2_with fail
  go_ret
  exact ⟨rfl, hB⟩

/-- The cells of a signature. -/
def sigV (key : Int) (f : Nat → D64) (x : Option Addr) (n c : Nat) (j : Nat) : Value := if j = 0 then .int .i64 key else if j < 19 then .int .u64 (num (f (j - 1))) else .slice x n c
theorem sig_one (key : Int) (f : Nat → D64) (x : Option Addr) (n c j : Nat) : (sigV key f x n c j).oneCell' = true := by
  unfold sigV
  split
  · rfl
  · split <;> rfl
theorem sig_struct : (match Try.prog.underlying 34 with | some (.struct _) => true | _ => false) = true := by kernel_rfl
theorem sig_size : (Try.prog.info? 34).map (·.size) = some 20 := by kernel_rfl
theorem run_loadS {W : World} {b : Nat} {v : Nat → Value} (h : Blk W b 0 20 v) : (loadVar 34 ⟨b, 0, none⟩).run Try.prog W = .ok (aggN 20 v) W := by
  have hs := sig_struct
  cases hq : Try.prog.underlying 34 with
  | none => rw [hq] at hs; cases hs
  | some d =>
    rw [hq] at hs
    exact run_loadN h hq (by cases d <;> first | rfl | (simp at hs)) sig_size
theorem run_storeS {W : World} {b : Nat} {u : Nat → Value} (h : Blk W b 0 20 u) (key : Int) (f : Nat → D64) (x : Option Addr) (n c : Nat) : ∃ W2, (storeVar 34 ⟨b, 0, none⟩ (aggN 20 (sigV key f x n c))).run Try.prog W = .ok () W2 ∧ BlkSet b 0 20 (sigV key f x n c) W W2 :=
  run_storeN h (fun j _ => sig_one _ _ _ _ _ j) sig_size
def zeroS : Nat → Value := sigV 0 (fun _ => 0#64) none 0 0

end Go.Proofs.Ytjpicnfkmfjnoaa
