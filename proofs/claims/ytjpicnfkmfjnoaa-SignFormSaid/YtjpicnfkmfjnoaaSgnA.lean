/- WALKS of the sign layer: Digits. -/
import Derived.Test.YtjpicnfkmfjnoaaDigP
import Derived.Test.YtjpicnfkmfjnoaaPureSign
import Derived.Test.YtjpicnfkmfjnoaaArr18
import Derived.LoopTactic
import Derived.OwnWalk
namespace Go.Proofs.Ytjpicnfkmfjnoaa
open Go.RowKit

theorem arrI_underlying : Try.prog.underlying 24 = some (.array 18 3) := by kernel_rfl
theorem arrI_size : (Try.prog.info? 24).map (·.size) = some 18 := by kernel_rfl
/-- The value of Digits. -/
def digV (d : D64) (j : Nat) : Value := .int .i64 ((Sgn.dig d j : Nat) : Int)
theorem u64_low4 (x : D64) : bits .and .u64 (num x) 15 = ((x.toNat % 16 : Nat) : Int) := by
  have h : bits .and .u64 (num x) (num 15#64) = num (x &&& 15#64) := u64_and x 15#64
  have e : num 15#64 = 15 := by decide
  rw [e] at h
  rw [h]
  unfold num
  rw [BitVec.toNat_and]
  show ((x.toNat &&& 15 : Nat) : Int) = _
  rw [show (15 : Nat) = 2 ^ 4 - 1 from rfl, Nat.and_two_pow_sub_one_eq_mod]
def DgRel (d : D64) (w : World) (u4 u6 : Value) (wr : World) : Prop :=
  ∃ i : Nat, i ≤ 16 ∧ u6 = .int .i64 (i : Int) ∧ u4 = .int .i64 ((Sgn.lack d i : Nat) : Int) ∧ Below w.heap.size w wr ∧
    Arr wr (w.heap.size + 1) (fun j => if j < i then .int .i64 ((Sgn.dg d j : Nat) : Int) else .int .i64 0) ∧ Arr wr w.heap.size (fun _ => .int .i64 0)

set_option maxHeartbeats 2000000 in
theorem digits_any (d : D64) (w : World) : Calls Try.prog 11 #[.int .u64 (num d)] w fun e w' => e = .returned (arrA (digV d)) ∧ Below w.heap.size w w' := by
  have hB := Below.refl w.heap.size w
  go_enter Try.func11, Try.ntmps11
  go_wp2_with fail
  go_loopw [4, 6] (fun u4 u6 wr => DgRel d w u4 u6 wr) (fun _ u6 _ => 16 - (intOf u6).toNat)
  case atStart =>
    refine ⟨0, by omega, rfl, rfl, al (al hB _) _, ?_, ?_⟩
    · have := arr_new (w.alloc (.cells #[.int .i64 0, .int .i64 0, .int .i64 0, .int .i64 0, .int .i64 0, .int .i64 0, .int .i64 0, .int .i64 0, .int .i64 0, .int .i64 0, .int .i64 0, .int .i64 0, .int .i64 0, .int .i64 0, .int .i64 0, .int .i64 0, .int .i64 0, .int .i64 0] 24)) (fun _ => .int .i64 0) #[.int .i64 0, .int .i64 0, .int .i64 0, .int .i64 0, .int .i64 0, .int .i64 0, .int .i64 0, .int .i64 0, .int .i64 0, .int .i64 0, .int .i64 0, .int .i64 0, .int .i64 0, .int .i64 0, .int .i64 0, .int .i64 0, .int .i64 0, .int .i64 0] 24 rfl
      rw [World.size_alloc] at this
      exact this
    · exact (arr_new w (fun _ => .int .i64 0) #[.int .i64 0, .int .i64 0, .int .i64 0, .int .i64 0, .int .i64 0, .int .i64 0, .int .i64 0, .int .i64 0, .int .i64 0, .int .i64 0, .int .i64 0, .int .i64 0, .int .i64 0, .int .i64 0, .int .i64 0, .int .i64 0, .int .i64 0, .int .i64 0] 24 rfl).later (al (Below.refl _ _) _)
  case round =>
    clear hB
    obtain ⟨i, hi, rfl, rfl, hB, hA, hR⟩ := hrel
    have hlk := Sgn.lack_le d i
    by_cases hlt : i < 16
    · have hci := hA i (by omega)
      have hdg : (d >>> (4 * i)).toNat % 16 = Sgn.dg d i := rfl
      have hd15 := Sgn.dg_lt d i
      obtain ⟨x, hx⟩ : ∃ x, Sgn.dg d i = x := ⟨_, rfl⟩
      obtain ⟨s, hs⟩ : ∃ s, 4 * i = s := ⟨_, rfl⟩
      have h4i : 4 * (i : Int) = (s : Int) := by omega
      have hs63 : s < 64 := by omega
      obtain ⟨y, hy⟩ : ∃ y, d >>> s = y := ⟨_, rfl⟩
      have hsh : num d / 2 ^ s = num y := by rw [← hy, ← shr_of]; simp
      rw [hs, hy, hx] at hdg
      have hand := u64_low4 y
      rw [hdg] at hand
      have hfi : wr.frozen? ⟨w.heap.size + 1, i, none⟩ = false := hci.2
      have hvi := hci.1
      have HX : Hid (Sgn.lack d (i + 1) = Sgn.lack d i + (15 - x)) := by show _ = _; rw [← hx]; rfl
      have HX2 := Lib.hid hx
      clear hx hci
      go_wp2_with fail
      refine ⟨⟨i + 1, by omega, by go_num, by rw [HX.out]; congr 1; omega, hB.setCell (by simp) _, (hA.set i (by omega) _).congr fun j _ => ?_, hR.other (by simp) _⟩, by simp [intOf]; omega⟩
      by_cases hji : j = i
      · subst hji; simp [HX2.out]
      · by_cases h2 : j < i
        · simp [hji, h2, show j < i + 1 by omega]
        · simp [hji, h2, show ¬ j < i + 1 by omega]
    · obtain rfl : i = 16 := by omega
      have c16 : wr.cell? ⟨w.heap.size + 1, 16, none⟩ = some (.int .i64 0) := (hA 16 (by omega)).1
      have c17 : wr.cell? ⟨w.heap.size + 1, 17, none⟩ = some (.int .i64 0) := (hA 17 (by omega)).1
      have f16 := (hA 16 (by omega)).2
      have f17 := (hA 17 (by omega)).2
      have e16 := Sgn.dig_16 d
      have e17 := Sgn.dig_17 d
      obtain ⟨m, hm⟩ : ∃ m, Sgn.lack d 16 = m := ⟨_, rfl⟩
      obtain ⟨m1, hm1⟩ : ∃ k, m % 16 = k := ⟨_, rfl⟩
      obtain ⟨m2, hm2⟩ : ∃ k, m / 16 = k := ⟨_, rfl⟩
      have hmod : (m : Int) % 16 = (m1 : Int) := by omega
      have hmodt : (m : Int).tmod 16 = (m1 : Int) := by rw [Int.tmod_eq_emod_of_nonneg (by omega)]; omega
      have hdiv : (m : Int) / 16 = (m2 : Int) := by omega
      have hdivt : (m : Int).tdiv 16 = (m2 : Int) := by rw [Int.tdiv_eq_ediv_of_nonneg (by omega)]; omega
      rw [hm] at e16 e17 hlk ⊢
      rw [hm1] at e16
      rw [hm2] at e17
      have hA2 : Arr _ (w.heap.size + 1) (digV d) := ((hA.set 16 (by omega) (.int .i64 (m1 : Int))).set 17 (by omega) (.int .i64 (m2 : Int))).congr fun j hj => by
        unfold digV
        by_cases h17 : j = 17
        · subst h17; simp [e17]
        · by_cases h16 : j = 16
          · subst h16; simp [e16]
          · rw [if_neg h17, if_neg h16, if_pos (by omega), Sgn.dig_low d j (by omega)]
      have hB2 := (hB.setCell (p := ⟨w.heap.size + 1, 16, none⟩) (by simp) (.int .i64 (m1 : Int))).setCell (p := ⟨w.heap.size + 1, 17, none⟩) (by simp) (.int .i64 (m2 : Int))
      have hR2 := (hR.other (p := ⟨w.heap.size + 1, 16, none⟩) (by simp) (.int .i64 (m1 : Int))).other (p := ⟨w.heap.size + 1, 17, none⟩) (by simp) (.int .i64 (m2 : Int))
      obtain ⟨W1, hW1⟩ : ∃ X, (wr.setCell ⟨w.heap.size + 1, 16, none⟩ (.int .i64 (m1 : Int))).setCell ⟨w.heap.size + 1, 17, none⟩ (.int .i64 (m2 : Int)) = X := ⟨_, rfl⟩
      rw [hW1] at hA2 hB2 hR2
      have hl1 := run_loadA (P := Try.prog) hA2 arrI_underlying arrI_size
      obtain ⟨W2, hs1, hset⟩ := run_storeA (P := Try.prog) hR2 (v := digV d) (fun _ _ => rfl) arrI_size
      have hl2 := run_loadA (P := Try.prog) hset.arr arrI_underlying arrI_size
      have hB3 := hset.below _ _ (Nat.le_refl _) hB2
      clear hm hm1 hm2 e16 e17 hA2 hB2 hR2 hA hR hB hset
      go_wp2_with (first | (refine wpList_loadA rfl _ _ rfl (b := w.heap.size + 1) rfl hl1 ?_) | (refine wpList_storeA rfl rfl _ _ _ rfl (b := w.heap.size) rfl hs1 ?_))
      exact bodyPost_ret (v := arrA (digV d)) (results_cellA rfl rfl hl2) rfl ⟨rfl, hB3⟩

end Go.Proofs.Ytjpicnfkmfjnoaa
