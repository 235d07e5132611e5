/- WALKS of the sign layer: values, Public (its closure). -/
import Derived.Test.YtjpicnfkmfjnoaaSgnB
namespace Go.Proofs.Ytjpicnfkmfjnoaa
open Go.RowKit

theorem arrW_underlying : Try.prog.underlying 31 = some (.array 18 22) := by kernel_rfl
theorem arrW_size : (Try.prog.info? 31).map (·.size) = some 18 := by kernel_rfl
/-- The cells of an array of words. -/
def wrdV (f : Nat → D64) (j : Nat) : Value := .int .u64 (num (f j))
def VaRel (f : Nat → D64) (w : World) (u5 : Value) (wr : World) : Prop :=
  ∃ i : Nat, i ≤ 18 ∧ u5 = .int .i64 (i : Int) ∧ Below w.heap.size w wr ∧ Arr wr (w.heap.size + 1) (fun j => if j < i then .int .u64 (num (f j)) else .int .u64 0) ∧ Arr wr w.heap.size (fun _ => .int .u64 0)
theorem zeros18 (w : World) : Arr (w.alloc (.cells #[.int .u64 0, .int .u64 0, .int .u64 0, .int .u64 0, .int .u64 0, .int .u64 0, .int .u64 0, .int .u64 0, .int .u64 0, .int .u64 0, .int .u64 0, .int .u64 0, .int .u64 0, .int .u64 0, .int .u64 0, .int .u64 0, .int .u64 0, .int .u64 0] 31)) w.heap.size (fun _ => .int .u64 0) := arr_new w _ _ _ rfl

set_option maxHeartbeats 1000000 in
theorem values_any (G : Nat) (caps : Array Value) (f : Nat → D64) (w : World) (eg : ∀ args W, (callFunc G args).run Try.prog W = .ok (.enter G args) W)
    (hf : ∀ (i : Nat) (W : World), i < 18 → Below w.heap.size w W → Calls Try.prog G (#[.int .i64 (i : Int)] ++ caps) W (NumOf (f i) W)) :
    Calls Try.prog 38 #[.func (.func G) #[] caps] w fun e w' => e = .returned (arrA (wrdV f)) ∧ Below w.heap.size w w' := by
  have HF := Lib.hid hf
  have hB := Below.refl w.heap.size w
  clear hf
  go_enter Try.func38, Try.ntmps38
  go_wp2_with fail
  go_loopw [5] (fun u5 wr => VaRel f w u5 wr) (fun u5 _ => 18 - (intOf u5).toNat)
  case atStart =>
    refine ⟨0, by omega, rfl, al (al hB _) _, ?_, (zeros18 w).later (al (Below.refl _ _) _)⟩
    have := zeros18 (w.alloc (.cells #[.int .u64 0, .int .u64 0, .int .u64 0, .int .u64 0, .int .u64 0, .int .u64 0, .int .u64 0, .int .u64 0, .int .u64 0, .int .u64 0, .int .u64 0, .int .u64 0, .int .u64 0, .int .u64 0, .int .u64 0, .int .u64 0, .int .u64 0, .int .u64 0] 31))
    rw [World.size_alloc] at this
    exact this
  case round =>
    clear hB
    obtain ⟨i, hi, rfl, hB, hA, hR⟩ := hrel
    by_cases hlt : i < 18
    · have hki : decide ((i : Int) < 18) = true := by simp; omega
      go_wp2_with fail
      refine (HF.out i _ hlt hB).mono ?_
      rintro e w1 ⟨rfl, hb⟩
      have hA1 := hA.later hb
      have hR1 := hR.later hb
      have hB1 := thru hB hb
      have hvi := (hA1 i hlt).1
      have hfi : w1.frozen? ⟨w.heap.size + 1, i, none⟩ = false := (hA1 i hlt).2
      clear hA hR hB hb
      go_wp2_with fail
      refine ⟨⟨i + 1, by omega, by go_num, hB1.setCell (by simp) _, (hA1.set i (by omega) _).congr fun j _ => ?_, hR1.other (by simp) _⟩, by simp [intOf]; omega⟩
      by_cases hji : j = i
      · subst hji; simp
      · by_cases h2 : j < i
        · simp [hji, h2, show j < i + 1 by omega]
        · simp [hji, h2, show ¬ j < i + 1 by omega]
    · obtain rfl : i = 18 := by omega
      have hA2 : Arr wr (w.heap.size + 1) (wrdV f) := hA.congr fun j hj => by
        unfold wrdV
        rw [if_pos hj]
      have hl1 := run_loadA (P := Try.prog) hA2 arrW_underlying arrW_size
      obtain ⟨W2, hs1, hset⟩ := run_storeA (P := Try.prog) hR (v := wrdV f) (fun _ _ => rfl) arrW_size
      have hl2 := run_loadA (P := Try.prog) hset.arr arrW_underlying arrW_size
      have hB3 := hset.below _ _ (Nat.le_refl _) hB
      clear hA2 hA hR hB hset HF
      go_wp2_with (first | (refine wpList_loadA rfl _ _ rfl (b := w.heap.size + 1) rfl hl1 ?_) | (refine wpList_storeA rfl rfl _ _ _ rfl (b := w.heap.size) rfl hs1 ?_))
      exact bodyPost_ret (v := arrA (wrdV f)) (results_cellA rfl rfl hl2) rfl ⟨rfl, hB3⟩

theorem public1_any (seed : D64) (q : Int) (a b : Nat) (i : Nat) (w : World) (_hi : i < 18) (h0 : w.cell? ⟨a, 0, none⟩ = some (.int .u64 (num seed))) (h1 : w.cell? ⟨b, 0, none⟩ = some (.int .i64 q)) :
    Calls Try.prog 39 #[.int .i64 (i : Int), .pointer (some ⟨a, 0, none⟩), .pointer (some ⟨b, 0, none⟩)] w (NumOf (Sgn.val seed (u8z q) (u8z (q / 256)) i 15) w) := by
  have HV : Hid (Sgn.adv (UInt8.ofNat i) 0 15 (Sgn.sec seed (u8z q) (u8z (q / 256)) (UInt8.ofNat i)) = Sgn.val seed (u8z q) (u8z (q / 256)) i 15) := rfl
  go_enter Try.func39, Try.ntmps39
  go_wp2_with fail
  refine (secret_any seed q (i : Int) _).mono ?_
  rintro e w1 ⟨rfl, hb⟩
  rw [u8z_nat]
  obtain ⟨y, hy⟩ : ∃ y, Sgn.sec seed (u8z q) (u8z (q / 256)) (UInt8.ofNat i) = y := ⟨_, rfl⟩
  rw [hy] at HV ⊢
  clear hy
  go_wp2_with fail
  refine (advance_any i 0 15 y _ (by omega) (by omega)).mono ?_
  rintro e w2 ⟨rfl, hb2⟩
  rw [show 15 - 0 = 15 from rfl, HV.out]
  go_wp2_with fail
  go_ret
  exact ⟨rfl, thru hb hb2⟩

end Go.Proofs.Ytjpicnfkmfjnoaa
