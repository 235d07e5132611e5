/- WALKS of the sign layer's laws: Same. -/
import Derived.Test.YtjpicnfkmfjnoaaSgnI
import Derived.Test.YtjpicnfkmfjnoaaArrEq
namespace Go.Proofs.Ytjpicnfkmfjnoaa
open Go.RowKit

theorem word_under : Try.prog.underlying 22 = some (.int .u64) := by kernel_rfl
theorem word_size : (Try.prog.info? 22).map (·.size) = some 1 := by kernel_rfl
theorem arrW_guard : Try.prog.eqGuardType Try.prog.depth 31 = false := by kernel_rfl
theorem wrd_int (f : Nat → D64) : wrdV f = intV .u64 (fun j => num (f j)) := rfl
theorem run_loadC {W : World} {b : Nat} {f : Nat → D64} (g : Blk W b 1 18 (wrdV f)) : (loadVar 31 ⟨b, 1, none⟩).run Try.prog W = .ok (aggN 18 (intV .u64 (fun j => num (f j)))) W := run_loadN g arrW_underlying rfl arrW_size
set_option maxHeartbeats 1000000 in
theorem same_yes (k : Int) (f1 f2 : Nat → D64) (he : ∀ j, j < 18 → f1 j = f2 j) (x1 x2 : Option Addr) (p : List D64) (c1 c2 : Nat) (w : World) (h1 : Wts w x1 p) (h2 : Wts w x2 p) (hl : p.length ≤ 100) :
    Calls Try.prog 20 #[aggN 20 (sigV k f1 x1 p.length c1), aggN 20 (sigV k f2 x2 p.length c2)] w (YesOf w) := by
  obtain ⟨n, hn⟩ : ∃ n, p.length = n := ⟨_, rfl⟩
  have HN := Lib.hid hn
  have hq : eqUpTo (fun j => num (f1 j)) (fun j => num (f2 j)) 0 18 = true := (eqUpTo_iff _ _ _ _).2 fun j _ hj => by rw [he j (by omega)]
  rw [hn] at hl ⊢
  clear hn he
  go_enter Try.func20, Try.ntmps20
  go_wp2_with (refine wpList_boxN rfl _ _ rfl (v := sigV k f1 x1 n c1) rfl ?_; intro W1 g1 hB hz; refine Hid.out ?_)
  unfold Hid
  obtain ⟨a, ha⟩ : ∃ a, w.heap.size = a := ⟨_, rfl⟩
  rw [ha] at g1 ⊢
  have z1 : a < W1.heap.size := by omega
  clear ha hz
  go_wp2_with (refine wpList_boxN rfl _ _ rfl (v := sigV k f2 x2 n c2) rfl ?_; intro W2 g2 hB2 hz2; refine Hid.out ?_)
  unfold Hid
  obtain ⟨b, hb⟩ : ∃ b, W1.heap.size = b := ⟨_, rfl⟩
  rw [hb] at g2 ⊢
  replace g1 := g1.later hB2
  replace hB := thru hB hB2
  replace h1 := h1.later (hB.mono (Nat.le_refl _))
  replace h2 := h2.later (hB.mono (Nat.le_refl _))
  clear hb hz2 hB2 z1
  have r0 : W2.cell? ⟨a, 0, none⟩ = some (.int .i64 k) := (g1.at 0 (by omega)).1
  have r19 : W2.cell? ⟨a, 19, none⟩ = some (.slice x1 n c1) := (g1.at 19 (by omega)).1
  have s0 : W2.cell? ⟨b, 0, none⟩ = some (.int .i64 k) := (g2.at 0 (by omega)).1
  have s19 : W2.cell? ⟨b, 19, none⟩ = some (.slice x2 n c2) := (g2.at 19 (by omega)).1
  have l1 := run_loadC g1.chain
  have l2 := run_loadC g2.chain
  clear g1 g2
  go_wp2_with (first | (refine wpList_loadN_w rfl _ _ rfl (b := a) (q := 1) rfl l1 ?_) | (refine wpList_loadN_w rfl _ _ rfl (b := b) (q := 1) rfl l2 ?_) | (refine wpList_neqA rfl _ _ _ _ rfl rfl rfl arrW_underlying word_under word_size arrW_guard ?_; rw [hq]))
  clear l1 l2 hq
  go_loopw [30] (fun u30 wr => ∃ i : Nat, i ≤ n ∧ u30 = .int .i64 (i : Int) ∧ Below W2.heap.size W2 wr) (fun u30 _ => n - (intOf u30).toNat)
  case atStart => exact ⟨0, by omega, rfl, Below.refl _ _⟩
  case round =>
    clear r0 s0
    obtain ⟨i, hi, rfl, hBr⟩ := hrel
    have r := later hBr r19
    have s := later hBr s19
    by_cases hlt : i < n
    · have hki : decide ((i : Int) < (n : Int)) = true := by simp; omega
      obtain ⟨b1, o1, rfl, k1⟩ := h1.cell i (by have := HN.out; omega)
      obtain ⟨b2, o2, rfl, k2⟩ := h2.cell i (by have := HN.out; omega)
      replace k1 := later hBr k1
      replace k2 := later hBr k2
      obtain ⟨y, hy⟩ : ∃ y, p.getD i 0#64 = y := ⟨_, rfl⟩
      rw [hy] at k1 k2
      clear hy h1 h2 r19 s19
      go_wp2_with fail
      refine wp_region_sched (fun W => W.cell? ⟨a, 19, none⟩ = some (.slice (some ⟨b1, o1, none⟩) n c1) ∧ W.cell? ⟨b, 19, none⟩ = some (.slice (some ⟨b2, o2, none⟩) n c2) ∧ W.cell? ⟨b1, o1 + i, none⟩ = some (.int .u64 (num y)) ∧ W.cell? ⟨b2, o2 + i, none⟩ = some (.int .u64 (num y)) ∧ Below W2.heap.size W2 W) (.done [0, 1, 2, 3, 4, 5, 6, 7, 8, 9, 10]) (by kernel_rfl) (by kernel_rfl) (fun _ _ _ _ _ h => h) ⟨(by go_simp), (by go_simp), (by go_simp), (by go_simp), hBr.drew⟩ ?_
      clear r s k1 k2 hBr
      rintro W ⟨r, s, k1, k2, hBr⟩
      rw [wpSched]
      simp only [pick, List.map_cons, List.map_nil, Array.getD_eq_getD_getElem?, List.getElem?_toArray, List.getElem?_cons_succ, List.getElem?_cons_zero, Option.getD_some]
      have kr := plusW_cell r
      have ks := plusW_cell s
      have kk1 := plusW_cell k1
      have kk2 := plusW_cell k2
      repeat (first | go_big_quiet_step (fail) | quiet_step (fail))
      refine wpQuiet_nil ?_
      clear kr ks kk1 kk2
      go_wp2_with fail
      exact ⟨⟨i + 1, by omega, by go_num, hBr⟩, by simp [intOf]; omega⟩
    · obtain rfl : i = n := by omega
      clear h1 h2 r19 s19
      go_wp2_with fail
      go_ret
      exact ⟨rfl, thru hB hBr⟩

end Go.Proofs.Ytjpicnfkmfjnoaa
