/- LAW SignNil. -/
import Derived.Test.YtjpicnfkmfjnoaaSgnK
import Derived.Laws.ResultCell
namespace Go.Proofs.Ytjpicnfkmfjnoaa
open Go.RowKit

def SgNo (e : Ending) : Prop := e = .returned (.tuple #[aggN 20 zeroS, .int .i64 1])
theorem ssign_nil (d : D64) (w : World) : Calls Try.prog 24 #[.pointer none, .int .u64 (num d)] w fun e w' => e = .returned (.tuple #[aggN 20 zeroS, .int .i64 1]) ∧ Below w.heap.size w w' := by
  go_enter Try.func24, Try.ntmps24
  go_wp2_with (refine wpList_allocTo 4 rfl rfl _ rfl sig_zero ?_; intro X1 a1 hb hz; refine Hid.out ?_)
  unfold Hid
  try simp only [Act.put, List.setIfInBounds_toArray, List.set_cons_zero, List.set_cons_succ]

  obtain ⟨b1, hb1⟩ : ∃ a, w.heap.size = a := ⟨_, rfl⟩
  rw [hb1] at a1 hz ⊢
  go_wp2_with (refine wpList_storeB rfl rfl _ (.tmp 4) _ rfl (b := b1) (q := 0) rfl (n := 20) (v := zeroS) rfl a1 (fun j _ => sig_one _ _ _ _ _ j) sig_size ?_; intro Y1 t1; refine Hid.out ?_)
  unfold Hid
  have hB := t1.below w.heap.size w (by omega) hb
  have l1 := run_loadS t1.blk
  clear t1 a1
  go_wp2_with fail
  refine bodyPost_ret (v := .tuple #[aggN 20 zeroS, .int .i64 1]) ?_ rfl ⟨rfl, hB⟩
  rw [results_cell_tmp rfl]
  simp [asAddr, Result.andThen]
  rw [l1]
theorem ssign_off (b : Nat) (d : D64) (w : World) (c4 : w.cell? ⟨b, 4, none⟩ = some (.bool false)) : Calls Try.prog 24 #[.pointer (some ⟨b, 0, none⟩), .int .u64 (num d)] w fun e w' => e = .returned (.tuple #[aggN 20 zeroS, .int .i64 1]) ∧ Below w.heap.size w w' := by
  go_enter Try.func24, Try.ntmps24
  go_wp2_with (refine wpList_allocTo 4 rfl rfl _ rfl sig_zero ?_; intro X1 a1 hb hz; refine Hid.out ?_)
  unfold Hid
  try simp only [Act.put, List.setIfInBounds_toArray, List.set_cons_zero, List.set_cons_succ]
  have k4 := later hb c4
  clear c4
  obtain ⟨b1, hb1⟩ : ∃ a, w.heap.size = a := ⟨_, rfl⟩
  rw [hb1] at a1 hz ⊢
  go_wp2_with (refine wpList_storeB rfl rfl _ (.tmp 4) _ rfl (b := b1) (q := 0) rfl (n := 20) (v := zeroS) rfl a1 (fun j _ => sig_one _ _ _ _ _ j) sig_size ?_; intro Y1 t1; refine Hid.out ?_)
  unfold Hid
  have hB := t1.below w.heap.size w (by omega) hb
  have l1 := run_loadS t1.blk
  clear t1 a1
  go_wp2_with fail
  refine bodyPost_ret (v := .tuple #[aggN 20 zeroS, .int .i64 1]) ?_ rfl ⟨rfl, hB⟩
  rw [results_cell_tmp rfl]
  simp [asAddr, Result.andThen]
  rw [l1]

theorem sleft_nil (w : World) : Calls Try.prog 25 #[.pointer none] w fun e w' => e = .returned (.int .i64 0) ∧ Below w.heap.size w w' := by
  go_enter Try.func25, Try.ntmps25
  go_wp2_with fail
  go_ret
  exact ⟨rfl, Below.refl _ _⟩
theorem sleft_off (b : Nat) (w : World) (c4 : w.cell? ⟨b, 4, none⟩ = some (.bool false)) : Calls Try.prog 25 #[.pointer (some ⟨b, 0, none⟩)] w fun e w' => e = .returned (.int .i64 0) ∧ Below w.heap.size w w' := by
  go_enter Try.func25, Try.ntmps25
  go_wp2_with fail
  go_ret
  exact ⟨rfl, Below.refl _ _⟩
theorem sroot_nil (w : World) : Calls Try.prog 26 #[.pointer none] w fun e w' => e = .returned (.int .u64 0) ∧ Below w.heap.size w w' := by
  go_enter Try.func26, Try.ntmps26
  go_wp2_with fail
  go_ret
  exact ⟨rfl, Below.refl _ _⟩
theorem sroot_some (b : Nat) (r : Int) (w : World) (c2 : w.cell? ⟨b, 2, none⟩ = some (.int .u64 r)) : Calls Try.prog 26 #[.pointer (some ⟨b, 0, none⟩)] w fun e w' => e = .returned (.int .u64 r) ∧ Below w.heap.size w w' := by
  go_enter Try.func26, Try.ntmps26
  go_wp2_with fail
  go_ret
  exact ⟨rfl, Below.refl _ _⟩
theorem new_bad (seed : D64) (h : Int) (hn : vldS h 0 = false) (w : World) : Calls Try.prog 27 #[.int .u64 (num seed), .int .i64 h] w fun e w' => e = .returned (.tuple #[.pointer none, .int .i64 2]) ∧ Below w.heap.size w w' := by
  go_enter Try.func27, Try.ntmps27
  go_wp2_with fail
  refine (root_bad seed h hn _).mono ?_
  rintro e w1 ⟨rfl, hb⟩
  go_wp2_with fail
  exact bodyPost_ret (v := .tuple #[.pointer none, .int .i64 2]) (by simp [results, Try.f27, go_sem]) rfl ⟨rfl, hb⟩

theorem same_zero (w : World) : Calls Try.prog 20 #[aggN 20 zeroS, .agg #[.int .i64 0, .int .u64 0, .int .u64 0, .int .u64 0, .int .u64 0, .int .u64 0, .int .u64 0, .int .u64 0, .int .u64 0, .int .u64 0, .int .u64 0, .int .u64 0, .int .u64 0, .int .u64 0, .int .u64 0, .int .u64 0, .int .u64 0, .int .u64 0, .int .u64 0, .slice none 0 0]] w (YesOf w) :=
  same_yes 0 (fun _ => 0#64) (fun _ => 0#64) (fun _ _ => rfl) none none [] 0 0 _ (Wts.nil _ _) (Wts.nil _ _) (by simp)
/-- What a signer that is none answers, from a world on. -/
def Off (d : D64) (W : World) (p : Option Addr) : Prop := ∀ W', Below W.heap.size W W' → (Calls Try.prog 24 #[.pointer p, .int .u64 (num d)] W' fun e w' => e = .returned (.tuple #[aggN 20 zeroS, .int .i64 1]) ∧ Below W'.heap.size W' w') ∧
  (Calls Try.prog 25 #[.pointer p] W' fun e w' => e = .returned (.int .i64 0) ∧ Below W'.heap.size W' w') ∧ (Calls Try.prog 26 #[.pointer p] W' fun e w' => e = .returned (.int .u64 0) ∧ Below W'.heap.size W' w')
set_option maxHeartbeats 2000000 in
theorem nil_law (d : D64) (h : Int) (w : World) (_hh : -9223372036854775808 ≤ h ∧ h ≤ 9223372036854775807) : Calls Try.prog 6 #[.int .u64 (num d), .int .i64 h] w (YesOf w) := by
  obtain ⟨m, hm⟩ : ∃ m, min h (-1) = m := ⟨_, rfl⟩
  obtain ⟨M, hM⟩ : ∃ m, max h 7 = m := ⟨_, rfl⟩
  have hmin : ∀ (ts : Array TypeId) (t : TypeId) (W : World), (Builtin.min_ ts t #[.int .i64 h, .int .i64 (-1)]).run Try.prog W = .ok (.int .i64 m) W := fun ts t W => by
    rw [← hm]
    by_cases hc : h < -1
    · rw [Int.min_eq_left (by omega)]
      simp [Builtin.min_, Builtin.min2]
      omega
    · rw [Int.min_eq_right (by omega)]
      simp [Builtin.min_, Builtin.min2]
      omega
  have hmax : ∀ (ts : Array TypeId) (t : TypeId) (W : World), (Builtin.max_ ts t #[.int .i64 h, .int .i64 7]).run Try.prog W = .ok (.int .i64 M) W := fun ts t W => by
    rw [← hM]
    by_cases hc : h < 7
    · rw [Int.max_eq_right (by omega)]
      simp [Builtin.max_, Builtin.max2]
      omega
    · rw [Int.max_eq_left (by omega)]
      simp [Builtin.max_, Builtin.max2]
      omega
  have vm : vldS m 0 = false := by unfold vldS; exact decide_eq_false (by omega)
  have vM : vldS M 0 = false := by unfold vldS; exact decide_eq_false (by omega)
  clear hm hM
  go_enter Try.func6, Try.ntmps6
  go_wp2_with fail
  have hB : Below w.heap.size w ((w.alloc (.cells #[.int .u64 0, .int .i64 0, .int .u64 0, .int .i64 0, .bool false] 47)).alloc (.cells #[.pointer none, .pointer (some ⟨w.heap.size, 0, none⟩)] 45)) := al (al (Below.refl _ _) _) _
  have p0 : ((w.alloc (.cells #[.int .u64 0, .int .i64 0, .int .u64 0, .int .i64 0, .bool false] 47)).alloc (.cells #[.pointer none, .pointer (some ⟨w.heap.size, 0, none⟩)] 45)).cell? ⟨w.heap.size + 1, 0, none⟩ = some (.pointer none) := by go_simp
  have p1 : ((w.alloc (.cells #[.int .u64 0, .int .i64 0, .int .u64 0, .int .i64 0, .bool false] 47)).alloc (.cells #[.pointer none, .pointer (some ⟨w.heap.size, 0, none⟩)] 45)).cell? ⟨w.heap.size + 1, 1, none⟩ = some (.pointer (some ⟨w.heap.size, 0, none⟩)) := by go_simp
  have c2 : ((w.alloc (.cells #[.int .u64 0, .int .i64 0, .int .u64 0, .int .i64 0, .bool false] 47)).alloc (.cells #[.pointer none, .pointer (some ⟨w.heap.size, 0, none⟩)] 45)).cell? ⟨w.heap.size, 2, none⟩ = some (.int .u64 0) := by go_simp
  have c4 : ((w.alloc (.cells #[.int .u64 0, .int .i64 0, .int .u64 0, .int .i64 0, .bool false] 47)).alloc (.cells #[.pointer none, .pointer (some ⟨w.heap.size, 0, none⟩)] 45)).cell? ⟨w.heap.size, 4, none⟩ = some (.bool false) := by go_simp
  obtain ⟨W0, hW0⟩ : ∃ X, ((w.alloc (.cells #[.int .u64 0, .int .i64 0, .int .u64 0, .int .i64 0, .bool false] 47)).alloc (.cells #[.pointer none, .pointer (some ⟨w.heap.size, 0, none⟩)] 45)) = X := ⟨_, rfl⟩
  rw [hW0] at hB p0 p1 c2 c4 ⊢
  have o0 : Off d W0 none := fun W' hb => ⟨ssign_nil d W', sleft_nil W', sroot_nil W'⟩
  have o1 : Off d W0 (some ⟨w.heap.size, 0, none⟩) := fun W' hb => ⟨ssign_off _ d W' (later hb c4), sleft_off _ W' (later hb c4), sroot_some _ 0 W' (later hb c2)⟩
  obtain ⟨b, hb⟩ : ∃ b, w.heap.size + 1 = b := ⟨_, rfl⟩
  rw [hb] at p0 p1 ⊢
  have O0 := Lib.hid o0
  have O1 := Lib.hid o1
  clear hW0 hb c2 c4 o0 o1
  go_loopw [21] (fun u21 wr => ∃ i : Nat, i ≤ 2 ∧ u21 = .int .i64 (i : Int) ∧ Below W0.heap.size W0 wr) (fun u21 _ => 2 - (intOf u21).toNat)
  case atStart => exact ⟨0, by omega, rfl, Below.refl _ _⟩
  case round =>
    obtain ⟨i, hi, rfl, hBr⟩ := hrel
    by_cases hlt : i < 2
    · have hki : decide ((i : Int) < 2) = true := by simp; omega
      obtain ⟨p, cp, hoff⟩ : ∃ p, W0.cell? ⟨b, i, none⟩ = some (.pointer p) ∧ Off d W0 p := by
        by_cases h0 : i = 0
        · subst h0; exact ⟨_, p0, O0.out⟩
        · obtain rfl : i = 1 := by omega
          exact ⟨_, p1, O1.out⟩
      have cq := later hBr cp
      have HO := Lib.hid hoff
      clear p0 p1 cp hoff O0 O1 hmin hmax
      go_wp2_with fail
      refine (HO.out _ hBr).1.mono ?_
      rintro e W1 ⟨rfl, hb⟩
      replace hBr := thru hBr hb
      clear cq hb
      go_wp2_with (refine wpList_allocTo 7 rfl rfl _ rfl sig_zero ?_; intro X1 a1 hb hz; refine Hid.out ?_)
      unfold Hid
      try simp only [Act.put, List.setIfInBounds_toArray, List.set_cons_zero, List.set_cons_succ]
      obtain ⟨b1, hb1⟩ : ∃ a, W1.heap.size = a := ⟨_, rfl⟩
      have s1 : W0.heap.size ≤ b1 := hb1 ▸ hBr.size
      replace hBr := thru hBr hb
      rw [hb1] at a1 hz ⊢
      clear hb hb1
      go_wp2_with (refine wpList_storeB rfl rfl _ (.tmp 7) _ rfl (b := b1) (q := 0) rfl (n := 20) (v := zeroS) rfl a1 (fun j _ => sig_one _ _ _ _ _ j) sig_size ?_; intro Y1 t1; refine Hid.out ?_)
      unfold Hid
      replace hBr := t1.below _ _ (by omega) hBr
      have l1 := run_loadS t1.blk
      clear t1 a1
      go_wp2_with (refine wpList_loadN_w rfl _ _ rfl (b := b1) (q := 0) rfl l1 ?_)
      refine (same_zero _).mono ?_
      rintro e W2 ⟨rfl, hb⟩
      replace hBr := thru hBr hb
      clear l1 hb
      go_wp2_with fail
      refine (HO.out _ hBr).2.1.mono ?_
      rintro e W3 ⟨rfl, hb⟩
      replace hBr := thru hBr hb
      clear hb
      go_wp2_with fail
      refine (HO.out _ hBr).2.2.mono ?_
      rintro e W4 ⟨rfl, hb⟩
      replace hBr := thru hBr hb
      clear hb
      go_wp2_with fail
      exact ⟨⟨i + 1, by omega, by go_num, hBr⟩, by simp [intOf]; omega⟩
    · obtain rfl : i = 2 := by omega
      rw [show ((2 : Nat) : Int) = 2 from rfl]
      clear p0 p1 O0 O1
      go_wp2_with fail
      replace hB := al (thru hB hBr) (.cells #[.int .i64 m, .int .i64 M] 3)
      have q0 : (wr.alloc (.cells #[.int .i64 m, .int .i64 M] 3)).cell? ⟨wr.heap.size, 0, none⟩ = some (.int .i64 m) := by go_simp
      have q1 : (wr.alloc (.cells #[.int .i64 m, .int .i64 M] 3)).cell? ⟨wr.heap.size, 1, none⟩ = some (.int .i64 M) := by go_simp
      obtain ⟨c, hc⟩ : ∃ c, wr.heap.size = c := ⟨_, rfl⟩
      obtain ⟨V, hV⟩ : ∃ X, wr.alloc (.cells #[.int .i64 m, .int .i64 M] 3) = X := ⟨_, rfl⟩
      rw [hV] at hB q0 q1 ⊢
      rw [hc] at q0 q1 ⊢
      clear hc hV hBr hmin hmax hlt hi
      go_loopw [56] (fun u56 wr => ∃ i : Nat, i ≤ 2 ∧ u56 = .int .i64 (i : Int) ∧ Below V.heap.size V wr) (fun u56 _ => 2 - (intOf u56).toNat)
      case atStart => exact ⟨0, by omega, rfl, Below.refl _ _⟩
      case round =>
        obtain ⟨i, hi, rfl, hBr⟩ := hrel
        by_cases hlt : i < 2
        · have hki : decide ((i : Int) < 2) = true := by simp; omega
          obtain ⟨g, cp, hg⟩ : ∃ g, V.cell? ⟨c, i, none⟩ = some (.int .i64 g) ∧ vldS g 0 = false := by
            by_cases h0 : i = 0
            · subst h0; exact ⟨_, q0, vm⟩
            · obtain rfl : i = 1 := by omega
              exact ⟨_, q1, vM⟩
          have cq := later hBr cp
          clear q0 q1 cp vm vM
          go_wp2_with fail
          refine (new_bad d g hg _).mono ?_
          rintro e W1 ⟨rfl, hb⟩
          replace hBr := thru hBr hb
          clear cq hb
          go_wp2_with fail
          refine (root_bad d g hg _).mono ?_
          rintro e W2 ⟨rfl, hb⟩
          replace hBr := thru hBr hb
          clear hb
          go_wp2_with fail
          refine (sign_bad d g 0 d hg _).mono ?_
          rintro e W3 ⟨rfl, hb⟩
          replace hBr := thru hBr hb
          clear hb
          go_wp2_with (refine wpList_allocTo 15 rfl rfl _ rfl sig_zero ?_; intro X1 a1 hb hz; refine Hid.out ?_)
          unfold Hid
          try simp only [Act.put, List.setIfInBounds_toArray, List.set_cons_zero, List.set_cons_succ]
          obtain ⟨b1, hb1⟩ : ∃ a, W3.heap.size = a := ⟨_, rfl⟩
          have s1 : V.heap.size ≤ b1 := hb1 ▸ hBr.size
          replace hBr := thru hBr hb
          rw [hb1] at a1 hz ⊢
          clear hb hb1
          go_wp2_with (refine wpList_storeB rfl rfl _ (.tmp 15) _ rfl (b := b1) (q := 0) rfl (n := 20) (v := zeroS) rfl a1 (fun j _ => sig_one _ _ _ _ _ j) sig_size ?_; intro Y1 t1; refine Hid.out ?_)
          unfold Hid
          replace hBr := t1.below _ _ (by omega) hBr
          have l1 := run_loadS t1.blk
          clear t1 a1
          go_wp2_with (refine wpList_loadN_w rfl _ _ rfl (b := b1) (q := 0) rfl l1 ?_)
          refine (same_zero _).mono ?_
          rintro e W4 ⟨rfl, hb⟩
          replace hBr := thru hBr hb
          clear l1 hb
          go_wp2_with fail
          exact ⟨⟨i + 1, by omega, by go_num, hBr⟩, by simp [intOf]; omega⟩
        · obtain rfl : i = 2 := by omega
          rw [show ((2 : Nat) : Int) = 2 from rfl]
          clear q0 q1 vm vM
          go_wp2_with fail
          refine (awake_any _).mono ?_
          rintro e W1 ⟨rfl, hb⟩
          go_wp2_with fail
          go_ret
          exact ⟨rfl, thru (thru hB hBr) hb⟩

end Go.Proofs.Ytjpicnfkmfjnoaa
