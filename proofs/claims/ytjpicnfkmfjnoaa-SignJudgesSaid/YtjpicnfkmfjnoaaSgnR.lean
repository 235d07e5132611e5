/- WALKS of the sign layer: New, the methods of a signer. -/
import Derived.Test.YtjpicnfkmfjnoaaSgnM
namespace Go.Proofs.Ytjpicnfkmfjnoaa
open Go.RowKit

/-- A signer that was made. -/
structure Sgr (W : World) (b : Nat) (seed : D64) (h : Nat) (r : D64) (n : Nat) : Prop where
  c0 : W.cell? ⟨b, 0, none⟩ = some (.int .u64 (num seed))
  c1 : W.cell? ⟨b, 1, none⟩ = some (.int .i64 (h : Int))
  c2 : W.cell? ⟨b, 2, none⟩ = some (.int .u64 (num r))
  c3 : W.cell? ⟨b, 3, none⟩ = some (.int .i64 (n : Int))
  c4 : W.cell? ⟨b, 4, none⟩ = some (.bool true)
  f3 : W.frozen? ⟨b, 3, none⟩ = false
theorem Sgr.later {W W' : World} {b : Nat} {seed r : D64} {h n : Nat} (s : Sgr W b seed h r n) (hb : Below W.heap.size W W') : Sgr W' b seed h r n :=
  ⟨Go.Proofs.Ytjpicnfkmfjnoaa.later hb s.c0, Go.Proofs.Ytjpicnfkmfjnoaa.later hb s.c1, Go.Proofs.Ytjpicnfkmfjnoaa.later hb s.c2, Go.Proofs.Ytjpicnfkmfjnoaa.later hb s.c3, Go.Proofs.Ytjpicnfkmfjnoaa.later hb s.c4, (hb.frozen (World.block_lt_of_cell? _ _ s.c3)).trans s.f3⟩
theorem Sgr.lt {W : World} {b : Nat} {seed r : D64} {h n : Nat} (s : Sgr W b seed h r n) : b < W.heap.size := World.block_lt_of_cell? _ _ s.c0
theorem new_ok (seed : D64) (h : Nat) (h6 : h ≤ 6) (w : World) : Calls Try.prog 27 #[.int .u64 (num seed), .int .i64 (h : Int)] w fun e w' => ∃ b, e = .returned (.tuple #[.pointer (some ⟨b, 0, none⟩), .int .i64 0]) ∧ Sgr w' b seed h (Sgn.node seed h 0) 0 ∧ w.heap.size ≤ b ∧ Below w.heap.size w w' := by
  obtain ⟨r, hr⟩ : ∃ r, Sgn.node seed h 0 = r := ⟨_, rfl⟩
  have hro := root_ok seed h h6
  rw [hr] at hro ⊢
  clear hr
  go_enter Try.func27, Try.ntmps27
  go_wp2_with fail
  refine (hro _).mono ?_
  rintro e w1 ⟨rfl, hb⟩
  clear hro
  go_wp2_with fail
  refine bodyPost_ret (v := .tuple #[.pointer (some ⟨w1.heap.size, 0, none⟩), .int .i64 0]) (by simp [results, Try.f27, go_sem]) rfl ⟨w1.heap.size, rfl, ⟨by go_simp, by go_simp, by go_simp, by go_simp, by go_simp, by go_simp⟩, hb.size, al hb _⟩
theorem left_made (b : Nat) (seed r : D64) (h n P : Nat) (w : World) (s : Sgr w b seed h r n) (hP : (h = 0 ∧ P = 1) ∨ (h = 1 ∧ P = 2) ∨ (h = 2 ∧ P = 4)) (hn : n ≤ P) : Calls Try.prog 25 #[.pointer (some ⟨b, 0, none⟩)] w fun e w' => e = .returned (.int .i64 ((P - n : Nat) : Int)) ∧ Below w.heap.size w w' := by
  have hB := Below.refl w.heap.size w
  have c3 := s.c3
  have c4 := s.c4
  rcases hP with ⟨rfl, rfl⟩ | ⟨rfl, rfl⟩ | ⟨rfl, rfl⟩
  · have c1 : w.cell? ⟨b, 1, none⟩ = some (.int .i64 0) := s.c1
    have HP : Hid (((1 : Int) - (n : Int)) = ((1 - n : Nat) : Int)) := by show _ = _; omega
    have hnI : (0 : Int) ≤ n ∧ (n : Int) ≤ 4 := by omega
    have hp2 : wrap64 (1 - (n : Int)) = 1 - (n : Int) := IntWalk.wrap64_in _ (by omega)
    have HW := Lib.hid hp2
    clear s hp2
    go_enter Try.func25, Try.ntmps25
    go_wp2_with fail
    refine wp_region_sched (fun W => W.cell? ⟨b, 1, none⟩ = some (.int .i64 0) ∧ W.cell? ⟨b, 3, none⟩ = some (.int .i64 (n : Int)) ∧ Below w.heap.size w W) (.done [0, 1, 2, 3, 4, 5, 6, 7, 8, 9, 10]) (by kernel_rfl) (by kernel_rfl) (fun _ _ _ _ _ h => h) ⟨(by go_simp), (by go_simp), hB.drew⟩ ?_
    clear c1 c3 hB
    rintro V ⟨c1, c3, hB⟩
    rw [wpSched]
    simp only [pick, List.map_cons, List.map_nil, Array.getD_eq_getD_getElem?, List.getElem?_toArray, List.getElem?_cons_succ, List.getElem?_cons_zero, Option.getD_some]
    have kc1 := plusW_cell c1
    have kc3 := plusW_cell c3
    repeat (first | go_big_quiet_step (fail) | quiet_step (fail))
    refine wpQuiet_nil ?_
    clear kc1 kc3
    go_wp2_with fail
    go_ret
    exact ⟨by rw [← HP.out]; rfl, hB⟩
  · have c1 : w.cell? ⟨b, 1, none⟩ = some (.int .i64 1) := s.c1
    have HP : Hid (((2 : Int) - (n : Int)) = ((2 - n : Nat) : Int)) := by show _ = _; omega
    have hnI : (0 : Int) ≤ n ∧ (n : Int) ≤ 4 := by omega
    have hp2 : wrap64 (2 - (n : Int)) = 2 - (n : Int) := IntWalk.wrap64_in _ (by omega)
    have HW := Lib.hid hp2
    clear s hp2
    go_enter Try.func25, Try.ntmps25
    go_wp2_with fail
    refine wp_region_sched (fun W => W.cell? ⟨b, 1, none⟩ = some (.int .i64 1) ∧ W.cell? ⟨b, 3, none⟩ = some (.int .i64 (n : Int)) ∧ Below w.heap.size w W) (.done [0, 1, 2, 3, 4, 5, 6, 7, 8, 9, 10]) (by kernel_rfl) (by kernel_rfl) (fun _ _ _ _ _ h => h) ⟨(by go_simp), (by go_simp), hB.drew⟩ ?_
    clear c1 c3 hB
    rintro V ⟨c1, c3, hB⟩
    rw [wpSched]
    simp only [pick, List.map_cons, List.map_nil, Array.getD_eq_getD_getElem?, List.getElem?_toArray, List.getElem?_cons_succ, List.getElem?_cons_zero, Option.getD_some]
    have kc1 := plusW_cell c1
    have kc3 := plusW_cell c3
    repeat (first | go_big_quiet_step (fail) | quiet_step (fail))
    refine wpQuiet_nil ?_
    clear kc1 kc3
    go_wp2_with fail
    go_ret
    exact ⟨by rw [← HP.out]; rfl, hB⟩
  · have c1 : w.cell? ⟨b, 1, none⟩ = some (.int .i64 2) := s.c1
    have HP : Hid (((4 : Int) - (n : Int)) = ((4 - n : Nat) : Int)) := by show _ = _; omega
    have hnI : (0 : Int) ≤ n ∧ (n : Int) ≤ 4 := by omega
    have hp2 : wrap64 (4 - (n : Int)) = 4 - (n : Int) := IntWalk.wrap64_in _ (by omega)
    have HW := Lib.hid hp2
    clear s hp2
    go_enter Try.func25, Try.ntmps25
    go_wp2_with fail
    refine wp_region_sched (fun W => W.cell? ⟨b, 1, none⟩ = some (.int .i64 2) ∧ W.cell? ⟨b, 3, none⟩ = some (.int .i64 (n : Int)) ∧ Below w.heap.size w W) (.done [0, 1, 2, 3, 4, 5, 6, 7, 8, 9, 10]) (by kernel_rfl) (by kernel_rfl) (fun _ _ _ _ _ h => h) ⟨(by go_simp), (by go_simp), hB.drew⟩ ?_
    clear c1 c3 hB
    rintro V ⟨c1, c3, hB⟩
    rw [wpSched]
    simp only [pick, List.map_cons, List.map_nil, Array.getD_eq_getD_getElem?, List.getElem?_toArray, List.getElem?_cons_succ, List.getElem?_cons_zero, Option.getD_some]
    have kc1 := plusW_cell c1
    have kc3 := plusW_cell c3
    repeat (first | go_big_quiet_step (fail) | quiet_step (fail))
    refine wpQuiet_nil ?_
    clear kc1 kc3
    go_wp2_with fail
    go_ret
    exact ⟨by rw [← HP.out]; rfl, hB⟩

section
variable {P : Program} {ops : Array Oper} {o : Oper} {a : Act} {w : World} {Q : Exit → Act → World → Prop}
theorem wp_storeN {K : Act → World → Prop} (hd : o.dst = none) (t : TypeId) (p x : Operand) (ho : o.op = .store t p x) {b q : Nat} (hp : a.eval p = .pointer (some ⟨b, q, none⟩)) {w2 : World} (hrun : (storeVar t ⟨b, q, none⟩ (a.eval x)).run P w = .ok () w2)
    (h : K a w2) : o.wp P a w K Q := by
  unfold Oper.wp
  simp [execOp, ho, hp, Instr.storeAt, Instr.sureAddr, hrun, Result.andThen]
  have e : a.put o.dst undef = a := by rw [hd]; rfl
  show K (a.put o.dst undef) w2
  rw [e]
  exact h
end
theorem ssign_none (b : Nat) (seed r d : D64) (h P : Nat) (w : World) (s : Sgr w b seed h r P) (hP : (h = 0 ∧ P = 1) ∨ (h = 1 ∧ P = 2) ∨ (h = 2 ∧ P = 4)) : Calls Try.prog 24 #[.pointer (some ⟨b, 0, none⟩), .int .u64 (num d)] w fun e w' => e = .returned (.tuple #[aggN 20 zeroS, .int .i64 6]) ∧ Below w.heap.size w w' := by
  have hmf : ∀ (fn : Fn) (first cap : Array Value) (w : World), (Instr.makeFunc fn first cap).run Try.prog w = .ok (.func fn first cap) w := fun _ _ _ _ => rfl
  go_enter Try.func24, Try.ntmps24
  go_wp2_with (refine wpList_allocTo 4 rfl rfl _ rfl sig_zero ?_; intro X1 a1 hb hz; refine Hid.out ?_)
  unfold Hid
  try simp only [Act.put, List.setIfInBounds_toArray, List.set_cons_zero, List.set_cons_succ]
  have s1 := s.later hb
  have k4 := s1.c4
  have hle := left_made b seed r h P P X1 s1 hP (Nat.le_refl _)
  rw [Nat.sub_self] at hle
  obtain ⟨b1, hb1⟩ : ∃ a, w.heap.size = a := ⟨_, rfl⟩
  rw [hb1] at a1 hz ⊢
  clear s s1
  go_wp2_with fail
  refine hle.mono ?_
  rintro e X2 ⟨rfl, hb2⟩
  replace a1 := a1.later hb2
  replace hb := thru hb hb2
  clear hle k4 hb2
  go_wp2_with (refine wpList_storeB rfl rfl _ (.tmp 4) _ rfl (b := b1) (q := 0) rfl (n := 20) (v := zeroS) rfl a1 (fun j _ => sig_one _ _ _ _ _ j) sig_size ?_; intro Y1 t1; refine Hid.out ?_)
  unfold Hid
  have hB := t1.below w.heap.size w (by omega) hb
  have l1 := run_loadS t1.blk
  clear t1 a1
  go_wp2_with fail
  refine bodyPost_ret (v := .tuple #[aggN 20 zeroS, .int .i64 6]) ?_ rfl ⟨rfl, hB⟩
  rw [results_cell_tmp rfl]
  simp [asAddr, Result.andThen]
  rw [l1]
set_option maxHeartbeats 1000000 in
theorem ssign_ok (b : Nat) (seed r d : D64) (h n P : Nat) (w : World) (s : Sgr w b seed h r n) (hP : (h = 0 ∧ P = 1) ∨ (h = 1 ∧ P = 2) ∨ (h = 2 ∧ P = 4)) (hn : n < P) : Calls Try.prog 24 #[.pointer (some ⟨b, 0, none⟩), .int .u64 (num d)] w fun e w' =>
    ∃ x c, e = .returned (.tuple #[aggN 20 (sigV (n : Int) (fun i => Sgn.val seed (u8z (n : Int)) (u8z ((n : Int) / 256)) i (Sgn.dig d i)) x h c), .int .i64 0]) ∧ OwnsW w.heap.size w' x c (Sgn.path seed h n) ∧ Turns (fun k => k = b) w w' ∧ Sgr w' b seed h r (n + 1) := by
  have hmf : ∀ (fn : Fn) (first cap : Array Value) (w : World), (Instr.makeFunc fn first cap).run Try.prog w = .ok (.func fn first cap) w := fun _ _ _ _ => rfl
  have hq : n < 2 ^ h := by rcases hP with ⟨rfl, rfl⟩ | ⟨rfl, rfl⟩ | ⟨rfl, rfl⟩ <;> simpa using hn
  have hh : h ≤ 6 := by omega
  have hbw := s.lt
  have hn4 : n ≤ 4 := by omega
  go_enter Try.func24, Try.ntmps24
  go_wp2_with (refine wpList_allocTo 4 rfl rfl _ rfl sig_zero ?_; intro X1 a1 hb hz; refine Hid.out ?_)
  unfold Hid
  try simp only [Act.put, List.setIfInBounds_toArray, List.set_cons_zero, List.set_cons_succ]
  have s1 := s.later hb
  have k4 := s1.c4
  have hle := left_made b seed r h n P X1 s1 hP (by omega)
  obtain ⟨z, hz0⟩ : ∃ z, P - n = z := ⟨_, rfl⟩
  have hz1 : 0 < z := by omega
  rw [hz0] at hle
  have hzI : ((z : Int) == 0) = false := by
    rw [beq_eq_false_iff_ne]
    omega
  obtain ⟨b1, hb1⟩ : ∃ a, w.heap.size = a := ⟨_, rfl⟩
  have HB1 := Lib.hid hb1
  rw [hb1] at a1 hz hbw ⊢
  clear s hz0 hz1 hb1
  go_wp2_with fail
  refine hle.mono ?_
  rintro e X2 ⟨rfl, hb2⟩
  replace a1 := a1.later hb2
  have s2 := s1.later hb2
  have hz2 := hb2.size
  replace hb := thru hb hb2
  clear hle k4 hb2 s1
  have c0 := s2.c0
  have c1 := s2.c1
  have c2 := s2.c2
  have c3 := s2.c3
  have c4 := s2.c4
  have f3 := s2.f3
  clear s2
  go_wp2_with fail
  have hbX := World.block_lt_of_cell? _ _ c0
  have sU : Sgr (X2.setCell ⟨b, 3, none⟩ (.int .i64 ((n : Int) + 1))) b seed h r (n + 1) := ⟨by go_simp, by go_simp, by go_simp, by go_simp, by go_simp, by go_simp⟩
  have aU := a1.other (p := ⟨b, 3, none⟩) (show b ≠ b1 by omega) (.int .i64 ((n : Int) + 1))
  have tU : Turns (fun k => k = b) w (X2.setCell ⟨b, 3, none⟩ (.int .i64 ((n : Int) + 1))) := Turns.setCell (T := fun k => k = b) (Turns.of_below hb (Nat.le_refl _)) (p := ⟨b, 3, none⟩) (fun _ => rfl) _
  have zU : b1 < (X2.setCell ⟨b, 3, none⟩ (.int .i64 ((n : Int) + 1))).heap.size := World.block_lt_of_cell? _ _ (aU.at 0 (by omega)).1
  obtain ⟨U, hU⟩ : ∃ X, X2.setCell ⟨b, 3, none⟩ (.int .i64 ((n : Int) + 1)) = X := ⟨_, rfl⟩
  rw [hU] at sU aU tU zU ⊢
  clear hU c0 c1 c2 c3 c4 f3 a1 hb hbX
  obtain ⟨m, hm⟩ : ∃ m, n + 1 = m := ⟨_, rfl⟩
  rw [hm] at sU
  have HMM := Lib.hid hm
  have hmI : (m : Int) - 1 = (n : Int) := by omega
  have hmI2 : (n : Int) + 1 = (m : Int) := by omega
  have hmw : wrap64 ((m : Int) - 1) = (n : Int) := by rw [hmI]; exact IntWalk.wrap64_in _ (by omega)
  have c0 := sU.c0
  have c1 := sU.c1
  have c3 := sU.c3
  rw [hmI2]
  clear hm hmI2 hmI
  refine wp_region_schedB (B := b1) (fun W => W.cell? ⟨b, 0, none⟩ = some (.int .u64 (num seed)) ∧ W.cell? ⟨b, 1, none⟩ = some (.int .i64 (h : Int)) ∧ W.cell? ⟨b, 3, none⟩ = some (.int .i64 (m : Int)) ∧ Below U.heap.size U W) (.one [0, 1, 2, 3, 4, 5, 6, 7, 8, 9, 10, 11, 12, 13] 14 (.one [15, 16] 17 (.done [18]))) (by kernel_rfl) (by kernel_rfl) (fun _ _ _ _ _ h => h) ⟨c0, c1, c3, (Below.refl _ U).drew⟩ ?_
  clear c0 c1 c3
  rintro W ⟨c0, c1, c3, hUW⟩
  rw [wpSchedB]
  simp only [pick, List.map_cons, List.map_nil, Array.getD_eq_getD_getElem?, List.getElem?_toArray, List.getElem?_cons_succ, List.getElem?_cons_zero, Option.getD_some]
  have k0 := plusB_cell (B := b1) c0 hbw
  have k1 := plusB_cell (B := b1) c1 hbw
  have k3 := plusB_cell (B := b1) c3 hbw
  repeat (first | go_big_quiet_step (fail) | quiet_step (fail))
  refine wpQuiet_nil ?_
  clear k0 k1 k3
  refine heavyB_want (by rfl) (fun K' hK' => ?_)
  go_simp
  refine (sign_ok seed h n d hh hq _).mono ?_
  rintro e W1 ⟨x, c, rfl, ho, hb3⟩
  have hsz := hUW.size
  refine hK' _ _ (hb3.mono (by omega)) ?_
  clear hK' K'
  obtain ⟨f, hf⟩ : ∃ f, (fun i => Sgn.val seed (u8z (n : Int)) (u8z ((n : Int) / 256)) i (Sgn.dig d i)) = f := ⟨_, rfl⟩
  have HF := Lib.hid hf
  rw [hf]
  replace hUW := thru hUW hb3
  have hw1 : b1 ≤ W.heap.size := by omega
  clear hf hb3 c0 c1 c3
  try simp only [Act.put, List.setIfInBounds_toArray, List.set_cons_zero, List.set_cons_succ]
  rw [wpSchedB]
  simp only [pick, List.map_cons, List.map_nil, Array.getD_eq_getD_getElem?, List.getElem?_toArray, List.getElem?_cons_succ, List.getElem?_cons_zero, Option.getD_some]
  repeat (first | go_big_quiet_step (fail) | quiet_step (fail))
  refine wpQuiet_nil ?_
  refine heavyB_want (by rfl) (fun K' hK' => ?_)
  obtain ⟨W2, hs, hset⟩ := run_storeS (aU.later hUW) (n : Int) f x h c
  refine wp_storeN rfl _ _ _ rfl (b := b1) (q := 0) rfl hs (hK' _ _ (hset.below _ _ (Nat.le_refl _) (Below.refl _ _)) ?_)
  clear hK' K'
  rw [wpSchedB]
  simp only [pick, List.map_cons, List.map_nil, Array.getD_eq_getD_getElem?, List.getElem?_toArray, List.getElem?_cons_succ, List.getElem?_cons_zero, Option.getD_some]
  repeat (first | go_big_quiet_step (fail) | quiet_step (fail))
  refine wpQuiet_nil ?_
  have l1 := run_loadS hset.blk
  have tW : Turns (fun k => k = b ∨ k = b1) w W2 := hset.turns _ _ (fun _ => .inr rfl) ((tU.mono (T' := fun k => k = b ∨ k = b1) (fun _ _ h => .inl h)).trans' (Turns.of_below (T := fun _ => False) hUW (Nat.le_refl _)) (fun _ _ e => e.elim))
  have tW2 : Turns (fun k => k = b) w W2 := tW.mono (fun i hi e => by
    rcases e with e | e
    · exact e
    · have := HB1.out; omega)
  have tZ := hset.turns (fun k => k = b1) W1 (fun _ => rfl) (Turns.refl _ _)
  have hrow := ho.low
  have ho2 := (ho.turn tZ (fun k hk e => by have h0 := (hrow k hk).1; have e' : k = b1 := e; omega)).weaken (show w.heap.size ≤ W.heap.size by have := HB1.out; omega)
  have sW := sU.later hUW
  have sW2 : Sgr W2 b seed h r m := ⟨(hset.cell ⟨b, 0, none⟩ (fun e _ => absurd e (by simp <;> omega))).trans sW.c0, (hset.cell ⟨b, 1, none⟩ (fun e _ => absurd e (by simp <;> omega))).trans sW.c1, (hset.cell ⟨b, 2, none⟩ (fun e _ => absurd e (by simp <;> omega))).trans sW.c2, (hset.cell ⟨b, 3, none⟩ (fun e _ => absurd e (by simp <;> omega))).trans sW.c3, (hset.cell ⟨b, 4, none⟩ (fun e _ => absurd e (by simp <;> omega))).trans sW.c4, (hset.frozen _).trans sW.f3⟩
  clear hset aU hs sU tU zU hUW ho sW tW tZ hrow
  go_wp2_with fail
  refine bodyPost_ret (v := .tuple #[aggN 20 (sigV (n : Int) f x h c), .int .i64 0]) ?_ rfl ⟨x, c, by rw [HF.out], ho2, tW2, by rw [HMM.out]; exact sW2⟩
  rw [results_cell_tmp rfl]
  simp [asAddr, Result.andThen]
  rw [l1]

end Go.Proofs.Ytjpicnfkmfjnoaa
